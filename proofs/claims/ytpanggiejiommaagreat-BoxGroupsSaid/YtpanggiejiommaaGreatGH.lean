/- Walks of the box seat: BoxGroups. -/
import Derived.Test.YtpanggiejiommaaGreatGX
import Derived.Test.YtpanggiejiommaaGreatGL
namespace Go.Proofs.YtpanggiejiommaaGreat
open Go Go.Am
set_option autoImplicit false
set_option linter.all false
set_option maxRecDepth 100000
attribute [local simp] RC_skip RC_ops RC_draw RC_seq RC_cond RC_block RC_loop RC_exit RC_ret RC_orig RO_nil RO_cons RO_guardN flipA_bool flipA_un R1_mv R1_pick R1_alloc R1_box R1_build R1_bsl R1_load R1_store R1_nilc R1_ib R1_sh R1_sb R1_bb R1_un R1_cvi R1_mkif R1_mkfn R1_mksl R1_fa R1_fld R1_ia R1_iaa R1_ixs R1_lenS R1_lenT R1_lenM R1_ext R1_call R1_app R1_gen RD_nil RD_cons RD_guardN D1_mv D1_pick D1_build D1_nilc D1_ib D1_sh D1_sb D1_bb D1_un D1_cvi D1_mkif D1_mkfn D1_fa D1_fld D1_ia D1_iaa D1_ixs D1_lenS D1_lenT D1_ext D1_load D1_alloc D1_box D1_bsl D1_store D1_call D1_app KF_nil KF_inN KF_outN KF_ainN KF_aoutN
attribute [local simp] xv_k xv_t put_some put_none SM_ca endC_ret endC_tmps intA cmp_eql cmp_neq cmp_lss cmp_leq cmp_gtr cmp_geq bindM_some bindM_none ptrM_ptr intM_int strM_str boolM_bool tupM_tup cellsM_cells BrM_true BrM_false BrM_not gdM_true gdM_false gdM_un mustM_true unA eqOp resA_nil resA_tmp tupA gt_zero gt_succ gt_nil gt_set rd_fold AV.cells AV.one fillA setL_one ldA_one get_push_new get_push_old get_set_new get_set_old rd_push_new rd_push_old rd_set_new rd_set_old
attribute [local simp] lay_zero lay_succ
attribute [local simp] call6 call7 call8 call9 call10

theorem call5 (x y args : List AV) (h : Heap) (k : AV → Heap → Prop) (m : Fz k) : cvM Tryz.prog (.fn (.func 5) x y) args h k m = caM Tryz.prog 5 (x ++ args ++ y) h k ⟨⟩ := by
  unfold cvM caM
  rw [callV_func 5 x y args (by kernel_rfl)]
  rfl

attribute [local simp] call5
theorem mask8 {n : Nat} (hn : n ≤ 8) : ∃ S : Int, shiftA .shl .u8 1 n = some (.int .u8 S) ∧ IntKind.u8.wrap (S - 1) = ((2 ^ n - 1 : Nat) : Int) := by
  by_cases h : n < 8
  · exact ⟨_, shl8 h, (by decide +kernel : ∀ n : Nat, n < 8 → IntKind.u8.wrap (((2 ^ n : Nat) : Int) - 1) = ((2 ^ n - 1 : Nat) : Int)) n h⟩
  · have : n = 8 := by omega
    subst this
    exact ⟨0, shl8_8, by decide +kernel⟩

set_option maxHeartbeats 4000000 in
theorem groups_ok (h : Heap) (wv tv ov : AV) (ws : List (List Int)) (tr ot : List Int) (one n : Nat) (hw : Lists h wv ws) (ht : IntS h tv tr) (hot : IntS h ov ot) (hone : one < 256) (hn : ws.length = n) (hws : n < 2 ^ 63) :
    ACa Tryz.prog 3 [wv, tv, ov, .int .u8 one] h fun r h' => r = .bool true ∧ Grow h h' := by
  refine ACa.introR follows_any look3 fun hl => ?_
  have hsl : slLen wv = some n := hn ▸ hw.slLen
  delta c3; simp -dsimp
  refine caM.by (alive_ok h) ?_
  rintro _ h' - ⟨rfl, rfl⟩
  simp -dsimp
  obtain ⟨xs, hx1, hx2, hx3⟩ := id hw
  refine caM.by (wide_ok h' wv xs hx1 (by omega) (fun x hx => ?_)) ?_
  · obtain ⟨i, hi⟩ := List.mem_iff_getElem?.1 hx
    obtain ⟨l, hlw⟩ : ∃ l, ws[i]? = some l := ⟨_, List.getElem?_eq_getElem (by rw [← hx2]; exact (List.getElem?_eq_some_iff.1 hi).1)⟩
    have := (hx3 i x l hi hlw).slLen
    unfold isSl
    rw [this]
    unfold slLen at this
    cases x <;> simp at this <;> simp [lnAV, this]
  rintro _ h0 - ⟨rfl, rfl⟩
  generalize hW : (decide (xs.length > 12) || xs.any fun x => decide (lnAV x > 12)) = W
  cases W with
  | true => simp -dsimp [Grow.refl]
  | false =>
    have h12 : n ≤ 12 := by simp at hW; omega
    simp -dsimp
    refine caM.by (wishes_ok h0 wv ws hw (by omega)) ?_
    rintro _ h1 hl1 ⟨rfl, g1⟩
    rw [hn]
    generalize hWi : decide (1 ≤ n ∧ n ≤ 8 ∧ ∀ l ∈ ws, IsOrd n l) = Wi
    cases Wi with
    | false => simp -dsimp [g1]
    | true =>
      obtain ⟨hn1, h8, ho⟩ := of_decide_eq_true hWi
      simp -dsimp [hsl]
      refine caM.by (order_ok h1 tv n tr (ht.grow hl g1) (by omega)) ?_
      rintro _ h2 hl2 ⟨rfl, g2'⟩
      have g2 := g1.trans g2'
      by_cases hT : IsOrd n tr
      · simp -dsimp [hT, hsl]
        refine caM.by (order_ok h2 ov n ot (hot.grow hl g2) (by omega)) ?_
        rintro _ h3 hl3 ⟨rfl, g3'⟩
        have g3 := g2.trans g3'
        by_cases hO : IsOrd n ot
        · have hn0 : ¬ n = 0 := by omega
          obtain ⟨I, hI, hmod⟩ : ∃ I : Nat, I < n ∧ Int.tmod (one : Int) (n : Int) = (I : Int) := ⟨one % n, Nat.mod_lt _ (by omega), rfl⟩
          obtain ⟨P, hP, eP⟩ : ∃ P : Nat, P = 2 ^ I ∧ shiftA .shl .u8 1 I = some (.int .u8 P) := ⟨_, rfl, shl8 (by omega)⟩
          simp -dsimp [hO, hsl, hn0, wrap_i64 (n := (one : Int)) (by omega) (by omega), hmod, eP]
          have hP0 : 0 < P := by rw [hP]; exact Nat.pow_pos (by decide)
          have hPn : P < 2 ^ n := by rw [hP]; exact Nat.pow_lt_pow_right (by decide) hI
          refine caM.by (better_ok h3 wv tv ws tr n P (hw.grow hl g3) (ht.grow hl g3) hn (by omega) h8 ho hT hP0 hPn) ?_
          rintro _ h4 hl4 ⟨rfl, g4'⟩
          have g4 := g3.trans g4'
          obtain ⟨row, hrow⟩ : ∃ row, ws[I]? = some row := ⟨_, List.getElem?_eq_getElem (by omega)⟩
          obtain ⟨t, htI⟩ : ∃ t, tr[I]? = some t := ⟨_, List.getElem?_eq_getElem (by rw [hT.1]; omega)⟩
          obtain ⟨wb, wp, rv, w1, w2, w3⟩ := (hw.grow hl g4).elem hl4 hrow
          obtain ⟨tb, tp, t1, -, t2, -⟩ := (ht.grow hl g4).elem hl4 (i := I) (y := .int .i64 t) (by simp -dsimp [htI])
          have hor := ho row (List.mem_of_getElem? hrow)
          rw [hP, one_law h8 hI hrow htI hor]
          simp -dsimp [w1, w2, t1, t2]
          refine caM.by (k0 := fun r h' => r = .int .i64 (like row I) ∧ h' = h4) (liking_ok h4 rv I row w3 (by rw [hor.1]; omega)) ?_
          rintro _ h5 - ⟨rfl, rfl⟩
          simp -dsimp [w1, w2, t1, t2]
          refine caM.by (k0 := fun r h' => r = .int .i64 (like row t) ∧ h' = h5) (liking_ok h5 rv t row w3 (by rw [hor.1]; omega)) ?_
          rintro _ h6 - ⟨rfl, rfl⟩
          simp -dsimp [w1, w2, t1, t2]
          simp -dsimp [hsl]
          refine wcM.loopN follows_any 138 (fun i => n - i) (fun i ts h' => ∃ W B : Bool, i ≤ n ∧ gt ts 0 = wv ∧ gt ts 1 = tv ∧ gt ts 2 = ov ∧ gt ts 9 = .bool true ∧ gt ts 13 = .bool W ∧ gt ts 14 = .bool B ∧ gt ts 81 = wv ∧ gt ts 82 = .int .i64 n ∧ gt ts 83 = .int .i64 i ∧ h' = h6 ∧
            (W = false → ∀ (j : Nat) row x t, j < i → ws[j]? = some row → ot[j]? = some x → tr[j]? = some t → like row x ≤ like row t) ∧
            (B = true → ∃ (j : Nat) (row : List Int) (x t : Int), j < i ∧ ws[j]? = some row ∧ ot[j]? = some x ∧ tr[j]? = some t ∧ like row x < like row t)) 0 rfl ⟨false, false, Nat.zero_le _, rfl, rfl, rfl, rfl, rfl, rfl, rfl, rfl, rfl, rfl, fun _ j _ _ _ hj => by omega, fun h => by cases h⟩ ?_
          rintro i ts h' - ⟨W, B, hi, u0, u1, u2, u9, u13, u14, u81, u82, u83, rfl, hWf, hBt⟩
          delta c3l0; simp -dsimp [u0, u1, u2, u9, u13, u14, u81, u82, u83]
          refine Br_dec (fun hlt => ?_) (fun hge => ?_)
          · have hlt : i < n := by omega
            obtain ⟨row2, hrow2⟩ : ∃ row, ws[i]? = some row := ⟨_, List.getElem?_eq_getElem (by omega)⟩
            obtain ⟨t', ht'⟩ : ∃ t, tr[i]? = some t := ⟨_, List.getElem?_eq_getElem (by rw [hT.1]; omega)⟩
            obtain ⟨o', ho'⟩ : ∃ t, ot[i]? = some t := ⟨_, List.getElem?_eq_getElem (by rw [hO.1]; omega)⟩
            obtain ⟨wb2, wp2, rv2, v1, v2, v3⟩ := (hw.grow hl g4).elem hl4 hrow2
            obtain ⟨tb2, tp2, s1, -, s2, -⟩ := (ht.grow hl g4).elem hl4 (i := i) (y := .int .i64 t') (by simp -dsimp [ht'])
            obtain ⟨ob2, op2, q1, -, q2, -⟩ := (hot.grow hl g4).elem hl4 (i := i) (y := .int .i64 o') (by simp -dsimp [ho'])
            have hor2 := ho row2 (List.mem_of_getElem? hrow2)
            simp -dsimp [u0, u1, u2, u9, u13, u14, u81, u82, u83, v1, v2, s1, s2, q1, q2]
            refine caM.by (k0 := fun r h2 => r = .int .i64 (like row2 o') ∧ h2 = h') (liking_ok h' rv2 o' row2 v3 (by rw [hor2.1]; omega)) ?_
            rintro _ h7 - ⟨rfl, rfl⟩
            simp -dsimp [u0, u1, u2, u9, u13, u14, u81, u82, u83, v1, v2, s1, s2, q1, q2]
            refine caM.by (k0 := fun r h2 => r = .int .i64 (like row2 t') ∧ h2 = h7) (liking_ok h7 rv2 t' row2 v3 (by rw [hor2.1]; omega)) ?_
            rintro _ h9 - ⟨rfl, rfl⟩
            have nx : ∀ W' B' : Bool, W' = (W || decide (like row2 o' > like row2 t')) → B' = (B || decide (like row2 o' < like row2 t')) →
                (W' = false → ∀ (j : Nat) row x t, j < i + 1 → ws[j]? = some row → ot[j]? = some x → tr[j]? = some t → like row x ≤ like row t) ∧
                (B' = true → ∃ (j : Nat) (row : List Int) (x t : Int), j < i + 1 ∧ ws[j]? = some row ∧ ot[j]? = some x ∧ tr[j]? = some t ∧ like row x < like row t) := by
              rintro W' B' rfl rfl
              refine ⟨fun h j row x t hj e1 e2 e3 => ?_, fun h => ?_⟩
              · rw [Bool.or_eq_false_iff] at h
                by_cases hji : j = i
                · subst hji
                  rw [hrow2] at e1; rw [ho'] at e2; rw [ht'] at e3
                  cases e1; cases e2; cases e3
                  have := of_decide_eq_false h.2; omega
                · exact hWf h.1 j row x t (by omega) e1 e2 e3
              · rw [Bool.or_eq_true] at h
                rcases h with h | h
                · obtain ⟨j, row, x, t, hj, e⟩ := hBt h
                  exact ⟨j, row, x, t, by omega, e⟩
                · exact ⟨i, row2, o', t', by omega, hrow2, ho', ht', of_decide_eq_true h⟩
            cases W <;> cases B <;>
            · simp -dsimp [u0, u1, u2, u9, u13, u14, u81, u82, u83, wrap_i64 (n := (i : Int) + 1) (by omega) (by omega)]
              refine Next.intro (i + 1) rfl ⟨_, _, hlt, rfl, rfl, rfl, rfl, rfl, rfl, rfl, rfl, rfl, rfl, nx _ _ ?_ ?_⟩ (by omega) <;> simp
          · have hi' : i = n := by omega
            subst hi'
            obtain ⟨S, eS, eG⟩ := mask8 h8
            obtain ⟨G, hG⟩ : ∃ G, G = 2 ^ i - 1 := ⟨_, rfl⟩
            rw [← hG] at eG
            simp -dsimp [u0, u1, u2, u9, u13, u14, u81, u82, u83, hsl, eS, eG]
            have hG0 : 0 < G := by rw [hG]; have : 2 ^ 1 ≤ 2 ^ i := Nat.pow_le_pow_right (by decide) hn1; omega
            have hGn : G < 2 ^ i := by rw [hG]; have : 2 ^ 1 ≤ 2 ^ i := Nat.pow_le_pow_right (by decide) hn1; omega
            have hG8 : G < 256 := Nat.lt_of_lt_of_le hGn (Nat.pow_le_pow_right (by decide) h8 : 2 ^ i ≤ 2 ^ 8)
            refine caM.by (better_ok h' wv tv ws tr i G (hw.grow hl g4) (ht.grow hl g4) hn (by omega) h8 ho hT hG0 hGn) ?_
            rintro _ h10 - ⟨rfl, g10⟩
            have g := g4.trans g10
            obtain ⟨D, hD⟩ : ∃ D, D = deal ws tr G i 0 G false := ⟨_, rfl⟩
            rw [← hD]
            have hall : W = false → B = true → D = true := fun hWv hBv => by
              rw [hD, hG]
              refine all_law h8 hn ho hT hO (fun j row x t e1 e2 e3 => hWf hWv j row x t (by have := (List.getElem?_eq_some_iff.1 e1).1; omega) e1 e2 e3) i 0 _ false (by omega) (by omega) (fun j x _ hx => ?_) ?_
              · have := hO.2.1 x (List.mem_of_getElem? hx)
                exact bit_all h8 (by omega)
              · obtain ⟨j, row, x, t, hj, e⟩ := hBt hBv
                exact .inr ⟨j, row, x, t, Nat.zero_le _, e⟩
            cases W with
            | true => simp -dsimp [u9, u13, u14]; exact g
            | false => cases B with
              | false => simp -dsimp [u9, u13, u14]; exact g
              | true =>
                rw [hall rfl rfl]
                simp -dsimp [u9, u13, u14]; exact g
        · simp -dsimp [hO, g3]
      · simp -dsimp [hT, g2]
end Go.Proofs.YtpanggiejiommaaGreat

/- Walks of the box seat, for BoxGroups: numbers, wide, Liking, Order, Wishes. -/
import Derived.Test.YtpanggiejiommaaGreatCodeG
namespace Go.Proofs.YtpanggiejiommaaGreat
open Go Go.Am
set_option autoImplicit false
set_option linter.all false
set_option maxRecDepth 100000
theorem follows_any : Tryz.prog.follows .mixedOrders = true := by kernel_rfl
attribute [local simp] RC_skip RC_ops RC_draw RC_seq RC_cond RC_block RC_loop RC_exit RC_ret RC_orig RO_nil RO_cons RO_guardN flipA_bool flipA_un R1_mv R1_pick R1_alloc R1_box R1_build R1_bsl R1_load R1_store R1_nilc R1_ib R1_sh R1_sb R1_bb R1_un R1_cvi R1_mkif R1_mkfn R1_mksl R1_fa R1_fld R1_ia R1_iaa R1_ixs R1_lenS R1_lenT R1_lenM R1_ext R1_call R1_app R1_gen RD_nil RD_cons RD_guardN D1_mv D1_pick D1_build D1_nilc D1_ib D1_sh D1_sb D1_bb D1_un D1_cvi D1_mkif D1_mkfn D1_fa D1_fld D1_ia D1_iaa D1_ixs D1_lenS D1_lenT D1_ext D1_load D1_alloc D1_box D1_bsl D1_store D1_call D1_app KF_nil KF_inN KF_outN KF_ainN KF_aoutN
attribute [local simp] xv_k xv_t put_some put_none SM_ca endC_ret endC_tmps intA cmp_eql cmp_neq cmp_lss cmp_leq cmp_gtr cmp_geq bindM_some bindM_none ptrM_ptr intM_int strM_str boolM_bool tupM_tup cellsM_cells BrM_true BrM_false BrM_not gdM_true gdM_false gdM_un mustM_true unA eqOp resA_nil resA_tmp tupA gt_zero gt_succ gt_nil gt_set rd_fold AV.cells AV.one fillA setL_one ldA_one get_push_new get_push_old get_set_new get_set_old rd_push_new rd_push_old rd_set_new rd_set_old
attribute [local simp] lay_zero lay_succ
attribute [local simp] call80

theorem from_ok (h : Heap) (lo hi n : Int) : ACa Tryz.prog 39 [.int .i64 lo, .int .i64 hi, .int .i64 n] h fun v h' => v = .bool (decide (lo ≤ n) && decide (n ≤ hi)) ∧ h' = h := by
  refine ACa.introR follows_any look39 fun hl => ?_
  delta c39; simp -dsimp [Br_open]
  omega
theorem within_ok (h : Heap) (lo hi n : Int) : ACa Tryz.prog 29 [.int .i64 n, .int .i64 lo, .int .i64 hi] h fun v h' => v = .bool (decide (lo ≤ n) && decide (n ≤ hi)) ∧ h' = h := by
  refine ACa.introR follows_any look29 fun hl => ?_
  delta c29; simp -dsimp [Br_open]
  omega

def lnAV : AV → Nat | .sl _ _ n _ _ => n | _ => 0
def isSl (v : AV) : Prop := slLen v = some (lnAV v)
theorem wide_ok (h : Heap) (v : AV) (l : List AV) (hv : SlA false 1 h v l) (hn : l.length < 2 ^ 63) (hs : ∀ x ∈ l, isSl x) :
    ACa Tryz.prog 6 [v] h fun r h' => r = .bool (decide (l.length > 12) || l.any fun x => decide (lnAV x > 12)) ∧ h' = h := by
  refine ACa.introR follows_any look6 fun hl => ?_
  delta c6; simp -dsimp [hv.slLen]
  refine wcM.loopN follows_any 18 (fun i => l.length - i) (fun i ts h' => h' = h ∧ i ≤ l.length ∧ gt ts 0 = v ∧ gt ts 5 = v ∧ gt ts 6 = .int .i64 l.length ∧ gt ts 7 = .int .i64 i ∧ (∀ j x, j < i → l[j]? = some x → ¬ lnAV x > 12)) 0 rfl (by simp) ?_
  rintro i ts h' hl' ⟨rfl, hi, t0, t5, t6, t7, hno⟩
  delta c6l0; simp -dsimp [t0, t5, t6, t7, hv.slLen]
  refine Br_dec (fun hlt => ?_) (fun hge => ?_)
  · have hlt : i < l.length := by omega
    obtain ⟨y, hy⟩ : ∃ y, l[i]? = some y := ⟨_, List.getElem?_eq_getElem hlt⟩
    obtain ⟨b, p, e1, -, e2, -⟩ := hv.elem hl hy
    have hys := hs y (List.mem_of_getElem? hy)
    simp -dsimp [t0, t5, t6, t7, e1, e2, show slLen y = some (lnAV y) from hys]
    refine Br_dec (fun hw => ?_) (fun hw => ?_)
    · simp -dsimp
      exact .inr ⟨y, List.mem_of_getElem? hy, by omega⟩
    · simp -dsimp [t0, t5, t6, t7, wrap_i64 (n := (i : Int) + 1) (by omega) (by omega)]
      refine Next.intro (i + 1) rfl ⟨rfl, hlt, rfl, rfl, rfl, rfl, ?_⟩ (by omega)
      intro j x hj hx
      by_cases hji : j = i
      · subst hji; rw [hy] at hx; cases hx; omega
      · exact hno j x (by omega) hx
  · have : l.any (fun x => decide (12 < lnAV x)) = false := by
      rw [List.any_eq_false]
      intro x hx
      obtain ⟨j, hj⟩ := List.mem_iff_getElem?.1 hx
      have := hno j x (by have := (List.getElem?_eq_some_iff.1 hj).1; omega) hj
      simpa using this
    simp -dsimp [t0, hv.slLen, this]
    omega

theorem findIdx_at {α : Type} {p : α → Bool} : ∀ {l : List α} {i : Nat} {y : α}, (∀ j u, j < i → l[j]? = some u → p u = false) → l[i]? = some y → p y = true → l.findIdx p = i
  | [], _, _, _, h, _ => by simp at h
  | a :: l, 0, y, _, h, hp => by
    simp at h; subst h
    simp [List.findIdx_cons, hp]
  | a :: l, i + 1, y, hn, h, hp => by
    have h0 : p a = false := hn 0 a (by omega) rfl
    have := findIdx_at (l := l) (i := i) (y := y) (fun j u hj hu => hn (j + 1) u (by omega) (by simpa using hu)) (by simpa using h) hp
    simp [List.findIdx_cons, h0, this]
theorem findIdx_none {α : Type} {p : α → Bool} : ∀ {l : List α}, (∀ (j : Nat) (u : α), l[j]? = some u → p u = false) → l.findIdx p = l.length
  | [], _ => rfl
  | a :: l, hn => by
    have h0 : p a = false := hn 0 a rfl
    have := findIdx_none (l := l) (fun j u hu => hn (j + 1) u (by simpa using hu))
    simp [List.findIdx_cons, h0, this]

/-- A slice of integers. -/
abbrev IntS (h : Heap) (v : AV) (l : List Int) : Prop := SlA false 1 h v (l.map (.int .i64))

theorem liking_ok (h : Heap) (v : AV) (k : Int) (l : List Int) (hv : IntS h v l) (hn : l.length < 2 ^ 62) :
    ACa Tryz.prog 10 [v, .int .i64 k] h fun r h' => r = .int .i64 (l.findIdx (· == k)) ∧ h' = h := by
  refine ACa.introR follows_any look10 fun hl => ?_
  delta c10; simp -dsimp [hv.slLen]
  refine wcM.loopN follows_any 21 (fun i => l.length - i) (fun i ts h' => h' = h ∧ i ≤ l.length ∧ gt ts 0 = v ∧ gt ts 1 = .int .i64 k ∧ gt ts 5 = .int .i64 i ∧ (∀ j y, j < i → l[j]? = some y → y ≠ k)) 0 rfl (by simp) ?_
  rintro i ts h' hl' ⟨rfl, hi, t0, t1, t5, hno⟩
  delta c10l0; simp -dsimp [t0, t1, t5, hv.slLen]
  refine Br_dec (fun hlt => ?_) (fun hge => ?_)
  · have hlt : i < l.length := by omega
    obtain ⟨y, hy⟩ : ∃ y, l[i]? = some y := ⟨_, List.getElem?_eq_getElem hlt⟩
    obtain ⟨b, p, e1, -, e2, -⟩ := hv.elem hl (i := i) (y := .int .i64 y) (by simp -dsimp [hy])
    simp -dsimp [e1, e2, t0, t1, t5]
    refine Br_dec (fun he => ?_) (fun hne => ?_)
    · simp -dsimp [t5]
      rw [findIdx_at (i := i) (y := y) (fun j u hj hu => by simpa using hno j u hj hu) hy (by simpa using he)]
    · simp -dsimp [t0, t1, t5, wrap_i64 (n := (i : Int) + 1) (by omega) (by omega)]
      refine Next.intro (i + 1) rfl ⟨rfl, hlt, rfl, rfl, rfl, ?_⟩ (by omega)
      intro j u hj hu
      by_cases hji : j = i
      · subst hji; rw [hy] at hu; cases hu; exact hne
      · exact hno j u (by omega) hu
  · simp -dsimp [t0, hv.slLen]
    rw [findIdx_none fun j u hu => by simpa using hno j u (by have := (List.getElem?_eq_some_iff.1 hu).1; omega) hu]

/-- What a list of seen places says. -/
structure Seen (n : Nat) (bs : List Bool) (t : List Int) : Prop where
  len : bs.length = n
  is : ∀ x : Nat, x < n → (bs[x]? = some true ↔ (x : Int) ∈ t)
  range : ∀ x ∈ t, 0 ≤ x ∧ x < n
  nodup : t.Nodup
theorem Seen.nil (n : Nat) : Seen n (List.replicate n false) [] := ⟨by simp, fun x hx => by simp [hx], by simp, by simp⟩
theorem Seen.push {n : Nat} {bs : List Bool} {t : List Int} {y : Int} (s : Seen n bs t) (h0 : 0 ≤ y) (h1 : y < n) (hb : bs[y.toNat]? = some false) : Seen n (bs.set y.toNat true) (t ++ [y]) := by
  have hy : y ∉ t := fun hy => by
    have := (s.is y.toNat (by omega)).2 (by rw [Int.toNat_of_nonneg h0]; exact hy)
    rw [hb] at this; cases this
  refine ⟨by simp [s.len], fun x hx => ?_, fun x hx => ?_, ?_⟩
  · rw [List.getElem?_set]
    by_cases hxy : y.toNat = x
    · subst hxy
      simp [s.len, hx, Int.toNat_of_nonneg h0]
    · rw [if_neg hxy, s.is x hx]
      simp
      omega
  · rcases List.mem_append.1 hx with hx | hx
    · exact s.range x hx
    · simp at hx; subst hx; exact ⟨h0, h1⟩
  · rw [List.nodup_append]
    refine ⟨s.nodup, by simp, ?_⟩
    intro a ha b hb
    simp at hb; subst hb
    intro e; subst e; exact hy ha

/-- An order of n things. -/
def IsOrd (n : Nat) (l : List Int) : Prop := l.length = n ∧ (∀ x ∈ l, 0 ≤ x ∧ x < n) ∧ l.Nodup
instance (n : Nat) (l : List Int) : Decidable (IsOrd n l) := by unfold IsOrd; infer_instance
attribute [local simp] call29
theorem order_ok (h : Heap) (v : AV) (n : Nat) (l : List Int) (hv : IntS h v l) (hn : n < 1000) :
    ACa Tryz.prog 8 [v, .int .i64 n] h fun r h' => r = .bool (decide (IsOrd n l)) ∧ Grow h h' := by
  refine ACa.introR follows_any look8 fun hl => ?_
  delta c8; simp -dsimp [hv.slLen]
  refine Br_dec (fun he => ?_) (fun hne => ?_)
  · have he : l.length = n := by omega
    simp -dsimp
    refine must_intro ⟨by omega, by omega⟩ ?_
    simp -dsimp
    refine wcM.loopN follows_any 41 (fun i => n - i) (fun i ts h' => ∃ bs, i ≤ n ∧ gt ts 0 = v ∧ gt ts 1 = .int .i64 n ∧ gt ts 5 = .sl h.n 0 n n 0 ∧ gt ts 6 = .int .i64 i ∧ Grow h h' ∧ h'.get h.n = some (.cells (bs.map .bool) true) ∧ Seen n bs (l.take i)) 0 rfl ?_ ?_
    · refine ⟨List.replicate n false, Nat.zero_le _, rfl, rfl, by simp, rfl, Grow.push _ _, ?_, Seen.nil n⟩
      rw [Heap.get_push_new, zerosA_one_cell]
      simp
    · rintro i ts h' hl' ⟨bs, hi, t0, t1, t5, t6, gr, hg, hs⟩
      delta c8l0; simp -dsimp [t0, t1, t5, t6]
      refine Br_dec (fun hlt => ?_) (fun hge => ?_)
      · obtain ⟨y, hy⟩ : ∃ y, l[i]? = some y := ⟨_, List.getElem?_eq_getElem (by omega)⟩
        obtain ⟨b, p, e1, hb, e2, -⟩ := (hv.grow hl gr).elem hl' (i := i) (y := .int .i64 y) (by simp -dsimp [hy])
        have htk : l.take (i + 1) = l.take i ++ [y] := by rw [List.take_add_one, hy]; rfl
        have hym : y ∈ l := List.mem_of_getElem? hy
        simp -dsimp [e1, e2, t0, t1, t5, t6]
        refine caM.by (within_ok h' _ _ _) ?_
        rintro _ h' - ⟨rfl, rfl⟩
        simp -dsimp [e1, e2, t0, t1, t5, t6]
        rw [wrap_i64 (by omega) (by omega)]
        refine Br_intro (fun ho => ?_) (fun hin => ?_)
        · have : ¬ IsOrd n l := fun hall => by have := hall.2.1 y hym; simp at ho; omega
          simp -dsimp [this, gr]
        · have h0 : 0 ≤ y ∧ y < n := by simp at hin; omega
          obtain ⟨z, hz⟩ : ∃ z, bs[y.toNat]? = some z := ⟨_, List.getElem?_eq_getElem (by rw [hs.len]; omega)⟩
          have e3 := idx_sl (b := h.n) (n := n) (c := n) (k := 0) (j := .i64) h0.1 h0.2
          have e4 : rd h' false 1 h.n y.toNat = some (.bool z) := by rw [rd_get hg, List.getElem?_map, hz]; rfl
          simp -dsimp [e1, e2, e3, e4, t0, t1, t5, t6]
          cases z with
          | true =>
            have : ¬ IsOrd n l := fun hd => by
              have hd := hd.2.2
              have hm : y ∈ l.take i := by have := (hs.is y.toNat (by omega)).1 hz; rwa [Int.toNat_of_nonneg h0.1] at this
              have := (htk ▸ hd.sublist (List.take_sublist (i + 1) l) : (l.take i ++ [y]).Nodup)
              exact (List.nodup_append.1 this).2.2 y hm y (by simp) rfl
            simp -dsimp [this, gr]
          | false =>
            simp -dsimp [e1, e2, e3, hg, t0, t1, t5, t6]
            refine must_intro (by rw [hs.len]; omega) ?_
            simp -dsimp [t0, t1, t5, t6, wrap_i64 (n := (i : Int) + 1) (by omega) (by omega)]
            refine Next.intro (i + 1) rfl ⟨bs.set y.toNat true, hlt, rfl, rfl, rfl, rfl, gr.set _ (Nat.le_refl _), ?_, ?_⟩ (by omega)
            · rw [Heap.get_set_same, setL_set (by simp [hs.len]; omega), List.map_set]
            · rw [htk]; exact hs.push h0.1 h0.2 hz
      · simp -dsimp
        rw [show i = n by omega, show n = l.length by omega, List.take_length] at hs
        exact ⟨⟨he, fun x hx => by have := hs.range x hx; omega, hs.nodup⟩, gr⟩
  · simp -dsimp [Grow.refl, show ¬ IsOrd n l from fun h => hne (by rw [h.1])]

end Go.Proofs.YtpanggiejiommaaGreat

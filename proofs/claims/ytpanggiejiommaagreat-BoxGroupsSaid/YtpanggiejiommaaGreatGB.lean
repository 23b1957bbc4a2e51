/- Walks of the box seat, for BoxGroups: wishes; comparing; insertion sort. -/
import Derived.Test.YtpanggiejiommaaGreatGA
namespace Go.Proofs.YtpanggiejiommaaGreat
open Go Go.Am
set_option autoImplicit false
set_option linter.all false
set_option maxRecDepth 100000
attribute [local simp] RC_skip RC_ops RC_draw RC_seq RC_cond RC_block RC_loop RC_exit RC_ret RC_orig RO_nil RO_cons RO_guardN flipA_bool flipA_un R1_mv R1_pick R1_alloc R1_box R1_build R1_bsl R1_load R1_store R1_nilc R1_ib R1_sh R1_sb R1_bb R1_un R1_cvi R1_mkif R1_mkfn R1_mksl R1_fa R1_fld R1_ia R1_iaa R1_ixs R1_lenS R1_lenT R1_lenM R1_ext R1_call R1_app R1_gen RD_nil RD_cons RD_guardN D1_mv D1_pick D1_build D1_nilc D1_ib D1_sh D1_sb D1_bb D1_un D1_cvi D1_mkif D1_mkfn D1_fa D1_fld D1_ia D1_iaa D1_ixs D1_lenS D1_lenT D1_ext D1_load D1_alloc D1_box D1_bsl D1_store D1_call D1_app KF_nil KF_inN KF_outN KF_ainN KF_aoutN
attribute [local simp] xv_k xv_t put_some put_none SM_ca endC_ret endC_tmps intA cmp_eql cmp_neq cmp_lss cmp_leq cmp_gtr cmp_geq bindM_some bindM_none ptrM_ptr intM_int strM_str boolM_bool tupM_tup cellsM_cells BrM_true BrM_false BrM_not gdM_true gdM_false gdM_un mustM_true unA eqOp resA_nil resA_tmp tupA gt_zero gt_succ gt_nil gt_set rd_fold AV.cells AV.one fillA setL_one ldA_one get_push_new get_push_old get_set_new get_set_old rd_push_new rd_push_old rd_set_new rd_set_old
attribute [local simp] lay_zero lay_succ
attribute [local simp] call8 call80 call126 call130 call120 call114 call115

/-- A slice of slices of integers. -/
def Lists (h : Heap) (v : AV) (ws : List (List Int)) : Prop := ∃ xs : List AV, SlA false 1 h v xs ∧ xs.length = ws.length ∧ ∀ (i : Nat) x l, xs[i]? = some x → ws[i]? = some l → IntS h x l
theorem Lists.grow {h h' : Heap} {v : AV} {ws : List (List Int)} (hl : Low h) (g : Grow h h') (hv : Lists h v ws) : Lists h' v ws := by
  obtain ⟨xs, h1, h2, h3⟩ := hv
  exact ⟨xs, h1.grow hl g, h2, fun i x l hx hw => (h3 i x l hx hw).grow hl g⟩
theorem Lists.slLen {h : Heap} {v : AV} {ws : List (List Int)} (hv : Lists h v ws) : slLen v = some ws.length := by
  obtain ⟨xs, h1, h2, -⟩ := hv
  rw [h1.slLen, h2]
theorem Lists.elem {h : Heap} {v : AV} {ws : List (List Int)} (hl : Low h) (hv : Lists h v ws) {i : Nat} {l : List Int} (hi : ws[i]? = some l) :
    ∃ b p x, idxA 1 v (.int .i64 i) = some (.ptr b p) ∧ rd h false 1 b p = some x ∧ IntS h x l := by
  obtain ⟨xs, h1, h2, h3⟩ := hv
  obtain ⟨x, hx⟩ : ∃ x, xs[i]? = some x := ⟨_, List.getElem?_eq_getElem (by rw [h2]; exact (List.getElem?_eq_some_iff.1 hi).1)⟩
  obtain ⟨b, p, e1, -, e2, -⟩ := h1.elem hl hx
  exact ⟨b, p, x, e1, e2, h3 i x l hx hi⟩

theorem wishes_ok (h : Heap) (v : AV) (ws : List (List Int)) (hv : Lists h v ws) (hn : ws.length < 1000) :
    ACa Tryz.prog 7 [v] h fun r h' => r = .bool (decide (1 ≤ ws.length ∧ ws.length ≤ 8 ∧ ∀ l ∈ ws, IsOrd ws.length l)) ∧ Grow h h' := by
  refine ACa.introR follows_any look7 fun hl => ?_
  delta c7; simp -dsimp [hv.slLen]
  refine Br_dec (fun h0 => ?_) (fun h0 => ?_)
  · simp -dsimp [Grow.refl, show ¬ 1 ≤ ws.length by omega]
  simp -dsimp [hv.slLen]
  refine Br_dec (fun h8 => ?_) (fun h8 => ?_)
  · simp -dsimp [Grow.refl, show ¬ ws.length ≤ 8 by omega]
  simp -dsimp [hv.slLen]
  refine wcM.loopN follows_any 26 (fun i => ws.length - i) (fun i ts h' => i ≤ ws.length ∧ gt ts 0 = v ∧ gt ts 3 = .int .i64 i ∧ Grow h h' ∧ (∀ j l, j < i → ws[j]? = some l → IsOrd ws.length l)) 0 rfl (by simp [Grow.refl]) ?_
  rintro i ts h' hl' ⟨hi, t0, t3, gr, hall⟩
  delta c7l0; simp -dsimp [t0, t3, hv.slLen]
  refine Br_dec (fun hlt => ?_) (fun hge => ?_)
  · have hlt : i < ws.length := by omega
    obtain ⟨l, hy⟩ : ∃ l, ws[i]? = some l := ⟨_, List.getElem?_eq_getElem hlt⟩
    obtain ⟨b, p, x, e1, e2, hx⟩ := (hv.grow hl gr).elem hl' hy
    simp -dsimp [e1, e2, t0, t3, hv.slLen]
    refine caM.by (order_ok h' x _ l hx hn) ?_
    rintro _ h2 hl2 ⟨rfl, gr2⟩
    simp -dsimp
    refine Br_dec (fun ho => ?_) (fun hno => ?_)
    · simp -dsimp [t0, t3, wrap_i64 (n := (i : Int) + 1) (by omega) (by omega)]
      refine Next.intro (i + 1) rfl ⟨hlt, rfl, rfl, gr.trans gr2, ?_⟩ (by omega)
      intro j u hj hu
      by_cases hji : j = i
      · subst hji; rw [hy] at hu; cases hu; exact ho
      · exact hall j u (by omega) hu
    · have : ¬ ∀ l ∈ ws, IsOrd ws.length l := fun hh => hno (hh l (List.mem_of_getElem? hy))
      simp -dsimp [this, gr.trans gr2]
  · simp -dsimp
    refine ⟨⟨by omega, by omega, fun l hm => ?_⟩, gr⟩
    obtain ⟨j, hj⟩ := List.mem_iff_getElem?.1 hm
    exact hall j l (by have := (List.getElem?_eq_some_iff.1 hj).1; omega) hj

theorem isNaN_ok (h : Heap) (n : Int) : ACa Tryz.prog 80 [.int .i64 n] h fun r h' => r = .bool false ∧ h' = h := by
  refine ACa.introR follows_any look80 fun hl => ?_
  delta c80; simp -dsimp
theorem less_ok (h : Heap) (x y : Int) : ACa Tryz.prog 126 [.int .i64 x, .int .i64 y] h fun r h' => r = .bool (decide (x < y)) ∧ h' = h := by
  refine ACa.introR follows_any look126 fun hl => ?_
  delta c126; simp -dsimp
  refine caM.by (isNaN_ok h _) ?_
  rintro _ h' - ⟨rfl, rfl⟩
  simp -dsimp
theorem len64_ok (h : Heap) (n : Nat) (hn : n < 200) : ACa Tryz.prog 130 [.int .u64 n] h fun r h' => (∃ z, r = .int .i64 z) ∧ h' = h := by
  refine ACa.introR follows_any look130 fun hl => ?_
  delta c130; simp -dsimp
  refine Br_dec (fun h1 => by omega) (fun _ => ?_)
  simp -dsimp
  refine Br_dec (fun h1 => by omega) (fun _ => ?_)
  simp -dsimp
  refine Br_dec (fun h1 => by omega) (fun _ => ?_)
  simp -dsimp [wrap_u8 (n := n) (by omega) (by omega)]
  refine bind_intro _ (List.getElem?_eq_getElem (Nat.lt_of_lt_of_le hn (by decide))) ?_
  simp -dsimp
theorem len_ok (h : Heap) (n : Nat) (hn : n < 200) : ACa Tryz.prog 115 [.int .u64 n] h fun r h' => (∃ z, r = .int .i64 z) ∧ h' = h := by
  refine ACa.introR follows_any look115 fun hl => ?_
  delta c115; simp -dsimp
  refine caM.by (len64_ok h n hn) ?_
  rintro _ h' - ⟨⟨z, rfl⟩, rfl⟩
  simp -dsimp
end Go.Proofs.YtpanggiejiommaaGreat

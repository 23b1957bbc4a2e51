/- Walks of the box seat, for BoxGroups: Better. -/
import Derived.Test.YtpanggiejiommaaGreatGF
namespace Go.Proofs.YtpanggiejiommaaGreat
open Go Go.Am
set_option autoImplicit false
set_option linter.all false
set_option maxRecDepth 100000
attribute [local simp] RC_skip RC_ops RC_draw RC_seq RC_cond RC_block RC_loop RC_exit RC_ret RC_orig RO_nil RO_cons RO_guardN flipA_bool flipA_un R1_mv R1_pick R1_alloc R1_box R1_build R1_bsl R1_load R1_store R1_nilc R1_ib R1_sh R1_sb R1_bb R1_un R1_cvi R1_mkif R1_mkfn R1_mksl R1_fa R1_fld R1_ia R1_iaa R1_ixs R1_lenS R1_lenT R1_lenM R1_ext R1_call R1_app R1_gen RD_nil RD_cons RD_guardN D1_mv D1_pick D1_build D1_nilc D1_ib D1_sh D1_sb D1_bb D1_un D1_cvi D1_mkif D1_mkfn D1_fa D1_fld D1_ia D1_iaa D1_ixs D1_lenS D1_lenT D1_ext D1_load D1_alloc D1_box D1_bsl D1_store D1_call D1_app KF_nil KF_inN KF_outN KF_ainN KF_aoutN
attribute [local simp] xv_k xv_t put_some put_none SM_ca endC_ret endC_tmps intA cmp_eql cmp_neq cmp_lss cmp_leq cmp_gtr cmp_geq bindM_some bindM_none ptrM_ptr intM_int strM_str boolM_bool tupM_tup cellsM_cells BrM_true BrM_false BrM_not gdM_true gdM_false gdM_un mustM_true unA eqOp resA_nil resA_tmp tupA gt_zero gt_succ gt_nil gt_set rd_fold AV.cells AV.one fillA setL_one ldA_one get_push_new get_push_old get_set_new get_set_old rd_push_new rd_push_old rd_set_new rd_set_old
attribute [local simp] lay_zero lay_succ
attribute [local simp] call32 call30 call31 call9

theorem sl_of {g : Bool} {s : Nat} {h : Heap} {v : AV} {l : List AV} (hv : SlA g s h v l) (h0 : 0 < l.length) : ∃ b o c k, v = .sl b o l.length c k := by
  rcases hv with ⟨rfl, hz⟩ | ⟨b, o, c, x, cs, rw_, rfl, _, _⟩
  · subst hz; simp at h0
  · exact ⟨b, o, c, x, rfl⟩
theorem shl64 {n : Nat} (hn : n ≤ 8) : shiftA .shl .i64 1 n = some (.int .i64 ((2 ^ n : Nat) : Int)) := by
  have := (by decide +kernel : ∀ x : Nat, x < 9 → IntKind.i64.wrap (1 * 2 ^ (min (x : Int).toNat IntKind.i64.bits)) = ((2 ^ x : Nat) : Int)) n (by omega)
  unfold shiftA; rw [if_neg (by omega)]; simp only; rw [this]

theorem better_ok (h : Heap) (wv tv : AV) (ws : List (List Int)) (tr : List Int) (n g : Nat) (hw : Lists h wv ws) (ht : IntS h tv tr) (hn : ws.length = n) (h0 : 0 < n) (h8 : n ≤ 8) (ho : ∀ l ∈ ws, IsOrd n l) (hto : IsOrd n tr) (hg0 : 0 < g) (hg : g < 2 ^ n) :
    ACa Tryz.prog 9 [wv, tv, .int .u8 g] h fun r h' => r = .tup [.bool (deal ws tr g n 0 g false), .int .i64 0] ∧ Grow h h' := by
  have hg8 : g < 256 := Nat.lt_of_lt_of_le hg (Nat.pow_le_pow_right (by decide) h8)
  refine ACa.introR follows_any look9 fun hl => ?_
  obtain ⟨wb, wo, wc, wk, hwv⟩ : ∃ b o c k, wv = .sl b o n c k := by
    obtain ⟨xs, h1, h2, -⟩ := hw
    obtain ⟨b, o, c, k, hv⟩ := sl_of h1 (by omega)
    exact ⟨b, o, c, k, by rw [hv, h2, hn]⟩
  obtain ⟨tb, to, tc, tk, htv⟩ : ∃ b o c k, tv = .sl b o n c k := by
    obtain ⟨b, o, c, k, hv⟩ := sl_of ht (by simp; rw [hto.1]; omega)
    exact ⟨b, o, c, k, by rw [hv, List.length_map, hto.1]⟩
  subst hwv; subst htv
  delta c9; simp -dsimp [slLen]
  obtain ⟨X, hX⟩ : ∃ X, X = (((h.push (.cells [.sl wb wo n wc wk] true)).push (.cells [.sl tb to n tc tk] true)).push (.cells [.int .u8 g] true)) := ⟨_, rfl⟩
  have hXn : X.n = h.n + 3 := by rw [hX]; rfl
  have hXl : Low X := by rw [hX]; exact ((hl.push _).push _).push _
  have gX : Grow h X := by rw [hX]; exact ((Grow.push _ _).pushed _).pushed _
  have x0 : rd X false 1 h.n 0 = some (.sl wb wo n wc wk) := rd_get (l := [_]) (w := true) (by rw [hX, Heap.get_push_old _ _ (by simp; omega), Heap.get_push_old _ _ (by simp)]; exact Heap.get_push_new _ _)
  have x1 : rd X false 1 (h.n + 1) 0 = some (.sl tb to n tc tk) := rd_get (l := [_]) (w := true) (by rw [hX, Heap.get_push_old _ _ (by simp)]; exact Heap.get_push_new (h.push _) _)
  have x2 : rd X false 1 (h.n + 2) 0 = some (.int .u8 g) := rd_get (l := [_]) (w := true) (by rw [hX]; exact Heap.get_push_new ((h.push _).push _) _)
  rw [← hX]
  simp -dsimp [x0, slLen]
  obtain ⟨H, hH⟩ : ∃ H, H = (X.push (.cells [.int .i64 0] true)).set X.n (.cells [.int .i64 n] true) := ⟨_, rfl⟩
  have hHl : Low H := by rw [hH]; exact (hXl.push _).set _ (by simp)
  have gH : Grow X H := by rw [hH]; exact (Grow.push _ _).set _ (Nat.le_refl _)
  have y0 := rd_grow hXl gH x0
  have y1 := rd_grow hXl gH x1
  have y2 := rd_grow hXl gH x2
  have y3 : rd H false 1 X.n 0 = some (.int .i64 n) := rd_get (l := [_]) (w := true) (by rw [hH]; exact Heap.get_set_same _ _ _)
  rw [← hH]
  have ghH := gX.trans gH
  simp -dsimp [y0]
  refine caM.by (wishful_ok H _ ws (hw.grow hl ghH) (by omega) (by omega) (by rw [hn]; exact ho)) ?_
  rintro _ h1 hl1 ⟨rfl, g1⟩
  simp -dsimp [rd_grow hHl g1 y1, rd_grow hHl g1 y3]
  refine caM.by (each_ok h1 _ n tr h0 (by omega) (ht.grow hl (ghH.trans g1)) hto) ?_
  rintro _ h2 hl2 ⟨rfl, g2⟩
  have gA := g1.trans g2
  have z0 := rd_grow hHl gA y0
  have z1 := rd_grow hHl gA y1
  have z2 := rd_grow hHl gA y2
  have z3 := rd_grow hHl gA y3
  have eg : ¬ g = 0 := by omega
  obtain ⟨P, hP, ep⟩ : ∃ P : Nat, g < P ∧ shiftA .shl .i64 1 n = some (.int .i64 P) := ⟨2 ^ n, hg, shl64 h8⟩
  have hPg : ¬ P ≤ g := by omega
  simp -dsimp [z2, z3, eg, ep, hPg, wrap_i64 (n := (g : Int)) (by omega) (by omega)]
  obtain ⟨F, hF⟩ : ∃ F, F = AV.fn (.func 32) [] [.ptr X.n 0, .ptr (h.n + 2) 0, .ptr h2.n 0, .ptr h.n 0, .ptr (h.n + 1) 0] := ⟨_, rfl⟩
  rw [← hF]
  obtain ⟨h3, hh3⟩ : ∃ h3, h3 = (h2.push (.cells [.nilf] true)).set h2.n (.cells [F] true) := ⟨_, rfl⟩
  have g3 : Grow h2 h3 := by rw [hh3]; exact (Grow.push _ _).set _ (Nat.le_refl _)
  have c3 : rd h3 false 1 h2.n 0 = some F := rd_get (l := [_]) (w := true) (by rw [hh3]; exact Heap.get_set_same _ _ _)
  rw [← hh3]
  have gB := gA.trans g3
  have gall := ghH.trans gB
  simp -dsimp [c3, rd_grow hHl gB y2]
  rw [hF]
  simp -dsimp
  have D : DealH n ws tr g (.sl wb wo n wc wk) (.sl tb to n tc tk) X.n (h.n + 2) h2.n h.n (h.n + 1) h3 := ⟨rd_grow hHl gB y3, rd_grow hHl gB y2, by rw [c3, hF], rd_grow hHl gB y0, rd_grow hHl gB y1, hw.grow hl gall, ht.grow hl gall, hn, h8, ho, hto, hg8⟩
  refine caM.by (deal_ok D n 0 g false (by omega) hg8) ?_
  rintro _ h4 - ⟨rfl, rfl⟩
  simp -dsimp
  exact gall
end Go.Proofs.YtpanggiejiommaaGreat

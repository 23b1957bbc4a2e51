/- Walks of the box seat, for BoxGroups: insertion sort. -/
import Derived.Test.YtpanggiejiommaaGreatGB
namespace Go.Proofs.YtpanggiejiommaaGreat
open Go Go.Am
set_option autoImplicit false
set_option linter.all false
set_option maxRecDepth 100000
attribute [local simp] RC_skip RC_ops RC_draw RC_seq RC_cond RC_block RC_loop RC_exit RC_ret RC_orig RO_nil RO_cons RO_guardN flipA_bool flipA_un R1_mv R1_pick R1_alloc R1_box R1_build R1_bsl R1_load R1_store R1_nilc R1_ib R1_sh R1_sb R1_bb R1_un R1_cvi R1_mkif R1_mkfn R1_mksl R1_fa R1_fld R1_ia R1_iaa R1_ixs R1_lenS R1_lenT R1_lenM R1_ext R1_call R1_app R1_gen RD_nil RD_cons RD_guardN D1_mv D1_pick D1_build D1_nilc D1_ib D1_sh D1_sb D1_bb D1_un D1_cvi D1_mkif D1_mkfn D1_fa D1_fld D1_ia D1_iaa D1_ixs D1_lenS D1_lenT D1_ext D1_load D1_alloc D1_box D1_bsl D1_store D1_call D1_app KF_nil KF_inN KF_outN KF_ainN KF_aoutN
attribute [local simp] xv_k xv_t put_some put_none SM_ca endC_ret endC_tmps intA cmp_eql cmp_neq cmp_lss cmp_leq cmp_gtr cmp_geq bindM_some bindM_none ptrM_ptr intM_int strM_str boolM_bool tupM_tup cellsM_cells BrM_true BrM_false BrM_not gdM_true gdM_false gdM_un mustM_true unA eqOp resA_nil resA_tmp tupA gt_zero gt_succ gt_nil gt_set rd_fold AV.cells AV.one fillA setL_one ldA_one get_push_new get_push_old get_set_new get_set_old rd_push_new rd_push_old rd_set_new rd_set_old
attribute [local simp] lay_zero lay_succ
attribute [local simp] call126 call120 call114 call115

def ints (l : List Int) : List AV := l.map (.int .i64)
theorem ints_length (l : List Int) : (ints l).length = l.length := List.length_map ..
/-- A block of integers, all else as it was. -/
structure IntB (h0 : Heap) (b : Nat) (l : List Int) (h : Heap) : Prop where
  get : h.get b = some (.cells (ints l) true)
  n : h.n = h0.n
  old : ∀ c, c ≠ b → h.get c = h0.get c
theorem IntB.rd {h0 h : Heap} {b : Nat} {l : List Int} {s i : Nat} {x : Int} (hb : IntB h0 b l h) (hi : l[i]? = some x) : rd h false s b i = some (.int .i64 x) := by
  rw [rd_get hb.get, ints, List.getElem?_map, hi]; rfl
theorem IntB.set {h0 h : Heap} {b : Nat} {l : List Int} {i : Nat} {x : Int} (hb : IntB h0 b l h) (hi : i < l.length) : IntB h0 b (l.set i x) (h.set b (.cells (setL (ints l) i [.int .i64 x]) true)) := by
  refine ⟨?_, by simpa using hb.n, fun c hc => ?_⟩
  · rw [Heap.get_set_same, setL_set (by simpa [ints] using hi), ints, ints, List.map_set]
  · rw [Heap.get_set_ne _ _ hc, hb.old c hc]
attribute [local simp] ints_length

abbrev Sorted (l : List Int) : Prop := l.Pairwise (· ≤ ·)

theorem inner_ok {h0 : Heap} {b n c k : Nat} {C : List Int} {x : Int} {S : List Int} (hlow : b < h0.n) (hs : Sorted S) (hn : S.length + 1 + C.length = n) (hN : n < 1000) {ts : List AV} {h : Heap} (hl : ts.length = 49)
    (t0 : gt ts 0 = .sl b 0 n c k) (t1 : gt ts 1 = .int .i64 0) (t7 : gt ts 7 = .int .i64 S.length) (hb : IntB h0 b (S ++ x :: C) h) {kk : AExit → AAct → Heap → Prop} {z : Fz kk}
    (hk : ∀ (A B : List Int) (h' : Heap) (ts' : List AV), ts'.length = 49 → (∀ i, i < 7 → gt ts' i = gt ts i) → A ++ B = S → Sorted (A ++ x :: B) → IntB h0 b (A ++ x :: B ++ C) h' → kk (.exit 2) ⟨ts', [], none⟩ h') :
    wcM Tryz.prog (.loop c120l1) ⟨ts, [], none⟩ h kk z := by
  refine wcM.loopN follows_any 49 (fun s => s.1.length) (fun (s : List Int × List Int) ts' h' => s.1 ++ s.2 = S ∧ (∀ y ∈ s.2, x < y) ∧ (∀ i, i < 7 → gt ts' i = gt ts i) ∧ gt ts' 7 = .int .i64 s.1.length ∧ IntB h0 b (s.1 ++ x :: s.2 ++ C) h') (S, []) hl ⟨by simp, by simp, fun _ _ => rfl, t7, by simpa using hb⟩ ?_
  rintro ⟨A, B⟩ ts' h' hl' ⟨hS, hB, hT, u7, hb'⟩
  simp only at hS hB u7 hb'
  have u0 : gt ts' 0 = .sl b 0 n c k := (hT 0 (by omega)).trans t0
  have u1 : gt ts' 1 = .int .i64 0 := (hT 1 (by omega)).trans t1
  have hlen : A.length + B.length + 1 + C.length = n := by rw [← hn, ← hS, List.length_append]
  rcases List.eq_nil_or_concat A with rfl | ⟨A', a, rfl⟩
  · delta c120l1; simp -dsimp [u0, u1, u7]
    refine hk [] B h' _ rfl ?_ hS ?_ hb'
    · intro i hi
      rw [← hT i hi]
      rcases i with _|_|_|_|_|_|_|i <;> first | (simp -dsimp [u0, u1]; done) | (exfalso; omega)
    · rw [List.nil_append] at hS ⊢; subst hS
      exact List.pairwise_cons.2 ⟨fun y hy => Int.le_of_lt (hB y hy), hs⟩
  · simp only [List.concat_eq_append, List.length_append, List.length_singleton] at hlen u7 hb' hS ⊢
    obtain ⟨L, hL⟩ : ∃ L, L = A' ++ [a] ++ x :: B ++ C := ⟨_, rfl⟩
    rw [← hL] at hb'
    have g1 : L[A'.length + 1]? = some x := by rw [hL]; simp
    have g2 : L[A'.length]? = some a := by rw [hL]; simp
    have hLl : L.length = n := by rw [hL, ← hlen]; simp; omega
    have hsw : (L.set (A'.length + 1) a).set A'.length x = A' ++ x :: (a :: B) ++ C := by rw [hL]; simp
    have r1 := hb'.rd (s := 1) g1
    have r2 := hb'.rd (s := 1) g2
    have i1 : idxA 1 (.sl b 0 n c k) (.int .i64 ((A'.length : Int) + 1)) = some (.ptr b (A'.length + 1)) := idx_sl (by omega) (by omega)
    have i2 : idxA 1 (.sl b 0 n c k) (.int .i64 (A'.length : Int)) = some (.ptr b A'.length) := idx_sl (by omega) (by omega)
    have w : IntKind.i64.wrap (A'.length : Int) = A'.length := wrap_i64 (by omega) (by omega)
    delta c120l1; simp -dsimp [u0, u1, u7, i1, i2, r1, r2, w]
    refine caM.by (less_ok h' _ _) ?_
    rintro _ h' - ⟨rfl, rfl⟩
    simp -dsimp [r1, r2]
    refine Br_dec (fun hlt => ?_) (fun hge => ?_)
    · have hb1 := hb'.set (i := A'.length + 1) (x := a) (by omega)
      have hb2 := hb1.set (i := A'.length) (x := x) (by simp; omega)
      rw [hsw] at hb2
      have hg1 : setL (ints L) (A'.length + 1) [.int .i64 a] = ints (L.set (A'.length + 1) a) := by
        have := hb1.get; rw [Heap.get_set_same] at this; simpa using this
      simp -dsimp [u0, u1, u7, i1, i2, r1, r2, w, hb'.get]
      refine must_intro (by omega) ?_
      simp -dsimp [u0, u1, u7, i1, i2, r1, r2, w, hg1]
      refine must_intro (by omega) ?_
      simp -dsimp [u0, u1, u7, w]
      refine Next.intro (A', a :: B) rfl ⟨by simpa using hS, ?_, ?_, rfl, ?_⟩ (by simp)
      · intro y hy
        rcases List.mem_cons.1 hy with rfl | hy
        · exact hlt
        · exact hB y hy
      · intro i hi
        rw [← hT i hi]
        rcases i with _|_|_|_|_|_|_|i <;> first | (simp -dsimp [u0, u1]; done) | (exfalso; omega)
      · rw [hg1] at hb2; exact hb2
    · simp -dsimp
      refine hk (A' ++ [a]) B h' _ rfl ?_ (by simpa using hS) ?_ (by simpa [hL] using hb')
      · intro i hi
        rw [← hT i hi]
        rcases i with _|_|_|_|_|_|_|i <;> first | (simp -dsimp [u0, u1]; done) | (exfalso; omega)
      · subst hS
        unfold Sorted at hs ⊢
        rw [List.pairwise_append] at hs ⊢
        obtain ⟨p1, p2, p3⟩ := hs
        have hax : ∀ y ∈ A' ++ [a], y ≤ x := fun y hy => by
          rcases List.mem_append.1 hy with hy | hy
          · have := (List.pairwise_append.1 p1).2.2 y hy a (by simp); omega
          · simp at hy; omega
        refine ⟨p1, List.pairwise_cons.2 ⟨fun y hy => Int.le_of_lt (hB y hy), p2⟩, fun y hy z hz => ?_⟩
        rcases List.mem_cons.1 hz with rfl | hz
        · exact hax y hy
        · exact p3 y hy z hz

theorem insert_ok (h : Heap) (b c k : Nat) (l : List Int) (hlow : b < h.n) (h0 : 0 < l.length) (hN : l.length < 1000) (hb : h.get b = some (.cells (ints l) true)) :
    ACa Tryz.prog 120 [.sl b 0 l.length c k, .int .i64 0, .int .i64 l.length] h fun _ h' => ∃ l', l'.Perm l ∧ Sorted l' ∧ IntB h b l' h' := by
  refine ACa.introR follows_any look120 fun hl => ?_
  delta c120; simp -dsimp [show IntKind.i64.wrap 1 = 1 from rfl]
  obtain ⟨y, r, rfl⟩ : ∃ y r, l = y :: r := by cases l with | nil => simp at h0 | cons y r => exact ⟨y, r, rfl⟩
  refine wcM.loopN follows_any 49 (fun s => s.2.length) (fun (s : List Int × List Int) ts h' => (s.1 ++ s.2).Perm (y :: r) ∧ Sorted s.1 ∧ gt ts 0 = .sl b 0 (y :: r).length c k ∧ gt ts 1 = .int .i64 0 ∧ gt ts 2 = .int .i64 (y :: r).length ∧ gt ts 6 = .int .i64 s.1.length ∧ IntB h b (s.1 ++ s.2) h') ([y], r) rfl ⟨by simp, by simp [Sorted], rfl, rfl, rfl, rfl, ⟨by simpa using hb, rfl, fun _ _ => rfl⟩⟩ ?_
  rintro ⟨S, C⟩ ts h' hl' ⟨hp, hS, t0, t1, t2, t6, hb'⟩
  simp only at hp hS t6 hb'
  have hlen : S.length + C.length = (y :: r).length := by rw [← hp.length_eq, List.length_append]
  generalize hn : (y :: r).length = n at *
  delta c120l0; simp -dsimp [t0, t1, t2, t6]
  refine Br_dec (fun hlt => ?_) (fun hge => ?_)
  · obtain ⟨x, C, rfl⟩ : ∃ x C', C = x :: C' := by cases C with | nil => simp at hlen; omega | cons x C' => exact ⟨x, C', rfl⟩
    simp only [List.length_cons] at hlen
    simp -dsimp [t0, t1, t2, t6]
    refine inner_ok (S := S) (C := C) (x := x) hlow hS (by omega) hN rfl rfl rfl rfl hb' ?_
    intro A B h2 ts' hl2 hT hAB hs2 hb2
    have u0 : gt ts' 0 = .sl b 0 n c k := hT 0 (by omega)
    have u1 : gt ts' 1 = .int .i64 0 := hT 1 (by omega)
    have u2 : gt ts' 2 = .int .i64 n := hT 2 (by omega)
    have u6 : gt ts' 6 = .int .i64 S.length := hT 6 (by omega)
    rw [lay_eq hl2]
    simp -dsimp [u0, u1, u2, u6, wrap_i64 (n := (S.length : Int) + 1) (by omega) (by omega)]
    have hSl : A.length + B.length = S.length := by rw [← hAB, List.length_append]
    refine Next.intro (A ++ x :: B, C) rfl ⟨?_, hs2, rfl, rfl, rfl, ?_, hb2⟩ (by simp)
    · refine List.Perm.trans ?_ hp
      rw [← hAB]
      refine List.perm_append_right_iff C |>.2 ?_ |>.trans (?_ : List.Perm (A ++ (B ++ [x]) ++ C) _)
      · exact (List.perm_append_left_iff A).2 (by simpa using (List.perm_append_comm (l₁ := [x]) (l₂ := B)))
      · simp
    · simp; omega
  · simp -dsimp
    have : C = [] := List.length_eq_zero_iff.1 (by omega)
    subst this
    rw [List.append_nil] at hp hb'
    exact ⟨S, hp, hS, hb'⟩
end Go.Proofs.YtpanggiejiommaaGreat

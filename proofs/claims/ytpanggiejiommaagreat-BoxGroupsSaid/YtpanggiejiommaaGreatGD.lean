/- Walks of the box seat, for BoxGroups: slices.Sorted(slices.Values(l)), each. -/
import Derived.Test.YtpanggiejiommaaGreatGC
namespace Go.Proofs.YtpanggiejiommaaGreat
open Go Go.Am
set_option autoImplicit false
set_option linter.all false
set_option maxRecDepth 100000
attribute [local simp] RC_skip RC_ops RC_draw RC_seq RC_cond RC_block RC_loop RC_exit RC_ret RC_orig RO_nil RO_cons RO_guardN flipA_bool flipA_un R1_mv R1_pick R1_alloc R1_box R1_build R1_bsl R1_load R1_store R1_nilc R1_ib R1_sh R1_sb R1_bb R1_un R1_cvi R1_mkif R1_mkfn R1_mksl R1_fa R1_fld R1_ia R1_iaa R1_ixs R1_lenS R1_lenT R1_lenM R1_ext R1_call R1_app R1_gen RD_nil RD_cons RD_guardN D1_mv D1_pick D1_build D1_nilc D1_ib D1_sh D1_sb D1_bb D1_un D1_cvi D1_mkif D1_mkfn D1_fa D1_fld D1_ia D1_iaa D1_ixs D1_lenS D1_lenT D1_ext D1_load D1_alloc D1_box D1_bsl D1_store D1_call D1_app KF_nil KF_inN KF_outN KF_ainN KF_aoutN
attribute [local simp] xv_k xv_t put_some put_none SM_ca endC_ret endC_tmps intA cmp_eql cmp_neq cmp_lss cmp_leq cmp_gtr cmp_geq bindM_some bindM_none ptrM_ptr intM_int strM_str boolM_bool tupM_tup cellsM_cells BrM_true BrM_false BrM_not gdM_true gdM_false gdM_un mustM_true unA eqOp resA_nil resA_tmp tupA gt_zero gt_succ gt_nil gt_set rd_fold AV.cells AV.one fillA setL_one ldA_one get_push_new get_push_old get_set_new get_set_old rd_push_new rd_push_old rd_set_new rd_set_old
attribute [local simp] lay_zero lay_succ
attribute [local simp] call126 call120 call114 call115 call101 call113 call99 call100 call70 call71 ints_length

theorem wrap_u64 {n : Int} (h1 : 0 ≤ n) (h2 : n < 18446744073709551616) : IntKind.u64.wrap n = n := by
  simp [IntKind.wrap, IntKind.signed, IntKind.bits]
  omega
theorem pdq_ok (h : Heap) (b c k : Nat) (z : Int) (l : List Int) (hlow : b < h.n) (h0 : 0 < l.length) (hN : l.length ≤ 12) (hb : h.get b = some (.cells (ints l) true)) :
    ACa Tryz.prog 114 [.sl b 0 l.length c k, .int .i64 0, .int .i64 l.length, .int .i64 z] h fun _ h' => ∃ l', l'.Perm l ∧ Sorted l' ∧ IntB h b l' h' := by
  refine ACa.introR follows_any look114 fun hl => ?_
  delta c114; simp -dsimp
  refine wcM.loopN follows_any 134 (fun _ => 0) (fun (_ : Unit) ts h' => h' = h ∧ gt ts 0 = .sl b 0 l.length c k ∧ gt ts 1 = .int .i64 0 ∧ gt ts 2 = .int .i64 l.length) () rfl ⟨rfl, rfl, rfl, rfl⟩ ?_
  rintro - ts h' - ⟨rfl, t0, t1, t2⟩
  delta c114l0; simp -dsimp [t0, t1, t2, wrap_i64 (n := (l.length : Int)) (by omega) (by omega)]
  refine Br_dec (fun _ => ?_) (fun hh => absurd (show (l.length : Int) ≤ 12 by omega) hh)
  simp -dsimp [t0, t1, t2]
  refine caM.by (insert_ok h' b c k l hlow h0 (by omega) hb) ?_
  rintro v h2 - hh
  simp -dsimp
  exact hh

theorem sort_ok (h : Heap) (b c k : Nat) (l : List Int) (hlow : b < h.n) (h0 : 0 < l.length) (hN : l.length ≤ 12) (hb : h.get b = some (.cells (ints l) true)) :
    ACa Tryz.prog 100 [.sl b 0 l.length c k] h fun _ h' => ∃ l', l'.Perm l ∧ Sorted l' ∧ IntB h b l' h' := by
  refine ACa.introR follows_any look100 fun hl => ?_
  have hw : IntKind.u64.wrap (l.length : Int) = l.length := wrap_u64 (by omega) (by omega)
  delta c100; simp -dsimp [slLen, hw]
  refine caM.by (len_ok h l.length (by omega)) ?_
  rintro _ h' - ⟨⟨z, rfl⟩, rfl⟩
  simp -dsimp
  refine caM.by (pdq_ok h' b c k z l hlow h0 hN hb) ?_
  rintro v h2 - hh
  simp -dsimp
  exact hh

theorem values_ok (h : Heap) (b o n c k : Nat) : ACa Tryz.prog 71 [.sl b o n c k] h fun r h' => r = .fn (.func 101) [] [.ptr h.n 0] ∧ h' = h.push (.cells [.sl b o n c k] true) := by
  refine ACa.introR follows_any look71 fun hl => ?_
  delta c71; simp -dsimp

theorem valuesRun_ok (h : Heap) (y v : AV) (p : Nat) (l : List Int) (Q : Nat → Heap → Prop) (hN : l.length < 1000) (hp : rd h false 1 p 0 = some v) (hv : IntS h v l) (h0 : Q 0 h) (hq : ∀ i h1, Q i h1 → IntS h1 v l)
    (hy : ∀ i x h1, l[i]? = some x → Low h1 → Q i h1 → ∀ k : AV → Heap → Prop, (∀ h2, Low h2 → Q (i + 1) h2 → k (.bool true) h2) → callV Tryz.prog DProp (SM Tryz.prog) y [.int .i64 x] h1 k) :
    ACa Tryz.prog 101 [y, .ptr p 0] h fun _ h' => Q l.length h' := by
  refine ACa.introR follows_any look101 fun hl => ?_
  delta c101; simp -dsimp [hp, hv.slLen]
  refine wcM.loopN follows_any 16 (fun i => l.length - i) (fun i ts h' => i ≤ l.length ∧ gt ts 0 = y ∧ gt ts 5 = v ∧ gt ts 6 = .int .i64 l.length ∧ gt ts 7 = .int .i64 i ∧ Q i h') 0 rfl ⟨Nat.zero_le _, rfl, rfl, rfl, rfl, h0⟩ ?_
  rintro i ts h' hl' ⟨hi, t0, t5, t6, t7, hQ⟩
  delta c101l0; simp -dsimp [t0, t5, t6, t7]
  refine Br_dec (fun hlt => ?_) (fun hge => ?_)
  · have hlt : i < l.length := by omega
    obtain ⟨x, hx⟩ : ∃ x, l[i]? = some x := ⟨_, List.getElem?_eq_getElem hlt⟩
    obtain ⟨b, q, e1, -, e2, -⟩ := (hq i h' hQ).elem hl' (i := i) (y := .int .i64 x) (by simp -dsimp [hx])
    simp -dsimp [t0, t5, t6, t7, e1, e2]
    refine cvM.of (hy i x h' hx hl' hQ _ fun h2 hl2 hQ2 => ?_)
    simp -dsimp [t0, t5, t6, t7, wrap_i64 (n := (i : Int) + 1) (by omega) (by omega)]
    exact Next.intro (i + 1) rfl ⟨hlt, rfl, rfl, rfl, rfl, hQ2⟩ (by omega)
  · simp -dsimp
    rwa [show i = l.length by omega] at hQ

theorem app_nil {h : Heap} {e : Nat} {x : AV} {w : Bool} (he : h.get e = some (.cells [x] w)) : appC 1 8 .nils (.sl e 0 1 1 0) h = some (.sl h.n 0 1 1 1, h.push (.cells [x] true)) := by
  simp [appC, srcA, he]
theorem app_one {h : Heap} {b n e : Nat} {x : AV} {cs : List AV} {w : Bool} (he : h.get e = some (.cells [x] w)) (hb : h.get b = some (.cells cs true)) (hn : cs.length = n) (hN : n < 1000) :
    appC 1 8 (.sl b 0 n n 1) (.sl e 0 1 1 0) h = some (.sl h.n 0 (n + 1) (n + 1) 1, (h.set b .gone).push (.cells (cs ++ [x]) true)) := by
  have h1 : (2 * (n + 1) + 1024) * 8 ≤ 1099511627776 := by omega
  simp [appC, srcA, he, hb, hn, h1]
  rw [if_neg (by omega), List.take_of_length_le (by omega)]


theorem endC_dfr {P : Program} {h : Heap} {k : AV → Heap → Prop} {d : Nat} (res : List ResultVar) (ts : List AV) (r : Option Nat) (hd : h.get d = some .dfr) :
    endC P res k .normal ⟨ts, [d], r⟩ h = bindM (resA P (h.set d .gone) ts res) (fun vs => k (tupA vs) (h.set d .gone)) ⟨⟩ := by
  simp only [endC, leaveA, hd, bindM, bindO]
  cases resA P (h.set d .gone) ts res <;> rfl

/-- What has been gathered. -/
structure Gath (h0 : Heap) (L : AObj) (l : List Int) (i : Nat) (h : Heap) : Prop where
  lp : h.get (h0.n + 2) = some L
  df : h.get (h0.n + 1) = some .dfr
  grow : Grow h0 h
  n : h0.n + 3 ≤ h.n
  cur : ∃ v, h.get h0.n = some (.cells [v] true) ∧ ((i = 0 ∧ v = .nils) ∨ (0 < i ∧ ∃ b, h0.n + 2 < b ∧ b < h.n ∧ v = .sl b 0 i i 1 ∧ h.get b = some (.cells (ints (l.take i)) true)))

def gTS (p n : Nat) : List AV := [AV.nils, AV.fn (Fn.func 101) [] [AV.ptr p 0], AV.ptr n 0, AV.un, AV.nils, AV.un, AV.fn (Fn.func 101) [] [AV.ptr p 0], AV.un, AV.un, AV.un, AV.un, AV.un, AV.un]
noncomputable def gL (p n : Nat) (st : LoopState) : AObj := .loop st none (gTS p n) #[7] (codeAt (Tryz.f113.body.getD Code.skip) [1, 0, 1, 0, 0]) (codeAt (Tryz.f113.body.getD Code.skip) [1, 0, 1, 0, 1]) (n + 1)
theorem gath_step (h : Heap) (p : Nat) (l : List Int) (hN : l.length < 1000) (i : Nat) (x : Int) (h1 : Heap) (hx : l[i]? = some x) (hl1 : Low h1) (hQ : Gath h (gL p h.n .ready) l i h1) (k : AV → Heap → Prop)
    (hk : ∀ h2, Low h2 → Gath h (gL p h.n .ready) l (i + 1) h2 → k (.bool true) h2) : callV Tryz.prog DProp (SM Tryz.prog) (.fn (.yield (h.n + 2)) [] []) [.int .i64 x] h1 k := by
  refine round_intro (tmps := gTS p h.n) (ps := #[7]) (df := h.n + 1) hQ.lp rfl ?_
  refine AWp.runR follows_any c113r0A ?_
  delta c113r0a
  simp -dsimp [gTS]
  refine ⟨hQ.lp, AWp.runR follows_any c113r0B ?_⟩
  delta c113r0b
  obtain ⟨cv, hc, hcur⟩ := hQ.cur
  have hn := hQ.n
  obtain ⟨Lb, hLb⟩ : ∃ Lb, Lb = gL p h.n .busy := ⟨_, rfl⟩
  obtain ⟨H, hH⟩ : ∃ H, H = h1.set (h.n + 2) Lb := ⟨_, rfl⟩
  have hHl : Low H := by rw [hH]; exact hl1.set _ (by omega)
  have hHn : H.n = h1.n := by rw [hH]; rfl
  have hHL : H.get (h.n + 2) = some Lb := by rw [hH]; exact Heap.get_set_same _ _ _
  have hHo : ∀ c, c ≠ h.n + 2 → H.get c = h1.get c := fun c hc => by rw [hH]; exact Heap.get_set_ne _ _ hc
  have hHc : H.get h.n = some (.cells [cv] true) := by rw [hHo _ (by omega)]; exact hc
  have e0 : rd H false 1 h.n 0 = some cv := rd_get hHc
  have htk : l.take (i + 1) = l.take i ++ [x] := by rw [List.take_add_one, hx]; rfl
  have app : ∃ H2, appC 1 8 cv (.sl H.n 0 1 1 0) (H.push (.cells [.int .i64 x] true)) = some (.sl (H.n + 1) 0 (i + 1) (i + 1) 1, H2) ∧ H2.n = H.n + 2 ∧ H2.get (H.n + 1) = some (.cells (ints (l.take (i + 1))) true) ∧ (∀ c, c ≤ h.n + 2 → H2.get c = H.get c) ∧ Low H2 := by
    rcases hcur with ⟨rfl, rfl⟩ | ⟨hi, b, hb1, hb2, rfl, hb⟩
    · refine ⟨_, app_nil (Heap.get_push_new _ _), rfl, ?_, fun c hc => ?_, (hHl.push _).push _⟩
      · rw [htk]; exact Heap.get_push_new (H.push _) _
      · rw [Heap.get_push_old _ _ (by simp; omega), Heap.get_push_old _ _ (by omega)]
    · have hlen : (ints (l.take i)).length = i := by rw [ints_length, List.length_take]; have := (List.getElem?_eq_some_iff.1 hx).1; omega
      refine ⟨_, app_one (Heap.get_push_new _ _) (b := b) (n := i) (cs := ints (l.take i)) ?_ hlen (by have := (List.getElem?_eq_some_iff.1 hx).1; omega), rfl, ?_, fun c hc => ?_, ((hHl.push _).set _ (by simp; omega)).push _⟩
      · rw [Heap.get_push_old _ _ (by omega), hHo _ (by omega)]; exact hb
      · rw [htk]; simp only [ints, List.map_append]; exact Heap.get_push_new ((H.push _).set b _) _
      · rw [Heap.get_push_old _ _ (by simp; omega), Heap.get_set_ne _ _ (by omega), Heap.get_push_old _ _ (by omega)]
  obtain ⟨H2, ea, h2n, h2b, h2o, h2l⟩ := app
  have h2c : H2.get h.n = some (.cells [cv] true) := by rw [h2o _ (by omega)]; exact hHc
  have hfold : h1.set (h.n + 2) (.loop .busy none (gTS p h.n) #[7] (codeAt (Tryz.f113.body.getD Code.skip) [1, 0, 1, 0, 0]) (codeAt (Tryz.f113.body.getD Code.skip) [1, 0, 1, 0, 1]) (h.n + 1)) = H := by rw [hH, hLb]; rfl
  simp only [gTS] at hfold
  rw [hfold]
  simp -dsimp [e0, ea, h2c]
  refine ⟨by rw [h2o _ (by omega), hHL, hLb]; rfl, hk _ ((h2l.set _ (by omega)).set _ (by simp; omega)) ?_⟩
  have gr2 : Grow h H2 := ⟨by omega, fun c hc => by rw [h2o c (by omega), hHo c (by omega)]; exact hQ.grow.old c hc⟩
  refine ⟨Heap.get_set_same _ _ _, ?_, (gr2.set _ (Nat.le_refl _)).set _ (by omega), by simp; omega, _, ?_, .inr ⟨by omega, H.n + 1, by omega, by simp; omega, rfl, ?_⟩⟩
  · rw [Heap.get_set_ne _ _ (by omega), Heap.get_set_ne _ _ (by omega), h2o _ (by omega), hHo _ (by omega)]; exact hQ.df
  · rw [Heap.get_set_ne _ _ (by omega)]; exact Heap.get_set_same _ _ _
  · rw [Heap.get_set_ne _ _ (by omega), Heap.get_set_ne _ _ (by omega)]; exact h2b

theorem appendSeq_ok (h : Heap) (p : Nat) (v : AV) (l : List Int) (h0 : 0 < l.length) (hN : l.length < 1000) (hp : rd h false 1 p 0 = some v) (hv : IntS h v l) :
    ACa Tryz.prog 113 [.nils, .fn (.func 101) [] [.ptr p 0]] h fun r h' => ∃ b, r = .sl b 0 l.length l.length 1 ∧ h.n < b ∧ b < h'.n ∧ h'.get b = some (.cells (ints l) true) ∧ Grow h h' := by
  refine ACa.introR follows_any look113 fun hl => ?_
  delta c113; simp -dsimp
  refine wpM.of ?_
  rw [c113r0]
  refine AWp.rangeFunc follows_any (f := 101) (first := []) (captured := [.ptr p 0]) rfl ?_
  have gr : Grow h (((h.push (.cells [.nils] true)).push .dfr).push (gL p h.n .ready)) := ((Grow.push _ _).pushed _).pushed _
  refine ACa.monoL (valuesRun_ok _ _ v p l (Gath h (gL p h.n .ready) l) hN (rd_grow hl gr hp) (hv.grow hl gr) ?_ (fun i h1 hQ => hv.grow hl hQ.grow) (gath_step h p l hN)) ?_
  · refine ⟨Heap.get_push_new _ _, ?_, gr, by simp, _, ?_, .inl ⟨rfl, rfl⟩⟩
    · rw [Heap.get_push_old _ _ (by simp)]; exact Heap.get_push_new (h.push _) _
    · rw [Heap.get_push_old _ _ (by simp; omega), Heap.get_push_old _ _ (by simp)]; exact Heap.get_push_new _ _
  · intro v' h' hn hl' hQ
    refine .inl ⟨hQ.lp, ?_⟩
    obtain ⟨cv, hc, hcur⟩ := hQ.cur
    have hn := hQ.n
    rcases hcur with ⟨hz, -⟩ | ⟨-, b, hb1, hb2, rfl, hb⟩
    · omega
    rw [List.take_length] at hb
    obtain ⟨X, hX⟩ : ∃ X, X = gL p h.n .exhausted := ⟨_, rfl⟩
    obtain ⟨H, hH⟩ : ∃ H, H = h'.set (h.n + 2) X := ⟨_, rfl⟩
    have hHn : H.n = h'.n := by rw [hH]; rfl
    have hHo : ∀ c, c ≠ h.n + 2 → H.get c = h'.get c := fun c hc => by rw [hH]; exact Heap.get_set_ne _ _ hc
    have e0 : rd H false 1 h.n 0 = some (.sl b 0 l.length l.length 1) := rd_get (l := [_]) (w := true) (by rw [hHo _ (by omega)]; exact hc)
    have hdf : H.get (h.n + 1) = some .dfr := by rw [hHo _ (by omega)]; exact hQ.df
    have hfold : h'.set (h.n + 1 + 1) (.loop .exhausted none (gTS p h.n) #[7] (codeAt (Tryz.f113.body.getD Code.skip) [1, 0, 1, 0, 0]) (codeAt (Tryz.f113.body.getD Code.skip) [1, 0, 1, 0, 1]) (h.n + 1)) = H := by rw [hH, hX]; rfl
    simp only [gTS] at hfold
    simp -dsimp
    rw [hfold]
    simp -dsimp [e0, endC_dfr _ _ _ hdf]
    have gr2 : Grow h H := ⟨by omega, fun c hc => by rw [hHo c (by omega)]; exact hQ.grow.old c hc⟩
    refine ⟨by omega, by omega, ?_, gr2.set _ (by omega)⟩
    rw [Heap.get_set_ne _ _ (by omega), hHo _ (by omega)]; exact hb
end Go.Proofs.YtpanggiejiommaaGreat

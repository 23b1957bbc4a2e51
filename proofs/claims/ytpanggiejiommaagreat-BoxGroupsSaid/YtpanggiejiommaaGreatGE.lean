/- Walks of the box seat, for BoxGroups: each, wishful. -/
import Derived.Test.YtpanggiejiommaaGreatGD
namespace Go.Proofs.YtpanggiejiommaaGreat
open Go Go.Am
set_option autoImplicit false
set_option linter.all false
set_option maxRecDepth 100000
attribute [local simp] RC_skip RC_ops RC_draw RC_seq RC_cond RC_block RC_loop RC_exit RC_ret RC_orig RO_nil RO_cons RO_guardN flipA_bool flipA_un R1_mv R1_pick R1_alloc R1_box R1_build R1_bsl R1_load R1_store R1_nilc R1_ib R1_sh R1_sb R1_bb R1_un R1_cvi R1_mkif R1_mkfn R1_mksl R1_fa R1_fld R1_ia R1_iaa R1_ixs R1_lenS R1_lenT R1_lenM R1_ext R1_call R1_app R1_gen RD_nil RD_cons RD_guardN D1_mv D1_pick D1_build D1_nilc D1_ib D1_sh D1_sb D1_bb D1_un D1_cvi D1_mkif D1_mkfn D1_fa D1_fld D1_ia D1_iaa D1_ixs D1_lenS D1_lenT D1_ext D1_load D1_alloc D1_box D1_bsl D1_store D1_call D1_app KF_nil KF_inN KF_outN KF_ainN KF_aoutN
attribute [local simp] xv_k xv_t put_some put_none SM_ca endC_ret endC_tmps intA cmp_eql cmp_neq cmp_lss cmp_leq cmp_gtr cmp_geq bindM_some bindM_none ptrM_ptr intM_int strM_str boolM_bool tupM_tup cellsM_cells BrM_true BrM_false BrM_not gdM_true gdM_false gdM_un mustM_true unA eqOp resA_nil resA_tmp tupA gt_zero gt_succ gt_nil gt_set rd_fold AV.cells AV.one fillA setL_one ldA_one get_push_new get_push_old get_set_new get_set_old rd_push_new rd_push_old rd_set_new rd_set_old
attribute [local simp] lay_zero lay_succ
attribute [local simp] call101 call113 call99 call100 call70 call71 call31 call69 call98 call68 call39 ints_length

theorem collect_ok (h : Heap) (p : Nat) (v : AV) (l : List Int) (h0 : 0 < l.length) (hN : l.length < 1000) (hp : rd h false 1 p 0 = some v) (hv : IntS h v l) :
    ACa Tryz.prog 99 [.fn (.func 101) [] [.ptr p 0]] h fun r h' => ∃ b, r = .sl b 0 l.length l.length 1 ∧ h.n < b ∧ b < h'.n ∧ h'.get b = some (.cells (ints l) true) ∧ Grow h h' := by
  refine ACa.introR follows_any look99 fun hl => ?_
  delta c99; simp -dsimp
  refine caM.by (appendSeq_ok h p v l h0 hN hp hv) ?_
  rintro _ h' - ⟨b, rfl, h1, h2, h3, h4⟩
  simp -dsimp
  exact ⟨h1, h2, h3, h4⟩

theorem sorted_ok (h : Heap) (p : Nat) (v : AV) (l : List Int) (h0 : 0 < l.length) (hN : l.length ≤ 12) (hp : rd h false 1 p 0 = some v) (hv : IntS h v l) :
    ACa Tryz.prog 70 [.fn (.func 101) [] [.ptr p 0]] h fun r h' => ∃ b l', r = .sl b 0 l.length l.length 1 ∧ l'.Perm l ∧ Sorted l' ∧ h'.get b = some (.cells (ints l') true) ∧ Grow h h' := by
  refine ACa.introR follows_any look70 fun hl => ?_
  delta c70; simp -dsimp
  refine caM.by (collect_ok h p v l h0 (by omega) hp hv) ?_
  rintro _ h' - ⟨b, rfl, h1, h2, h3, gr⟩
  simp -dsimp
  refine caM.by (sort_ok h' b _ _ l h2 h0 hN h3) ?_
  rintro v h'' - ⟨l', hp, hs, hb⟩
  simp -dsimp
  exact ⟨l', hp, hs, hb.get, ⟨by rw [hb.n]; exact gr.n, fun c hc => by rw [hb.old c (by omega), gr.old c hc]⟩⟩

theorem low_at : ∀ {l : List Int} {a : Int}, l.Pairwise (· < ·) → (∀ y ∈ l, a ≤ y) → ∀ (i : Nat) (y : Int), l[i]? = some y → a + i ≤ y
  | [], _, _, _, i, y, h => by simp at h
  | x :: r, a, hp, ha, 0, y, h => by simp at h; subst h; simpa using ha x (by simp)
  | x :: r, a, hp, ha, i + 1, y, h => by
    have hx := List.pairwise_cons.1 hp
    have h1 := ha x (by simp)
    have := low_at (a := a + 1) hx.2 (fun y hy => by have := hx.1 y hy; omega) i y (by simpa using h)
    omega
theorem up_at : ∀ {l : List Int} {b : Int}, l.Pairwise (· < ·) → (∀ y ∈ l, y < b) → ∀ (i : Nat) (y : Int), l[i]? = some y → y + (l.length - i) ≤ b
  | [], _, _, _, i, y, h => by simp at h
  | [x], b, hp, hb, 0, y, h => by simp at h; subst h; have := hb x (by simp); simp; omega
  | [x], b, hp, hb, i + 1, y, h => by simp at h
  | x :: z :: r, b, hp, hb, 0, y, h => by
    simp at h; subst h
    have hx := List.pairwise_cons.1 hp
    have h1 := hx.1 z (by simp)
    have := up_at (b := b) hx.2 (fun y hy => hb y (by simp at hy ⊢; exact .inr hy)) 0 z (by simp)
    simp at this ⊢; omega
  | x :: z :: r, b, hp, hb, i + 1, y, h => by
    have hx := List.pairwise_cons.1 hp
    have := up_at (b := b) hx.2 (fun y hy => hb y (by simp at hy ⊢; exact .inr hy)) i y (by simpa using h)
    simp at this ⊢; omega
theorem ord_sorted {n : Nat} {l l' : List Int} (ho : IsOrd n l) (hp : l'.Perm l) (hs : Sorted l') (i : Nat) (y : Int) (hy : l'[i]? = some y) : y = i := by
  have hnd : l'.Nodup := hp.nodup_iff.2 ho.2.2
  have hlt : l'.Pairwise (· < ·) := by
    have := List.Pairwise.and hs hnd
    exact this.imp fun h => by omega
  have hr : ∀ x ∈ l', 0 ≤ x ∧ x < (n : Int) := fun x hx => ho.2.1 x (hp.mem_iff.1 hx)
  have hlen : l'.length = n := by rw [hp.length_eq, ho.1]
  have h1 := low_at (a := 0) hlt (fun x hx => (hr x hx).1) i y hy
  have h2 := up_at (b := n) hlt (fun x hx => (hr x hx).2) i y hy
  omega

theorem each_ok (h : Heap) (v : AV) (n : Nat) (l : List Int) (h0 : 0 < n) (hN : n ≤ 12) (hv : IntS h v l) (ho : IsOrd n l) :
    ACa Tryz.prog 31 [v, .int .i64 n] h fun r h' => r = .bool true ∧ Grow h h' := by
  refine ACa.introR follows_any look31 fun hl => ?_
  have hln := ho.1
  obtain ⟨b, o, c, k, rfl⟩ : ∃ b o c k, v = .sl b o l.length c k := by
    have := hv.slLen
    rcases hv with ⟨rfl, hz⟩ | ⟨b, o, c, x, cs, rw_, rfl, _, _⟩
    · exfalso; have := congrArg List.length hz; simp at this; subst this; simp at hln; omega
    · exact ⟨b, o, c, x, by simp⟩
  delta c31; simp -dsimp
  refine caM.by (values_ok h _ _ _ _ _) ?_
  rintro _ _ hl1 ⟨rfl, rfl⟩
  have g1 : Grow h (h.push (.cells [.sl b o l.length c k] true)) := Grow.push _ _
  simp -dsimp
  refine caM.by (sorted_ok _ h.n (.sl b o l.length c k) l (by omega) (by omega) (rd_get (l := [_]) (w := true) (Heap.get_push_new _ _)) (hv.grow hl g1)) ?_
  rintro _ h2 hl2 ⟨b2, l', rfl, hp, hs, hb2, g2⟩
  have g := g1.trans g2
  have hlen : l'.length = l.length := hp.length_eq
  simp -dsimp [slLen]
  refine wcM.loopN follows_any 24 (fun i => l.length - i) (fun i ts h' => h' = h2 ∧ i ≤ l.length ∧ gt ts 0 = .sl b o l.length c k ∧ gt ts 1 = .int .i64 n ∧ gt ts 9 = .sl b2 0 l.length l.length 1 ∧ gt ts 10 = .int .i64 l.length ∧ gt ts 11 = .int .i64 i) 0 rfl ⟨rfl, Nat.zero_le _, rfl, rfl, rfl, rfl, rfl⟩ ?_
  rintro i ts h' - ⟨rfl, hi, t0, t1, t9, t10, t11⟩
  delta c31l0; simp -dsimp [t0, t1, t9, t10, t11]
  refine Br_dec (fun hlt => ?_) (fun hge => ?_)
  · have hlt : i < l.length := by omega
    obtain ⟨y, hy⟩ : ∃ y, l'[i]? = some y := ⟨_, List.getElem?_eq_getElem (by omega)⟩
    have e1 := idx_sl (b := b2) (n := l.length) (c := l.length) (k := 1) (j := .i64) (i := (i : Int)) (by omega) (by omega)
    have e2 : rd h' false 1 b2 i = some (.int .i64 y) := by rw [rd_get hb2, ints, List.getElem?_map, hy]; rfl
    have hyi := ord_sorted ho hp hs i y hy
    subst hyi
    simp -dsimp [t0, t1, t9, t10, t11, e1, e2, wrap_i64 (n := (i : Int) + 1) (by omega) (by omega)]
    exact Next.intro (i + 1) rfl ⟨rfl, hlt, rfl, rfl, rfl, rfl, rfl⟩ (by omega)
  · simp -dsimp [t0, t1, slLen]
    exact ⟨by omega, g⟩

theorem notEach_ok (h : Heap) (p : Nat) (v : AV) (n : Nat) (l : List Int) (h0 : 0 < n) (hN : n ≤ 12) (hv : IntS h v l) (ho : IsOrd n l) (hp : rd h false 1 p 0 = some (.int .i64 n)) :
    ACa Tryz.prog 69 [v, .ptr p 0] h fun r h' => r = .bool false ∧ Grow h h' := by
  refine ACa.introR follows_any look69 fun hl => ?_
  delta c69; simp -dsimp [hp]
  refine caM.by (each_ok h v n l h0 hN hv ho) ?_
  rintro _ h' - ⟨rfl, gr⟩
  simp -dsimp
  exact gr

theorem noIndex_ok (h : Heap) (v f : AV) (ws : List (List Int)) (hv : Lists h v ws) (hN : ws.length < 1000)
    (hf : ∀ l ∈ ws, ∀ h1 x, Low h1 → Grow h h1 → IntS h1 x l → ∀ k : AV → Heap → Prop, (∀ h2, Low h2 → Grow h1 h2 → k (.bool false) h2) → callV Tryz.prog DProp (SM Tryz.prog) f [x] h1 k) :
    ACa Tryz.prog 98 [v, f] h fun r h' => r = .int .i64 (-1) ∧ Grow h h' := by
  refine ACa.introR follows_any look98 fun hl => ?_
  delta c98; simp -dsimp [hv.slLen]
  refine wcM.loopN follows_any 19 (fun i => ws.length - i) (fun i ts h' => i ≤ ws.length ∧ gt ts 0 = v ∧ gt ts 1 = f ∧ gt ts 7 = .int .i64 ws.length ∧ gt ts 8 = .int .i64 i ∧ Grow h h') 0 rfl ⟨Nat.zero_le _, rfl, rfl, rfl, rfl, Grow.refl _⟩ ?_
  rintro i ts h' hl' ⟨hi, t0, t1, t7, t8, gr⟩
  delta c98l0; simp -dsimp [t0, t1, t7, t8]
  refine Br_dec (fun hlt => ?_) (fun hge => ?_)
  · have hlt : i < ws.length := by omega
    obtain ⟨l, hy⟩ : ∃ l, ws[i]? = some l := ⟨_, List.getElem?_eq_getElem hlt⟩
    obtain ⟨b, p, x, e1, e2, hx⟩ := (hv.grow hl gr).elem hl' hy
    simp -dsimp [t0, t1, t7, t8, e1, e2]
    refine cvM.of (hf l (List.mem_of_getElem? hy) h' x hl' gr hx _ fun h2 hl2 g2 => ?_)
    simp -dsimp [t0, t1, t7, t8, wrap_i64 (n := (i : Int) + 1) (by omega) (by omega)]
    exact Next.intro (i + 1) rfl ⟨hlt, rfl, rfl, rfl, rfl, gr.trans g2⟩ (by omega)
  · simp -dsimp
    exact gr

theorem noContains_ok (h : Heap) (v f : AV) (ws : List (List Int)) (hv : Lists h v ws) (hN : ws.length < 1000)
    (hf : ∀ l ∈ ws, ∀ h1 x, Low h1 → Grow h h1 → IntS h1 x l → ∀ k : AV → Heap → Prop, (∀ h2, Low h2 → Grow h1 h2 → k (.bool false) h2) → callV Tryz.prog DProp (SM Tryz.prog) f [x] h1 k) :
    ACa Tryz.prog 68 [v, f] h fun r h' => r = .bool false ∧ Grow h h' := by
  refine ACa.introR follows_any look68 fun hl => ?_
  delta c68; simp -dsimp
  refine caM.by (noIndex_ok h v f ws hv hN hf) ?_
  rintro _ h' - ⟨rfl, gr⟩
  simp -dsimp
  exact gr

theorem wishful_ok (h : Heap) (v : AV) (ws : List (List Int)) (hv : Lists h v ws) (h0 : 0 < ws.length) (h8 : ws.length ≤ 8) (ho : ∀ l ∈ ws, IsOrd ws.length l) :
    ACa Tryz.prog 30 [v] h fun r h' => r = .bool true ∧ Grow h h' := by
  refine ACa.introR follows_any look30 fun hl => ?_
  delta c30; simp -dsimp [hv.slLen]
  obtain ⟨H, hH⟩ : ∃ H, H = (h.push (.cells [.int .i64 0] true)).set h.n (.cells [.int .i64 ws.length] true) := ⟨_, rfl⟩
  rw [← hH]
  have g1 : Grow h H := by rw [hH]; exact (Grow.push _ _).set _ (Nat.le_refl _)
  have hHl : Low H := by rw [hH]; exact (hl.push _).set _ (by simp)
  have hc : H.get h.n = some (.cells [.int .i64 ws.length] true) := by rw [hH]; exact Heap.get_set_same _ _ _
  refine caM.by (from_ok H _ _ _) ?_
  rintro _ H' - ⟨rfl, rfl⟩
  have e1 : (decide ((1 : Int) ≤ ws.length) && decide ((ws.length : Int) ≤ 8)) = true := by simp; omega
  simp -dsimp only [e1]
  simp -dsimp
  refine caM.by (noContains_ok H' v (.fn (.func 69) [] [.ptr h.n 0]) ws (hv.grow hl g1) (by omega) ?_) ?_
  · intro l hm h1 x hl1 g hx k hk
    rw [callV_func 69 _ _ _ (by kernel_rfl)]
    exact ACa.monoL (notEach_ok h1 h.n x ws.length l h0 (by omega) hx (ho l hm) (rd_get (l := [_]) (w := true) (g.got hHl hc))) fun r h2 _ hl2 ⟨hr, g2⟩ => by subst hr; exact hk h2 hl2 g2
  · rintro _ h' - ⟨rfl, gr⟩
    simp -dsimp
    exact g1.trans gr
end Go.Proofs.YtpanggiejiommaaGreat

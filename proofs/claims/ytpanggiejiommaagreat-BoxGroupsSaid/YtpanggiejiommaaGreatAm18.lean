/- The abstract machine, part 18: a region that draws its order is sound. -/
import Derived.Test.YtpanggiejiommaaGreatAm17
namespace Go.Am
set_option autoImplicit false
set_option linter.all false
open Go

theorem Nx.more {ρ ρ' : Ren} {h h' h'' : Heap} (x : Nx ρ h ρ' h') (hn : h'.n ≤ h''.n) : Nx ρ h ρ' h'' := ⟨x.sub, Nat.le_trans x.n hn, x.old⟩

section
variable {P : Program} {ops : Array Oper} {R : Type} {D : Dem R} {sat : R → Prop} {S : Sm R}

def footOf (p : Nat × Rec) (fs : List Foot) : Prop :=
  match p.2 with
  | .rd b f v => Foot.rd p.1 b f v ∈ fs
  | .al b _ _ => Foot.al p.1 b ∈ fs
  | _ => True

theorem footOf.more {p : Nat × Rec} {fs fs' : List Foot} (h : footOf p fs) (hs : ∀ f ∈ fs, f ∈ fs') : footOf p fs' := by
  obtain ⟨i, r⟩ := p
  cases r <;> first | exact hs _ h | trivial

theorem keptF_sound (hD : Sat D sat) {b : Nat} {h h' : Heap} : ∀ {fs : List Foot} {r : R}, sat (keptF D b h h' fs r) → sat r ∧
    (∀ i x f v, Foot.rd i x f v ∈ fs → b.testBit i = true ∨ (h'.get x).bind f = some v) ∧ (∀ i x, Foot.al i x ∈ fs → b.testBit i = true ∨ ∃ y, h.get x = some y ∧ h'.get x = some y)
  | [], _, hs => ⟨hs, fun _ _ _ _ h => by simp at h, fun _ _ h => by simp at h⟩
  | .rd i x f v :: fs, r, hs => by
    unfold keptF at hs
    have key : sat (keptF D b h h' fs r) ∧ (b.testBit i = true ∨ (h'.get x).bind f = some v) := by
      split at hs
      · rename_i hb; exact ⟨hs, .inl hb⟩
      · exact ⟨(hD.sameV _ _ _ hs).2, .inr (hD.sameV _ _ _ hs).1⟩
    obtain ⟨q1, q2, q3⟩ := keptF_sound hD key.1
    refine ⟨q1, fun i' x' f' v' hm => ?_, fun i' x' hm => q3 i' x' (by simpa using hm)⟩
    rcases List.mem_cons.1 hm with e | hm
    · cases e; exact key.2
    · exact q2 _ _ _ _ hm
  | .al i x :: fs, r, hs => by
    unfold keptF at hs
    have key : sat (keptF D b h h' fs r) ∧ (b.testBit i = true ∨ ∃ y, h.get x = some y ∧ h'.get x = some y) := by
      split at hs
      · rename_i hb; exact ⟨hs, .inl hb⟩
      · obtain ⟨⟨a, c, p, e1, e2, rfl⟩, e3⟩ := hD.sameO _ _ _ hs
        exact ⟨e3, .inr ⟨_, e1, e2⟩⟩
    obtain ⟨q1, q2, q3⟩ := keptF_sound hD key.1
    refine ⟨q1, fun i' x' f' v' hm => q2 _ _ _ _ (by simpa using hm), fun i' x' hm => ?_⟩
    rcases List.mem_cons.1 hm with e | hm
    · cases e; exact key.2
    · exact q3 _ _ hm

/-- How the two machines stand in the midst of such a region. -/
structure St (P : Program) (ops : Array Oper) (K : Nat → Prop) (w0 : World) (ρ0 : Ren) (h0 : Heap) (rc : Option Nat) (listed : Array Bool) (pend : List (Nat × Rec)) (rest : List Nat) (fs : List Foot) (a0 a : AAct) (h : Heap) (ca : Act) (w : World) (ρ : Ren) : Prop where
  lie : Lie ops listed (pend.map (·.1)) rest
  pn : Pend P ops h a0 pend a
  cov : ∀ p ∈ pend, footOf p fs
  hr : HR P.globals.size K w0 ρ h w
  ar : AR ρ rc a0 ca
  al : ∀ p ∈ pend, ∀ b x g, p.2 = .al b x g → ρ b = none ∧ h0.n ≤ b ∧ b < h.n
  apart : pend.Pairwise fun p q => ∀ b x g b' x' g', p.2 = .al b x g → q.2 = .al b' x' g' → b ≠ b'
  nx : Nx ρ0 h0 ρ h

variable {K : Nat → Prop} {w0 : World} {ρ0 : Ren} {h0 : Heap} {rc : Option Nat} {k : AAct → Heap → R}

theorem St.ahead {listed : Array Bool} {pend : List (Nat × Rec)} {i : Nat} {rest : List Nat} {fs fs' : List Foot} {a0 a : AAct} {h h' : Heap} {ca : Act} {w : World} {ρ : Ren} (T : St P ops K w0 ρ0 h0 rc listed pend (i :: rest) fs a0 a h ca w ρ) {r : Rec}
    (hg : ∀ b x, h.get b = some x → h'.get b = some x) (hn : h.n ≤ h'.n) (H' : HR P.globals.size K w0 ρ h' w) (hr : RecOk P ops h' a (ops.getD i default) r) (hfs : ∀ f ∈ fs, f ∈ fs') (hf : footOf (i, r) fs')
    (hal : ∀ b x g, r = .al b x g → ρ b = none ∧ b = h.n ∧ b < h'.n) : St P ops K w0 ρ0 h0 rc listed (pend ++ [(i, r)]) rest fs' a0 (a.put (ops.getD i default).dst r.val) h' ca w ρ := by
  refine ⟨by simpa using T.lie.ahead, (T.pn.heap fun p _ a hp => hp.heap hg).snoc hr, fun p hp => ?_, H', T.ar, fun p hp b x g e => ?_, ?_, T.nx.more hn⟩
  · rcases List.mem_append.1 hp with hp | hp
    · exact (T.cov p hp).more hfs
    · simp at hp; subst hp; exact hf
  · rcases List.mem_append.1 hp with hp | hp
    · obtain ⟨q1, q2, q3⟩ := T.al p hp b x g e; exact ⟨q1, q2, Nat.lt_of_lt_of_le q3 hn⟩
    · simp at hp; subst hp
      obtain ⟨q1, q2, q3⟩ := hal b x g e
      exact ⟨q1, by rw [q2]; exact T.nx.n, q3⟩
  · refine List.pairwise_append.2 ⟨T.apart, List.pairwise_singleton _ _, fun p hp q hq b x g b' x' g' e1 e2 => ?_⟩
    simp at hq; subst hq
    obtain ⟨_, q2, _⟩ := hal b' x' g' e2
    obtain ⟨_, _, q3⟩ := T.al p hp b x g e1
    omega

theorem advance (hD : Sat D sat) {listed : Array Bool} {a0 : AAct} {ca : Act} {w : World} {ρ : Ren} : ∀ (rest : List Nat) (pend : List (Nat × Rec)) (fs : List Foot) (a : AAct) (h : Heap),
    sat (drawF P D S ops rest fs a h k) → St P ops K w0 ρ0 h0 rc listed pend rest fs a0 a h ca w ρ →
    ∃ pend' rest' fs' a' h', sat (drawF P D S ops rest' fs' a' h' k) ∧ St P ops K w0 ρ0 h0 rc listed pend' rest' fs' a0 a' h' ca w ρ ∧ pend'.length + rest'.length = pend.length + rest.length ∧
      (rest' = [] ∨ ∃ i t, rest' = i :: t ∧ isEff (ops.getD i default).op = true ∧ wantedA ops a'.tmps (ops.getD i default) = some true) := by
  intro rest
  induction rest with
  | nil => exact fun pend fs a h hs T => ⟨pend, [], fs, a, h, hs, T, rfl, .inl rfl⟩
  | cons i rest ih =>
    intro pend fs a h hs T
    have hs0 := hs
    simp only [drawF] at hs
    have go : ∀ (r : Rec) (fs' : List Foot) (h' : Heap), sat (drawF P D S ops rest fs' (a.put (ops.getD i default).dst r.val) h' k) → St P ops K w0 ρ0 h0 rc listed (pend ++ [(i, r)]) rest fs' a0 (a.put (ops.getD i default).dst r.val) h' ca w ρ →
        ∃ pend' rest' fs' a' h', sat (drawF P D S ops rest' fs' a' h' k) ∧ St P ops K w0 ρ0 h0 rc listed pend' rest' fs' a0 a' h' ca w ρ ∧ pend'.length + rest'.length = pend.length + (i :: rest).length ∧
          (rest' = [] ∨ ∃ i t, rest' = i :: t ∧ isEff (ops.getD i default).op = true ∧ wantedA ops a'.tmps (ops.getD i default) = some true) := by
      intro r fs' h' hs' T'
      obtain ⟨p', r', f', a', h'', q1, q2, q3, q4⟩ := ih _ _ _ _ hs' T'
      exact ⟨p', r', f', a', h'', q1, q2, by simp at q3 ⊢; omega, q4⟩
    split at hs
    · rename_i hw
      exact go .un fs h hs (T.ahead (fun _ _ h => h) (Nat.le_refl _) T.hr hw (fun _ h => h) trivial (fun _ _ _ e => by cases e))
    · exact (hD.no hs).elim
    · rename_i hw
      split at hs
      · rename_i he
        exact ⟨pend, i :: rest, fs, a, h, hs0, T, rfl, .inr ⟨i, rest, rfl, he, hw⟩⟩
      · rename_i he
        have he' : isEff (ops.getD i default).op = false := by simpa using he
        split at hs
        · rename_i v hc
          exact go (.pure v) fs h hs (T.ahead (fun _ _ h => h) (Nat.le_refl _) T.hr ⟨hw, he', hc⟩ (fun _ h => h) trivial (fun _ _ _ e => by cases e))
        · rename_i b f hc
          split at hs
          · rename_i x hx
            split at hs
            · rename_i v hv
              exact go (.rd b f v) (.rd i b f v :: fs) h hs (T.ahead (fun _ _ h => h) (Nat.le_refl _) T.hr ⟨hw, he', hc, by rw [hx]; exact hv⟩ (fun _ h => by simp [h]) (by simp [footOf]) (fun _ _ _ e => by cases e))
            · exact (hD.no hs).elim
          · exact (hD.no hs).elim
        · rename_i x g hc
          have htop := T.hr.top h.n (Nat.le_refl _)
          exact go (.al h.n x g) (.al i h.n :: fs) (h.push x) hs (T.ahead (fun b y hb => by rw [Heap.get_push_old _ _ (fun e => by rw [e, htop.1] at hb; cases hb)]; exact hb) (Nat.le_succ _) (T.hr.pushAbs x)
            ⟨hw, he', hc, Heap.get_push_new _ _⟩ (fun _ h => by simp [h]) (by simp [footOf]) (fun b y g' e => by cases e; exact ⟨htop.2, rfl, Nat.lt_succ_self _⟩))
        · exact (hD.no hs).elim

theorem getD_some {i : Nat} {o : Oper} (h : ops[i]? = some o) : ops.getD i default = o := by simp [Array.getD_eq_getD_getElem?, h]

set_option maxHeartbeats 2000000 in
/-- Whatever the order. -/
theorem draw_any (hD : Sat D sat) (hS : Snd P sat S) (hd : DrawOk ops) {Q : Exit → Act → World → Prop}
    (hk : ∀ ρ' a' h' ca' w', sat (k a' h') → Nx ρ0 h0 ρ' h' → HR P.globals.size K w0 ρ' h' w' → AR ρ' rc a' ca' → Q .normal ca' w') :
    ∀ (fuel : Nat) (listed : Array Bool) (pend : List (Nat × Rec)) (rest : List Nat) (fs : List Foot) (a0 a : AAct) (h : Heap) (ca : Act) (w : World) (ρ : Ren), pend.length + rest.length ≤ fuel →
      sat (drawF P D S ops rest fs a h k) → St P ops K w0 ρ0 h0 rc listed pend rest fs a0 a h ca w ρ → wpAnyIn (FF rc) 0 P .any ops Q fuel listed ca w := by
  intro fuel
  induction fuel with
  | zero =>
    intro listed pend rest fs a0 a h ca w ρ hlen hs T
    have h1 : pend = [] := List.length_eq_zero_iff.1 (by omega)
    have h2 : rest = [] := List.length_eq_zero_iff.1 (by omega)
    subst h1 h2
    have hp := T.pn
    cases hp
    simp only [drawF] at hs
    refine ⟨?_, hk ρ _ h ca w hs T.nx T.hr T.ar⟩
    cases hr : Region.ready .any ops listed with
    | nil => rfl
    | cons i l => have := (T.lie.ready (i := i) (by rw [hr]; simp)).1; simp at this
  | succ fuel ih =>
    intro listed pend rest fs a0 a h ca w ρ hlen hs T
    obtain ⟨pend, rest, fs, a, h, hs, T, hl2, hform⟩ := advance hD rest pend fs a h hs T
    refine ⟨fun hnone => ?_, fun i hi => ?_⟩
    · obtain ⟨e1, e2⟩ := T.lie.none hnone
      have e1' : pend = [] := by simpa using e1
      subst e1' e2
      have hp := T.pn
      cases hp
      simp only [drawF] at hs
      exact hk ρ _ h ca w hs T.nx T.hr T.ar
    · obtain ⟨him, hpre⟩ := T.lie.ready hi
      obtain ⟨hilt, hil⟩ := T.lie.lt i him
      have hoi : ops[i]? = some (ops.getD i default) := by simp [Array.getD_eq_getD_getElem?, hilt]
      unfold wpOpIn
      rw [hoi]
      dsimp only
      rcases List.mem_append.1 him with hip | hir
      · -- done ahead of its time; now the model does it
        obtain ⟨p, hpm, hpi⟩ := List.mem_map.1 hip
        obtain ⟨l1, l2, hpl⟩ := List.append_of_mem hpm
        obtain ⟨i', r⟩ := p
        simp only at hpi
        subst hpi
        subst hpl
        have hapart : ∀ p ∈ l1, Apart ops (ops.getD p.1 default) (ops.getD i' default) := by
          intro p hp
          obtain ⟨s, t, rfl⟩ := List.append_of_mem hp
          exact T.lie.apart hd (l1 := s.map (·.1)) (x := p.1) (l2 := t.map (·.1) ++ i' :: (l2.map (·.1) ++ rest)) (by simp) (by simp) hpre
        obtain ⟨hrec, hpend⟩ := T.pn.pull hapart
        have hsub : ∀ p ∈ l1 ++ l2, p ∈ l1 ++ (i', r) :: l2 := fun p hp => by
          simp only [List.mem_append, List.mem_cons] at hp ⊢
          rcases hp with h | h <;> simp [h]
        have fin : ∀ (ρ' : Ren) (w' : World) (cv : Value), Sub ρ ρ' → (∀ b, b < h0.n → ρ' b = ρ b) → HR P.globals.size K w0 ρ' h w' → VR ρ' r.val cv → (∀ p ∈ l1 ++ l2, ∀ b x g, p.2 = .al b x g → ρ' b = none) →
            wpAnyIn (FF rc) 0 P .any ops Q fuel (listed.setIfInBounds i' true) (ca.put (ops.getD i' default).dst cv) w' := by
          intro ρ' w' cv hsb hold H' hv hnone
          refine ih _ (l1 ++ l2) rest fs _ a h _ w' ρ' (by simp at hl2 ⊢; omega) hs ⟨?_, hpend, fun p hp => T.cov p (hsub p hp), H', (T.ar.mono hsb).put _ hv, fun p hp b x g e => ?_, ?_, ?_⟩
          · have := T.lie.drop (l1 := l1.map (·.1)) (l2 := l2.map (·.1)) (rest' := rest) hpre (.inl ⟨by simp, rfl⟩)
            simpa using this
          · obtain ⟨_, q2, q3⟩ := T.al p (hsub p hp) b x g e
            exact ⟨hnone p hp b x g e, q2, q3⟩
          · exact T.apart.sublist (List.Sublist.append (List.Sublist.refl _) (List.sublist_cons_self _ _))
          · exact ⟨T.nx.sub.trans hsb, T.nx.n, fun b hb => (hold b hb).trans (T.nx.old b hb)⟩
        have hnone0 : ∀ p ∈ l1 ++ l2, ∀ b x g, p.2 = .al b x g → ρ b = none := fun p hp b x g e => (T.al p (hsub p hp) b x g e).1
        have hev := fun x => T.ar.ev T.hr x
        have nod : isEff (ops.getD i' default).op = false → ∀ c, (ops.getD i' default).op ≠ .defer c := fun he c hop => by rw [cls_noDefer c hop] at he; cases he
        cases r with
        | un =>
          rw [if_neg (by rw [T.ar.yielded ops hrec]; simp)]
          exact ⟨fun _ _ => trivial, fin ρ w undef (Sub.refl _) (fun _ _ => rfl) T.hr VR.un hnone0⟩
        | pure v =>
          obtain ⟨h1, h2, h3⟩ := hrec
          rw [if_pos (T.ar.yielded ops h1)]
          obtain ⟨v', r1, r2⟩ := cls_pure h3 hev
          exact upon_of (nod h2) (.inl (r1 w)) (fin ρ w v' (Sub.refl _) (fun _ _ => rfl) T.hr r2 hnone0)
        | rd b f v =>
          obtain ⟨h1, h2, h3, h4⟩ := hrec
          rw [if_pos (T.ar.yielded ops h1)]
          obtain ⟨cb, d, hρ, r⟩ := cls_read h3 hev
          cases hb : h.get b with
          | none => rw [hb] at h4; cases h4
          | some x =>
            rw [hb] at h4
            obtain ⟨v', r1, r2⟩ := r ρ w (ρ.sz cb) x v (Sub.refl _) (T.hr.obj b x cb d hb hρ) h4
            exact upon_of (nod h2) (.inl r1) (fin ρ w v' (Sub.refl _) (fun _ _ => rfl) T.hr r2 hnone0)
        | al b x g =>
          obtain ⟨h1, h2, h3, h4⟩ := hrec
          rw [if_pos (T.ar.yielded ops h1)]
          obtain ⟨ox, v', r1, r2⟩ := cls_alloc h3 hev
          obtain ⟨q1, q2, q3⟩ := T.al (i', .al b x g) (by simp) b x g rfl
          obtain ⟨N, n1, n2⟩ := T.hr.place (ox := ox) h4 q1 (fun ρ' cb hs hb => (r2 ρ' b cb hs hb).2)
          refine upon_of (nod h2) (.inl (r1 w)) (fin _ _ _ n1 (fun c hc => Ren.put_ne _ _ _ (by omega)) n2 (r2 _ b w.heap.size n1 (Ren.put_same _ _ _ _)).1 ?_)
          intro p hp b' x' g' e
          have hne : b' ≠ b := by
            have hpw := List.pairwise_append.1 T.apart
            rcases List.mem_append.1 hp with hp | hp
            · exact hpw.2.2 p hp (i', .al b x g) (by simp) b' x' g' b x g e rfl
            · exact ((List.pairwise_cons.1 hpw.2.1).1 p hp b x g b' x' g' rfl e).symm
          rw [Ren.put_ne _ _ _ hne]
          exact hnone0 p hp b' x' g' e
      · -- a change
        rcases hform with rfl | ⟨j, t, rfl, heff, hwant⟩
        · simp at hir
        have hij : i = j := by
          rcases List.mem_cons.1 hir with h | h
          · exact h
          · exact (T.lie.head heff h hpre).elim
        subst hij
        have hapart : ∀ p ∈ pend, Apart ops (ops.getD p.1 default) (ops.getD i default) := by
          intro p hp
          obtain ⟨s, u, rfl⟩ := List.append_of_mem hp
          exact T.lie.apart hd (l1 := s.map (·.1)) (x := p.1) (l2 := u.map (·.1) ++ i :: t) (by simp) (by simp) hpre
        obtain ⟨lk1, lk2⟩ := T.pn.look hapart
        rw [if_pos (T.ar.yielded ops (lk1 ▸ hwant))]
        simp only [drawF, hwant, heff, if_true] at hs
        rw [effF_congr _ lk2] at hs
        refine effF_sound hD hS T.hr hs (fun x => T.ar.ev T.hr x) ?_
        intro ρ' v h' cv w' hs' N' H' hv
        obtain ⟨hs2, k1, k2⟩ := keptF_sound hD hs'
        have nobit : ∀ p ∈ pend, ((Region.before ops).getD i 0).testBit p.1 ≠ true := fun p hp hb => by
          obtain ⟨q1, q2⟩ := T.lie.lt p.1 (by simp only [List.mem_append, List.mem_map]; exact .inl ⟨p, hp, rfl⟩)
          have := before_in hd T.lie.down i hilt hpre p.1 q1 hb
          rw [this] at q2; cases q2
        refine ih _ pend t fs _ (a.put (ops.getD i default).dst v) h' _ w' ρ' (by simp at hl2; omega) hs2 ⟨?_, ?_, T.cov, H', (T.ar.mono N'.sub).put _ hv, fun p hp b x g e => ?_, T.apart, T.nx.trans N'⟩
        · have := T.lie.drop (l1 := pend.map (·.1)) (l2 := []) (rest' := t) hpre (.inr ⟨rfl, rfl, rfl⟩)
          simpa using this
        · refine T.pn.push hapart fun p hp a1 hr => ?_
          have hcov := T.cov p hp
          obtain ⟨p1, r⟩ := p
          cases r with
          | un => exact hr
          | pure v => exact hr
          | rd b f v => exact ⟨hr.1, hr.2.1, hr.2.2.1, (k1 p1 b f v hcov).resolve_left (nobit _ hp)⟩
          | al b x g =>
            obtain ⟨y, y1, y2⟩ := (k2 p1 b hcov).resolve_left (nobit _ hp)
            have := hr.2.2.2
            rw [y1] at this
            cases this
            exact ⟨hr.1, hr.2.1, hr.2.2.1, y2⟩
        · obtain ⟨q1, q2, q3⟩ := T.al p hp b x g e
          exact ⟨(N'.old b q3).trans q1, q2, Nat.lt_of_lt_of_le q3 N'.n⟩

/-- A region that draws its order. -/
theorem draw_sound (hD : Sat D sat) (hS : Snd P sat S) (hm : P.follows .mixedOrders = true) (hd : drawOk ops = true) {id : Nat} {a : AAct} {ca : Act} {w : World} {Q : Exit → Act → World → Prop} (hs : sat (drawF P D S ops (canon ops) [] a h0 k)) (H : HR P.globals.size K w0 ρ0 h0 w) (A : AR ρ0 rc a ca)
    (hk : ∀ ρ' a' h' ca' w', sat (k a' h') → Nx ρ0 h0 ρ' h' → HR P.globals.size K w0 ρ' h' w' → AR ρ' rc a' ca' → Q .normal ca' w') : (Code.region id ops true).wpIn (FF rc) 0 P Q ca w := by
  have hd' := drawOk_spec hd
  refine wpIn_region_any hm ?_
  have hl : (canon ops).length ≤ ops.size := by
    have L := Lie.start hd'
    have hsub : (canon ops).length ≤ (List.range ops.size).length := by
      refine (List.Nodup.length_le_of_subset (by simpa using L.nodup) fun i hi => ?_)
      exact List.mem_range.2 (L.lt i (by simpa using hi)).1
    simpa using hsub
  exact draw_any hD hS hd' hk ops.size _ [] (canon ops) [] a a h0 ca _ ρ0 (by simpa using hl) hs ⟨Lie.start hd', .nil _, by simp, H.drew, A, by simp, List.Pairwise.nil, Nx.refl _ _⟩

end
end Go.Am

/- The abstract machine, part 21: its two readings; a closed call. -/
import Derived.Test.YtpanggiejiommaaGreatAm20
namespace Go.Am
set_option autoImplicit false
set_option linter.all false
open Go

mutual
theorem AV.eqb_eq : ∀ (a b : AV), AV.eqb a b = true → a = b
  | .int _ _, b, h => by cases b <;> simp [AV.eqb] at h ⊢; exact h
  | .bool _, b, h => by cases b <;> simp [AV.eqb] at h ⊢; exact h
  | .str _, b, h => by cases b <;> simp [AV.eqb] at h ⊢; exact h
  | .ptr _ _, b, h => by cases b <;> simp [AV.eqb] at h ⊢; exact h
  | .nilp, b, h => by cases b <;> simp [AV.eqb] at h ⊢
  | .sl _ _ _ _ _, b, h => by cases b <;> simp [AV.eqb] at h ⊢; simp [h]
  | .nils, b, h => by cases b <;> simp [AV.eqb] at h ⊢
  | .map _, b, h => by cases b <;> simp [AV.eqb] at h ⊢; exact h
  | .nilm, b, h => by cases b <;> simp [AV.eqb] at h ⊢
  | .fn _ x y, b, h => by
    cases b <;> simp [AV.eqb] at h ⊢
    exact ⟨h.1.1, AV.eqbL_eq _ _ h.1.2, AV.eqbL_eq _ _ h.2⟩
  | .nilf, b, h => by cases b <;> simp [AV.eqb] at h ⊢
  | .iface _ v, b, h => by
    cases b <;> simp [AV.eqb] at h ⊢
    exact ⟨h.1, AV.eqb_eq _ _ h.2⟩
  | .nili, b, h => by cases b <;> simp [AV.eqb] at h ⊢
  | .agg x, b, h => by
    cases b <;> simp [AV.eqb] at h ⊢
    exact AV.eqbL_eq _ _ h
  | .tup x, b, h => by
    cases b <;> simp [AV.eqb] at h ⊢
    exact AV.eqbL_eq _ _ h
  | .junk, b, h => by cases b <;> simp [AV.eqb] at h ⊢
theorem AV.eqbL_eq : ∀ (a b : List AV), AV.eqbL a b = true → a = b
  | [], b, h => by cases b <;> simp [AV.eqbL] at h ⊢
  | a :: as, b, h => by
    cases b with
    | nil => simp [AV.eqbL] at h
    | cons b bs =>
      simp only [AV.eqbL, Bool.and_eq_true] at h
      rw [AV.eqb_eq _ _ h.1, AV.eqbL_eq _ _ h.2]
end

theorem sat_bool : Sat DBool (· = true) where
  no := by simp [DBool]
  all := fun l h x hx => by
    have : l.all id = true := h
    exact List.all_eq_true.1 this x hx
  sameO := fun x y r h => by
    simp only [DBool, Bool.and_eq_true] at h
    refine ⟨?_, h.2⟩
    have h1 := h.1
    split at h1
    · rename_i a p b q
      simp only [Bool.and_eq_true, decide_eq_true_eq] at h1
      obtain ⟨e1, e2⟩ := h1
      exact ⟨a, b, p, rfl, by rw [e1], AV.eqbL_eq _ _ e2⟩
    · cases h1
  sameV := fun x v r h => by
    simp only [DBool, Bool.and_eq_true] at h
    refine ⟨?_, h.2⟩
    have h1 := h.1
    split at h1
    · rw [AV.eqb_eq _ _ h1]
    · cases h1

/-- The machine that says what holds. -/
def DProp : Dem Prop where
  no := False
  all := fun l => ∀ p ∈ l, p
  sameO := fun x y r => (∃ a b p, x = some (.cells a p) ∧ y = some (.cells b p) ∧ a = b) ∧ r
  sameV := fun x v r => x = some v ∧ r

theorem sat_prop : Sat DProp id where
  no := fun h => h
  all := fun _ h => h
  sameO := fun _ _ _ h => h
  sameV := fun _ _ _ h => h

section
variable {P : Program}

/-- What a call comes to, said of the abstract memory. -/
def ACa (P : Program) (f : FuncId) (args : List AV) (h : Heap) (k : AV → Heap → Prop) : Prop :=
  (∃ fn c, P.funcs[f]? = some fn ∧ fn.body = some c ∧ (fn.name == "runtime.NumGoroutine") = false) ∧
  ∀ (K : Nat → Prop) (w0 : World) (ρ : Ren) (w : World) (cargs : Array Value) (Q : Ending → World → Prop), HR P.globals.size K w0 ρ h w → VRL ρ args cargs.toList →
    (∀ ρ' v h' cv w', k v h' → Nx ρ h ρ' h' → HR P.globals.size K w0 ρ' h' w' → VR ρ' v cv → Q (.returned cv) w') → CallsIn Fence.wide 0 P f cargs w Q
/-- What code comes to. -/
def AWp (P : Program) (c : Code) (a : AAct) (h : Heap) (k : AExit → AAct → Heap → Prop) : Prop :=
  ∀ (K : Nat → Prop) (w0 : World) (ρ : Ren) (w : World) (rc : Option Nat) (ca : Act) (Q : Exit → Act → World → Prop), HR P.globals.size K w0 ρ h w → AR ρ rc a ca →
    (∀ ρ' e a' h' ca' w', k e a' h' → Nx ρ h ρ' h' → HR P.globals.size K w0 ρ' h' w' → AR ρ' rc a' ca' → Q (XE e) ca' w') → c.wpIn (FF rc) 0 P Q ca w

def SM (P : Program) : Sm Prop := ⟨AWp P, ACa P⟩
theorem snd_SM : Snd P id (SM P) where
  ex := fun _ _ _ _ K w0 ρ w rc ca Q hs H A hk => hs K w0 ρ w rc ca Q H A hk
  ca := fun _ _ _ _ K w0 ρ w cargs Q hs H A hk => hs.2 K w0 ρ w cargs Q H A hk
  fn := fun _ _ _ _ hs => hs.1

/-- The walk's steps: a call. -/
theorem ACa.intro {f : FuncId} {args : List AV} {h : Heap} {k : AV → Heap → Prop} (hs : caF P DProp (SM P) f args h k) : ACa P f args h k := by
  refine ⟨?_, fun K w0 ρ w cargs Q H ha hk => caF_sound sat_prop snd_SM f args h k K w0 ρ w cargs Q hs H ha hk⟩
  unfold caF at hs
  split at hs
  · rename_i fn hf
    split at hs
    · rename_i c hb
      split at hs
      · exact hs.elim
      · rename_i hn; exact ⟨fn, c, hf, hb, by simpa using hn⟩
    · exact hs.elim
  · exact hs.elim

theorem ACa.mono {f : FuncId} {args : List AV} {h : Heap} {k k' : AV → Heap → Prop} (hs : ACa P f args h k) (hk : ∀ v h', h.n ≤ h'.n → k v h' → k' v h') : ACa P f args h k' :=
  ⟨hs.1, fun K w0 ρ w cargs Q H ha hq => hs.2 K w0 ρ w cargs Q H ha fun ρ' v h' cv w' h1 h2 h3 h4 => hq ρ' v h' cv w' (hk v h' h2.n h1) h2 h3 h4⟩
theorem AWp.mono {c : Code} {a : AAct} {h : Heap} {k k' : AExit → AAct → Heap → Prop} (hs : AWp P c a h k) (hk : ∀ e a' h', h.n ≤ h'.n → k e a' h' → k' e a' h') : AWp P c a h k' :=
  fun K w0 ρ w rc ca Q H A hq => hs K w0 ρ w rc ca Q H A fun ρ' e a' h' ca' w' h1 h2 h3 h4 => hq ρ' e a' h' ca' w' (hk e a' h' h2.n h1) h2 h3 h4

/-- A loop, by a measure. -/
theorem AWp.loop {c : Code} {k : AExit → AAct → Heap → Prop} (I : AAct → Heap → Prop) (μ : AAct → Heap → Nat)
    (hb : ∀ a h, I a h → AWp P c a h fun e a' h' => match e with | .normal => I a' h' ∧ μ a' h' < μ a h | e => k e a' h') {a : AAct} {h : Heap} (hi : I a h) : AWp P (.loop c) a h k := by
  intro K w0 ρ w rc ca Q H A hk
  have key : ∀ (j : Nat) (a1 : AAct) (h1 : Heap) (ρ' : Ren) (w1 : World) (ca1 : Act), μ a1 h1 = j → I a1 h1 → Nx ρ h ρ' h1 → HR P.globals.size K w0 ρ' h1 w1 → AR ρ' rc a1 ca1 → LoopWp rc P c Q ca1 w1 := by
    intro j
    induction j using Nat.strongRecOn with
    | _ j ih =>
      intro a1 h1 ρ1 w1 ca1 hj hi N H A
      refine LoopWp.of_body (hb a1 h1 hi K w0 ρ1 w1 rc ca1 _ H A ?_)
      intro ρ2 e a2 h2 ca2 w2 hs N2 H2 A2
      cases e with
      | normal => exact ih _ (hj ▸ hs.2) a2 h2 ρ2 w2 ca2 rfl hs.1 (N.trans N2) H2 A2
      | exit id => exact hk ρ2 _ a2 h2 ca2 w2 hs (N.trans N2) H2 A2
      | goto l => exact hk ρ2 _ a2 h2 ca2 w2 hs (N.trans N2) H2 A2
      | ret => exact hk ρ2 _ a2 h2 ca2 w2 hs (N.trans N2) H2 A2
  exact (key _ a h ρ w ca rfl hi (Nx.refl _ _) H A).wp

/-- The walk's steps: code without a loop. -/
theorem AWp.step {c : Code} {a : AAct} {h : Heap} {k : AExit → AAct → Heap → Prop} (hm : P.follows .mixedOrders = true) (hc : ∀ c', c ≠ .loop c') (hs : exF P DProp (SM P) c a h k) : AWp P c a h k := by
  intro K w0 ρ w rc ca Q H A hk
  cases c with
  | loop c' => exact absurd rfl (hc c')
  | _ => exact exF_sound_noloop sat_prop snd_SM hm _ hc a h k K w0 ρ w rc ca Q hs H A hk

/-- Nothing that was there has changed. -/
theorem HR.still {G : Nat} {K : Nat → Prop} {w0 w w' : World} {ρ : Ren} {h : Heap} (H : HR G K w0 ρ h w) (e1 : w'.os = w.os) (e2 : w'.tape = w.tape) (e3 : w'.output = w.output) (hs : ∀ i, i < w.heap.size → i < w'.heap.size ∧ w'.heap[i]? = w.heap[i]?) : HR G K w0 ρ h w' := by
  refine ⟨e1.trans H.os, e2.trans H.tape, e3.trans H.output, fun i hi => ?_, H.top, H.gn, H.glob, fun b o cb d hb hρ => ?_, fun b cb d hρ => (hs _ (H.rng b cb d hρ)).1, H.own, fun b e q hb => ?_⟩
  rotate_right
  · obtain ⟨cb, d, c, fz, t1, t2, t3⟩ := H.typ b e q hb
    exact ⟨cb, d, c, fz, t1, (hs _ (H.rng b cb d t1)).2.trans t2, t3⟩
  · obtain ⟨k1, k2⟩ := H.keep i hi
    exact ⟨(hs i k1).1, (hs i k1).2.trans k2⟩
  · rw [(hs _ (H.rng b cb d hρ)).2]; exact H.obj b o cb d hb hρ

/-- Values that lead to no memory. -/
def AV.shut : AV → Bool
  | .int _ _ | .bool _ | .str _ | .nilp | .nils | .nilm | .nilf | .nili | .junk => true
  | .iface _ v => v.shut
  | _ => false
theorem VR.shut {ρ ρ' : Ren} : ∀ {v : AV} {cv : Value}, VR ρ v cv → v.shut = true → VR ρ' v cv
  | _, _, .junk v, _ => .junk v
  | _, _, .int k n, _ => .int k n
  | _, _, .bool b, _ => .bool b
  | _, _, .str s, _ => .str s
  | _, _, .nilp, _ => .nilp
  | _, _, .nils, _ => .nils
  | _, _, .nilm, _ => .nilm
  | _, _, .nilf, _ => .nilf
  | _, _, .nili, _ => .nili
  | _, _, .iface t a v h, hs => .iface t a v (h.shut (by simpa [AV.shut] using hs))
  | _, _, .ptr _ _ _ _ _, hs => by simp [AV.shut] at hs
  | _, _, .sl _ _ _ _ _ _ _ _ _ _ _ _ _, hs => by simp [AV.shut] at hs
  | _, _, .sl0 _ _ _ _, hs => by simp [AV.shut] at hs
  | _, _, .map _ _ _ _, hs => by simp [AV.shut] at hs
  | _, _, .fn _ _ _ _ _ _ _ _ _, hs => by simp [AV.shut] at hs
  | _, _, .agg _ _ _, hs => by simp [AV.shut] at hs
  | _, _, .tup _ _ _, hs => by simp [AV.shut] at hs

/-- A memory that holds variables of the package alone, to be read only. -/
structure Ground (P : Program) (h0 h : Heap) : Prop where
  n : h0.n = P.globals.size
  y : ∀ b, h0.ty b = none
  low : ∀ b o, h0.get b = some o → b < P.globals.size
  cells : ∀ b o, h0.get b = some o → h.get b = some o ∧ ∃ cs, o = .cells cs false ∧ cs.all AV.shut = true
theorem Ground.new (P : Program) (h : Heap) : Ground P (Heap.new P.globals.size) h := ⟨rfl, fun _ => rfl, fun b o hb => (by cases hb), fun b o hb => (by cases hb)⟩

/-- A call that takes nothing that lies in memory but variables of the package, and hands back nothing that does. -/
theorem ACa.closedG {f : FuncId} {args : List AV} {h0 h : Heap} (hg : Ground P h0 h) {p : AV → Prop} (hargs : args.all AV.shut = true) (hrun : ACa P f args h0 fun v _ => v.shut = true ∧ p v) :
    ACa P f args h fun v h' => p v ∧ h' = h := by
  refine ⟨hrun.1, fun K w0 ρ w cargs Q H ha hk => ?_⟩
  let ρ0 : Ren := ⟨fun b => if b < P.globals.size then some (b, 0) else none, ρ.sz⟩
  have H0 : HR P.globals.size (fun i => i < w.heap.size) w ρ0 h0 w := by
    refine ⟨rfl, rfl, rfl, fun i hi => ⟨hi, rfl⟩, fun b hb => ⟨?_, ?_⟩, by rw [hg.n]; exact Nat.le_refl _, fun g hg' => ?_, fun b o cb d hb hρ => ?_, fun b cb d hρ => ?_, fun b o cb d hb hrw hρ => ?_, fun b e q hb => by rw [hg.y] at hb; cases hb⟩
    · cases hb' : h0.get b with
      | none => rfl
      | some o => have := hg.low b o hb'; rw [hg.n] at hb; omega
    · show (if b < P.globals.size then some (b, 0) else none) = none
      rw [hg.n] at hb
      rw [if_neg (by omega)]
    · show (if g < P.globals.size then some (g, 0) else none) = some (g, 0)
      rw [if_pos hg']
    · have hlt := hg.low b o hb
      obtain ⟨hb', cs, rfl, hsh⟩ := hg.cells b o hb
      have hρ : (if b < P.globals.size then some (b, 0) else none) = some (cb, d) := hρ
      rw [if_pos hlt] at hρ
      cases hρ
      obtain ⟨c, e, fz, k1, k2, k3, k4⟩ := H.obj b _ b 0 hb' (H.glob b hlt)
      exact ⟨c, e, fz, k1, k2, fun i v hi => let ⟨v', q1, q2, q3⟩ := k3 i v hi; ⟨v', q1, q2.shut (List.all_eq_true.1 hsh _ (List.mem_of_getElem? hi)), q3⟩, fun h => by cases h⟩
    · have hρ : (if b < P.globals.size then some (b, 0) else none) = some (cb, d) := hρ
      split at hρ
      · rename_i hb; cases hρ; exact H.rng b b 0 (H.glob b hb)
      · cases hρ
    · obtain ⟨hb', cs, rfl, hsh⟩ := hg.cells b o hb
      cases hrw
  have ha0 : VRL ρ0 args cargs.toList := by
    refine VRL.of_get ha.length fun i a v h1 h2 => ?_
    obtain ⟨v', q1, q2⟩ := ha.get h1
    rw [h2] at q1; cases q1
    exact q2.shut (List.all_eq_true.1 hargs _ (List.mem_of_getElem? h1))
  exact hrun.2 _ w ρ0 w cargs Q H0 ha0 fun ρ' v h' cv w' hv _ H' hvr => hk ρ v h cv w' ⟨hv.2, rfl⟩ (Nx.refl _ _) (H.still H'.os H'.tape H'.output H'.keep) (hvr.shut hv.1)

/-- The same by the machine's own run. -/
theorem ACa.closed (hm : P.follows .mixedOrders = true) {f : FuncId} {args : List AV} {h0 h : Heap} (hg : Ground P h0 h) {n : Nat} {p : AV → Bool} (hargs : args.all AV.shut = true) (hrun : (sm P DBool n).ca f args h0 (fun v _ => v.shut && p v) = true) :
    ACa P f args h fun v h' => p v = true ∧ h' = h := by
  refine ACa.closedG hg hargs ?_
  have hS := (sm_sound (P := P) sat_bool hm n).1
  exact ⟨hS.fn _ _ _ _ hrun, fun K w0 ρ w cargs Q H ha hk => hS.ca f args h0 _ K w0 ρ w cargs Q hrun H ha fun ρ' v h' cv w' hv => hk ρ' v h' cv w' (by simpa using hv)⟩

end
end Go.Am

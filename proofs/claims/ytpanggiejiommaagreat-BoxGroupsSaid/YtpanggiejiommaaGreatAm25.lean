/- The abstract machine, part 25: more rules for walks: loops with a ghost, runs by the machine itself, new blocks, slices that are read. -/
import Derived.Test.YtpanggiejiommaaGreatAm24
namespace Go.Am
set_option autoImplicit false
set_option linter.all false
open Go

section
variable {P : Program}

/-- A loop, with a ghost that a measure lessens. -/
theorem AWp.loopG {σ : Type} {c : Code} {k : AExit → AAct → Heap → Prop} (μ : σ → Nat) (I : σ → AAct → Heap → Prop)
    (hb : ∀ s a h, I s a h → AWp P c a h fun e a' h' => match e with | .normal => ∃ s', I s' a' h' ∧ μ s' < μ s | e => k e a' h') {s : σ} {a : AAct} {h : Heap} (hi : I s a h) : AWp P (.loop c) a h k := by
  intro K w0 ρ w rc ca Q H A hk
  have key : ∀ (j : Nat) (s1 : σ) (a1 : AAct) (h1 : Heap) (ρ' : Ren) (w1 : World) (ca1 : Act), μ s1 = j → I s1 a1 h1 → Nx ρ h ρ' h1 → HR P.globals.size K w0 ρ' h1 w1 → AR ρ' rc a1 ca1 → LoopWp rc P c Q ca1 w1 := by
    intro j
    induction j using Nat.strongRecOn with
    | _ j ih =>
      intro s1 a1 h1 ρ1 w1 ca1 hj hi N H A
      refine LoopWp.of_body (hb s1 a1 h1 hi K w0 ρ1 w1 rc ca1 _ H A ?_)
      intro ρ2 e a2 h2 ca2 w2 hs N2 H2 A2
      cases e with
      | normal =>
        obtain ⟨s2, i2, m2⟩ := hs
        exact ih _ (hj ▸ m2) s2 a2 h2 ρ2 w2 ca2 rfl i2 (N.trans N2) H2 A2
      | exit id => exact hk ρ2 _ a2 h2 ca2 w2 hs (N.trans N2) H2 A2
      | goto l => exact hk ρ2 _ a2 h2 ca2 w2 hs (N.trans N2) H2 A2
      | ret => exact hk ρ2 _ a2 h2 ca2 w2 hs (N.trans N2) H2 A2
  exact (key _ s a h ρ w ca rfl hi (Nx.refl _ _) H A).wp

/-- What the machine comes to by its own run. -/
theorem ACa.ofRun (hm : P.follows .mixedOrders = true) {f : FuncId} {args : List AV} {h : Heap} {k : AV → Heap → Prop} (n : Nat) (hs : (sm P DProp n).ca f args h k) : ACa P f args h k :=
  let hS := (sm_sound (P := P) sat_prop hm n).1
  ⟨hS.fn _ _ _ _ hs, fun K w0 ρ w cargs Q H ha hk => hS.ca f args h k K w0 ρ w cargs Q hs H ha hk⟩
theorem ACa.ofRunB (hm : P.follows .mixedOrders = true) {f : FuncId} {args : List AV} {h : Heap} {k : AV → Heap → Bool} (n : Nat) (hs : (sm P DBool n).ca f args h k = true) : ACa P f args h fun v h' => k v h' = true :=
  let hS := (sm_sound (P := P) sat_bool hm n).1
  ⟨hS.fn _ _ _ _ hs, fun K w0 ρ w cargs Q H ha hk => hS.ca f args h _ K w0 ρ w cargs Q hs H ha hk⟩

/-- Blocks that are used lie below the memory's end. -/
def Low (h : Heap) : Prop := ∀ b o, h.get b = some o → b < h.n
theorem HR.low {G : Nat} {K : Nat → Prop} {w0 w : World} {ρ : Ren} {h : Heap} (H : HR G K w0 ρ h w) : Low h := fun _ _ hb => H.lt hb
/-- Is there such a function, with a body? -/
def fnOk (P : Program) (f : FuncId) : Bool := match P.funcs[f]? with
  | some fn => fn.body.isSome && !(fn.name == "runtime.NumGoroutine")
  | none => false
theorem fnOk.ex {f : FuncId} (h : fnOk P f = true) : ∃ fn c, P.funcs[f]? = some fn ∧ fn.body = some c ∧ (fn.name == "runtime.NumGoroutine") = false := by
  unfold fnOk at h
  split at h
  · rename_i fn hf
    rw [Bool.and_eq_true] at h
    obtain ⟨c, hc⟩ := Option.isSome_iff_exists.1 h.1
    exact ⟨fn, c, hf, hc, by simpa using h.2⟩
  · cases h
theorem ACa.introL {f : FuncId} {args : List AV} {h : Heap} {k : AV → Heap → Prop} (hf : fnOk P f = true) (hs : Low h → caF P DProp (SM P) f args h k) : ACa P f args h k :=
  ⟨fnOk.ex hf, fun K w0 ρ w cargs Q H ha hk => (ACa.intro (hs H.low)).2 K w0 ρ w cargs Q H ha hk⟩
theorem ACa.monoL {f : FuncId} {args : List AV} {h : Heap} {k k' : AV → Heap → Prop} (hs : ACa P f args h k) (hk : ∀ v h', h.n ≤ h'.n → Low h' → k v h' → k' v h') : ACa P f args h k' :=
  ⟨hs.1, fun K w0 ρ w cargs Q H ha hq => hs.2 K w0 ρ w cargs Q H ha fun ρ' v h' cv w' h1 h2 h3 h4 => hq ρ' v h' cv w' (hk v h' h2.n h3.low h1) h2 h3 h4⟩
theorem AWp.monoL {c : Code} {a : AAct} {h : Heap} {k k' : AExit → AAct → Heap → Prop} (hs : AWp P c a h k) (hk : ∀ e a' h', h.n ≤ h'.n → Low h' → k e a' h' → k' e a' h') : AWp P c a h k' :=
  fun K w0 ρ w rc ca Q H A hq => hs K w0 ρ w rc ca Q H A fun ρ' e a' h' ca' w' h1 h2 h3 h4 => hq ρ' e a' h' ca' w' (hk e a' h' h2.n h3.low h1) h2 h3 h4
theorem AWp.low {c : Code} {a : AAct} {h : Heap} {k : AExit → AAct → Heap → Prop} (hs : Low h → AWp P c a h k) : AWp P c a h k :=
  fun K w0 ρ w rc ca Q H A hq => hs H.low K w0 ρ w rc ca Q H A hq

end

/-- New blocks alone. -/
structure Grow (h h' : Heap) : Prop where
  n : h.n ≤ h'.n
  old : ∀ b, b < h.n → h'.get b = h.get b
theorem Grow.refl (h : Heap) : Grow h h := ⟨Nat.le_refl _, fun _ _ => rfl⟩
theorem Grow.trans {a b c : Heap} (x : Grow a b) (y : Grow b c) : Grow a c := ⟨Nat.le_trans x.n y.n, fun i hi => (y.old i (Nat.lt_of_lt_of_le hi x.n)).trans (x.old i hi)⟩
theorem Grow.push (h : Heap) (o : AObj) : Grow h (h.push o) := ⟨Nat.le_succ _, fun _ hi => Heap.get_push_old _ _ (Nat.ne_of_lt hi)⟩
theorem Grow.pushed {h h' : Heap} (g : Grow h h') (o : AObj) : Grow h (h'.push o) := g.trans (Grow.push h' o)
theorem Grow.set {h h' : Heap} (g : Grow h h') {b : Nat} (o : AObj) (hb : h.n ≤ b) : Grow h (h'.set b o) := ⟨g.n, fun i hi => (Heap.get_set_ne _ _ (by omega)).trans (g.old i hi)⟩
theorem Grow.got {h h' : Heap} (hl : Low h) (g : Grow h h') {b : Nat} {o : AObj} (hb : h.get b = some o) : h'.get b = some o := by rw [g.old b (hl b _ hb)]; exact hb
@[simp] theorem Heap.push_n (h : Heap) (o : AObj) : (h.push o).n = h.n + 1 := rfl
@[simp] theorem Heap.set_n (h : Heap) (b : Nat) (o : AObj) : (h.set b o).n = h.n := rfl
theorem Low.push {h : Heap} (hl : Low h) (o : AObj) : Low (h.push o) := fun b x hb => by
  by_cases hbn : b = h.n
  · subst hbn; simp
  · rw [Heap.get_push_old _ _ hbn] at hb
    have := hl b x hb
    simp; omega
theorem Low.set {h : Heap} (hl : Low h) {b : Nat} (o : AObj) (hb : b < h.n) : Low (h.set b o) := fun c x hc => by
  by_cases hbn : c = b
  · subst hbn; simpa using hb
  · rw [Heap.get_set_ne _ _ hbn] at hc
    simpa using hl c x hc

/-! ### Slices that are read -/

def lnA : AV → Nat | .sl _ _ n _ _ => n | _ => 0

/-- A slice, and its elements: of s cells each; aggregates, or values of one cell. -/
def SlA (g : Bool) (s : Nat) (h : Heap) (v : AV) (l : List AV) : Prop :=
  (v = .nils ∧ l = []) ∨ ∃ b o c x cs rw, v = .sl b o l.length c x ∧ h.get b = some (.cells cs rw) ∧ ∀ (i : Nat) (y : AV), l[i]? = some y → y.isAgg = g ∧ y.cells.length = s ∧ o + i * s + s ≤ cs.length ∧ (cs.drop (o + i * s)).take s = y.cells

section
variable {P : Program} {g : Bool} {s : Nat} {h h' : Heap} {v : AV} {l : List AV}

theorem SlA.nil : SlA g s h .nils [] := .inl ⟨rfl, rfl⟩
theorem SlA.grow (hl : Low h) (gr : Grow h h') (hv : SlA g s h v l) : SlA g s h' v l := by
  rcases hv with h0 | ⟨b, o, c, x, cs, rw_, e, h1, h2⟩
  · exact .inl h0
  · exact .inr ⟨b, o, c, x, cs, rw_, e, gr.got hl h1, h2⟩
theorem SlA.ln (hv : SlA g s h v l) : lnA v = l.length := by
  rcases hv with ⟨rfl, rfl⟩ | ⟨b, o, c, x, cs, rw_, rfl, _, _⟩ <;> rfl
theorem SlA.len {t e : TypeId} (hu : P.underlying t = some (.slice e)) (hv : SlA g s h v l) : lenA P t v = .pure (.int .i64 l.length) := by
  rcases hv with ⟨rfl, rfl⟩ | ⟨b, o, c, x, cs, rw_, rfl, _, _⟩ <;> simp [lenA, hu]

theorem one_of_cells {y : AV} (hg : y.isAgg = false) : y.cells = [y] := by cases y <;> first | rfl | (simp [AV.isAgg] at hg)
theorem agg_of {y : AV} (hg : y.isAgg = true) : ∃ cs, y = .agg cs := by cases y <;> first | (simp [AV.isAgg] at hg; done) | exact ⟨_, rfl⟩

/-- An element's place, and what lies there. -/
theorem SlA.at {t e : TypeId} (hu : P.underlying t = some (.slice e)) (hs : sizeT P e = some s) (hg : aggT P e = some g) (hv : SlA g s h v l) {i : Nat} {y : AV} (hi : l[i]? = some y) :
    ∃ b p cs rw, indexAddrA P t v (.int .i64 i) = some (.ptr b p) ∧ h.get b = some (.cells cs rw) ∧ (p + s ≤ cs.length ∧ (cs.drop p).take s = y.cells) ∧ loadA P e p (.cells cs rw) = some y := by
  rcases hv with ⟨rfl, rfl⟩ | ⟨b, o, c, x, cs, rw_, rfl, h1, h2⟩
  · simp at hi
  · have hlt := (List.getElem?_eq_some_iff.1 hi).1
    obtain ⟨q1, q2, q3, q4⟩ := h2 i y hi
    refine ⟨b, o + i * s, cs, rw_, by simp [indexAddrA, hu, hs, hlt], h1, ⟨q3, q4⟩, ?_⟩
    cases g with
    | true =>
      obtain ⟨ys, rfl⟩ := agg_of q1
      simp [loadA, hs, hg, q3, q4, AV.cells]
    | false =>
      rw [one_of_cells q1] at q2 q4
      simp at q2
      subst q2
      simp only [loadA, hs, hg]
      have : (cs.drop (o + i * 1)).take 1 = [y] := q4
      have h0 : ((cs.drop (o + i * 1)).take 1)[0]? = some y := by rw [this]; rfl
      simpa [List.getElem?_take, List.getElem?_drop] using h0

/-- A field of what lies there. -/
theorem load_part {e : TypeId} {p s o : Nat} {cs ys : List AV} {rw_ : Bool} (h1 : p + s ≤ cs.length) (h2 : (cs.drop p).take s = ys) {n : Nat} (hn : sizeT P e = some n) (ho : o + n ≤ s) (hg : aggT P e = some true ∨ (aggT P e = some false ∧ n = 1)) :
    loadA P e (p + o) (.cells cs rw_) = partA P e ys o := by
  subst h2
  have hl : ((cs.drop p).take s).length = s := by simp; omega
  rcases hg with hg | ⟨hg, rfl⟩
  · simp only [loadA, partA, hg, hn]
    rw [if_pos (by omega), if_pos (by omega)]
    congr 2
    rw [List.drop_take, List.take_take, List.drop_drop, Nat.min_eq_left (by omega)]
  · simp only [loadA, partA, hg, hn]
    rw [List.getElem?_take_of_lt (by omega), List.getElem?_drop]

end
end Go.Am

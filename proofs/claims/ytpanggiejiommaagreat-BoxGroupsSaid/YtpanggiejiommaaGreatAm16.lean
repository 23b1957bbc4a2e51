/- The abstract machine, part 16: a region that draws its order: what is done ahead of its time. -/
import Derived.Test.YtpanggiejiommaaGreatAm15
namespace Go.Am
set_option autoImplicit false
set_option linter.all false
open Go

section heap
variable {G : Nat} {K : Nat → Prop} {w0 w : World} {ρ : Ren} {h : Heap}

/-- A block that the model has not made yet. -/
theorem HR.pushAbs (H : HR G K w0 ρ h w) (o : AObj) : HR G K w0 ρ (h.push o) w := by
  have hnew : ρ h.n = none := (H.top h.n (Nat.le_refl _)).2
  have hG := H.gn
  refine ⟨H.os, H.tape, H.output, H.keep, fun b hb => ?_, by rw [Heap.n_push]; omega, H.glob, fun b x cb' d' hb hρ => ?_, H.rng, fun b x cb' d' hb hrw hρ => ?_, H.typ⟩
  · rw [Heap.n_push] at hb
    rw [Heap.get_push_old _ _ (by omega)]
    exact H.top b (by omega)
  · have hbn : b ≠ h.n := fun e => by rw [e, hnew] at hρ; cases hρ
    rw [Heap.get_push_old _ _ hbn] at hb
    exact H.obj b x cb' d' hb hρ
  · have hbn : b ≠ h.n := fun e => by rw [e, hnew] at hρ; cases hρ
    rw [Heap.get_push_old _ _ hbn] at hb
    obtain ⟨k1, k2⟩ := H.own b x cb' d' hb hrw hρ
    refine ⟨k1, fun b' o' d'' hb' hl' hρ' => ?_⟩
    have hbn' : b' ≠ h.n := fun e => by rw [e, hnew] at hρ'; cases hρ'
    rw [Heap.get_push_old _ _ hbn'] at hb'
    exact k2 b' o' d'' hb' hl' hρ'

/-- Now the model makes it. -/
theorem HR.place (H : HR G K w0 ρ h w) {b : Nat} {x : AObj} {ox : Obj} (hb : h.get b = some x) (hρb : ρ b = none)
    (hor : ∀ (ρ' : Ren) (cb : Nat), Sub ρ ρ' → ρ' b = some (cb, 0) → ∃ N, OR ρ' N (some ox) 0 x) :
    ∃ N, Sub ρ (ρ.put b (w.heap.size, 0) N) ∧ HR G K w0 (ρ.put b (w.heap.size, 0) N) h (w.alloc ox) := by
  have hlt := H.lt hb
  have sub : ∀ N, Sub ρ (ρ.put b (w.heap.size, 0) N) := fun N => Ren.sub_put hρb fun c d' hc => by have := H.rng c _ d' hc; dsimp only at this; omega
  obtain ⟨N, hN⟩ := hor (ρ.put b (w.heap.size, 0) 0) w.heap.size (sub 0) (Ren.put_same _ _ _ _)
  obtain ⟨N', hN'⟩ := hor (ρ.put b (w.heap.size, 0) N) w.heap.size (sub N) (Ren.put_same _ _ _ _)
  have hor' := hN.size hN'
  have hnewo : (w.alloc ox).heap[w.heap.size]? = some ox := by show (w.heap.push ox)[w.heap.size]? = _; simp
  have hold : ∀ i, i < w.heap.size → (w.alloc ox).heap[i]? = w.heap[i]? := fun i hi => by
    show (w.heap.push ox)[i]? = _
    rw [Array.getElem?_push, if_neg (by omega)]
  have hsize : (w.alloc ox).heap.size = w.heap.size + 1 := by show (w.heap.push ox).size = _; simp
  refine ⟨N, sub N, H.os, H.tape, H.output, fun i hi => ?_, fun c hc => ?_, H.gn, fun g hg => ?_, fun c y cb' d' hc hρ => ?_, fun c cb' d' hρ => ?_, fun c y cb' d' hc hrw hρ => ?_, fun c e q hc => ?_⟩
  rotate_right
  · obtain ⟨cb', d', c', fz, t1, t2, t3⟩ := H.typ c e q hc
    exact ⟨cb', d', c', fz, (sub N).m _ _ t1, (hold cb' (H.rng c cb' d' t1)).trans t2, t3⟩
  · obtain ⟨k1, k2⟩ := H.keep i hi
    exact ⟨by omega, (hold i k1).trans k2⟩
  · rw [Ren.put_ne _ _ _ (by omega)]; exact H.top c hc
  · have : g ≠ b := fun e => by rw [e] at hg; have := H.glob b hg; rw [hρb] at this; cases this
    rw [Ren.put_ne _ _ _ this]; exact H.glob g hg
  · by_cases hcb : c = b
    · subst hcb
      rw [Ren.put_same] at hρ
      cases hρ
      rw [hb] at hc; cases hc
      rw [Ren.put_sz, hnewo]
      exact hor'
    · rw [Ren.put_ne _ _ _ hcb] at hρ
      rw [(sub N).sz c cb' d' hρ, hold cb' (H.rng c cb' d' hρ)]
      exact (H.obj c y cb' d' hc hρ).mono (sub N)
  · by_cases hcb : c = b
    · subst hcb; rw [Ren.put_same] at hρ; cases hρ; omega
    · rw [Ren.put_ne _ _ _ hcb] at hρ; have := H.rng c cb' d' hρ; omega
  · by_cases hcb : c = b
    · subst hcb
      rw [Ren.put_same] at hρ
      cases hρ
      refine ⟨fun hk => ?_, fun b' o' d'' hb' hl' hρ' => ?_⟩
      · have := (H.keep _ hk).1; omega
      · by_cases hbn' : b' = c
        · exact hbn'
        · rw [Ren.put_ne _ _ _ hbn'] at hρ'
          have := H.clt hb' hl' hρ'; omega
    · rw [Ren.put_ne _ _ _ hcb] at hρ
      obtain ⟨k1, k2⟩ := H.own c y cb' d' hc hrw hρ
      refine ⟨k1, fun b' o' d'' hb' hl' hρ' => ?_⟩
      by_cases hbn' : b' = b
      · subst hbn'
        rw [Ren.put_same] at hρ'
        cases hρ'
        have := H.clt hc (AObj.live_of_rw hrw) hρ; omega
      · rw [Ren.put_ne _ _ _ hbn'] at hρ'
        exact k2 b' o' d'' hb' hl' hρ'
end heap

inductive Rec where
  | un
  | pure (v : AV)
  | rd (b : Nat) (f : AObj → Option AV) (v : AV)
  | al (b : Nat) (x : AObj) (g : Nat → AV)
def Rec.val : Rec → AV
  | .un => .un
  | .pure v => v
  | .rd _ _ v => v
  | .al b _ g => g b

section
variable (P : Program) (ops : Array Oper)

/-- The operation, done here and now, comes to what the record says. -/
def RecOk (h : Heap) (a : AAct) (o : Oper) : Rec → Prop
  | .un => wantedA ops a.tmps o = some false
  | .pure v => wantedA ops a.tmps o = some true ∧ isEff o.op = false ∧ cls P (a.ev P.globals.size) o = .pure v
  | .rd b f v => wantedA ops a.tmps o = some true ∧ isEff o.op = false ∧ cls P (a.ev P.globals.size) o = .read b f ∧ (h.get b).bind f = some v
  | .al b x g => wantedA ops a.tmps o = some true ∧ isEff o.op = false ∧ cls P (a.ev P.globals.size) o = .alloc x g ∧ h.get b = some x

inductive Pend (h : Heap) : AAct → List (Nat × Rec) → AAct → Prop
  | nil (a : AAct) : Pend h a [] a
  | cons (a : AAct) (i : Nat) (r : Rec) (rest : List (Nat × Rec)) (a' : AAct) (hr : RecOk P ops h a (ops.getD i default) r) (t : Pend h (a.put (ops.getD i default).dst r.val) rest a') : Pend h a ((i, r) :: rest) a'

/-- Neither looks at, or writes, what the other writes. -/
structure Apart (x y : Oper) : Prop where
  xy : ∀ d, x.dst = some d → d ∉ y.looksAt ops
  yx : ∀ d, y.dst = some d → d ∉ x.looksAt ops
  ne : ∀ d, x.dst = some d → y.dst ≠ some d
end

section
variable {P : Program} {ops : Array Oper} {h : Heap}

theorem Apart.symm {x y : Oper} (A : Apart ops x y) : Apart ops y x := ⟨A.yx, A.xy, fun d h1 h2 => A.ne d h2 h1⟩
theorem apart_of {x y : Oper} (hh : x.apart ops y = true) : Apart ops x y := let ⟨h1, h2, h3⟩ := Oper.apart_spec hh; ⟨h1, h3, h2⟩

theorem RecOk.put {a : AAct} {o o' : Oper} {r : Rec} {v : AV} (A : Apart ops o' o) : RecOk P ops h (a.put o'.dst v) o r ↔ RecOk P ops h a o r := by
  have h1 : wantedA ops (a.put o'.dst v).tmps o = wantedA ops a.tmps o := wantedA_put A.xy
  have h2 : cls P ((a.put o'.dst v).ev P.globals.size) o = cls P (a.ev P.globals.size) o := cls_congr o fun x hx => operand_put (ops := ops) A.xy x hx
  cases r <;> simp only [RecOk, h1, h2]

theorem Pend.pull {i : Nat} {r : Rec} : ∀ {l1 : List (Nat × Rec)} {a : AAct} {l2 : List (Nat × Rec)} {a' : AAct}, Pend P ops h a (l1 ++ (i, r) :: l2) a' → (∀ p ∈ l1, Apart ops (ops.getD p.1 default) (ops.getD i default)) →
    RecOk P ops h a (ops.getD i default) r ∧ Pend P ops h (a.put (ops.getD i default).dst r.val) (l1 ++ l2) a'
  | [], _, _, _, .cons _ _ _ _ _ hr t, _ => ⟨hr, t⟩
  | (x, rx) :: l1, a, l2, a', .cons _ _ _ _ _ hr t, hA => by
    have A := hA (x, rx) (by simp)
    obtain ⟨q1, q2⟩ := Pend.pull (l1 := l1) t fun p hp => hA p (by simp [hp])
    refine ⟨(RecOk.put A).1 q1, .cons _ x rx _ _ ((RecOk.put A.symm).2 hr) ?_⟩
    rw [AAct.put_comm _ _ _ A.symm.ne]
    exact q2

theorem Pend.push {h' : Heap} {o : Oper} {v : AV} : ∀ {l : List (Nat × Rec)} {a a' : AAct}, Pend P ops h a l a' → (∀ p ∈ l, Apart ops (ops.getD p.1 default) o) → (∀ p ∈ l, ∀ a, RecOk P ops h a (ops.getD p.1 default) p.2 → RecOk P ops h' a (ops.getD p.1 default) p.2) →
    Pend P ops h' (a.put o.dst v) l (a'.put o.dst v)
  | [], _, _, .nil _, _, _ => .nil _
  | (x, rx) :: l, a, a', .cons _ _ _ _ _ hr t, hA, hk => by
    have A := hA (x, rx) (by simp)
    refine .cons _ x rx _ _ ((RecOk.put A.symm).2 (hk (x, rx) (by simp) _ hr)) ?_
    rw [AAct.put_comm _ _ _ A.symm.ne]
    exact Pend.push t (fun p hp => hA p (by simp [hp])) (fun p hp => hk p (by simp [hp]))

theorem Pend.look {o : Oper} : ∀ {l : List (Nat × Rec)} {a a' : AAct}, Pend P ops h a l a' → (∀ p ∈ l, Apart ops (ops.getD p.1 default) o) →
    wantedA ops a'.tmps o = wantedA ops a.tmps o ∧ ∀ x ∈ o.op.operands, a'.ev P.globals.size x = a.ev P.globals.size x
  | [], _, _, .nil _, _ => ⟨rfl, fun _ _ => rfl⟩
  | (x, rx) :: l, a, a', .cons _ _ _ _ _ hr t, hA => by
    have A := hA (x, rx) (by simp)
    obtain ⟨q1, q2⟩ := Pend.look t fun p hp => hA p (by simp [hp])
    exact ⟨q1.trans (wantedA_put A.xy), fun y hy => (q2 y hy).trans (operand_put (ops := ops) A.xy y hy)⟩

theorem Pend.heap {h' : Heap} : ∀ {l : List (Nat × Rec)} {a a' : AAct}, Pend P ops h a l a' → (∀ p ∈ l, ∀ a, RecOk P ops h a (ops.getD p.1 default) p.2 → RecOk P ops h' a (ops.getD p.1 default) p.2) → Pend P ops h' a l a'
  | [], _, _, .nil _, _ => .nil _
  | (x, rx) :: l, a, a', .cons _ _ _ _ _ hr t, hk => .cons _ x rx _ _ (hk (x, rx) (by simp) _ hr) (Pend.heap t fun p hp => hk p (by simp [hp]))

theorem Pend.snoc {i : Nat} {r : Rec} : ∀ {l : List (Nat × Rec)} {a a' : AAct}, Pend P ops h a l a' → RecOk P ops h a' (ops.getD i default) r → Pend P ops h a (l ++ [(i, r)]) (a'.put (ops.getD i default).dst r.val)
  | [], _, _, .nil _, hr => .cons _ i r _ _ hr (.nil _)
  | (x, rx) :: l, a, a', .cons _ _ _ _ _ hx t, hr => .cons _ x rx _ _ hx (Pend.snoc t hr)

theorem RecOk.heap {h' : Heap} (hh : ∀ b x, h.get b = some x → h'.get b = some x) {a : AAct} {o : Oper} {r : Rec} (hr : RecOk P ops h a o r) : RecOk P ops h' a o r := by
  cases r with
  | un => exact hr
  | pure v => exact hr
  | rd b f v =>
    obtain ⟨h1, h2, h3, h4⟩ := hr
    refine ⟨h1, h2, h3, ?_⟩
    cases hb : h.get b with
    | none => rw [hb] at h4; cases h4
    | some x => rw [hh b x hb]; rw [hb] at h4; exact h4
  | al b x g => obtain ⟨h1, h2, h3, h4⟩ := hr; exact ⟨h1, h2, h3, hh b x h4⟩

end
end Go.Am

/- The abstract machine, part 12: one operation, shown of the model's steps. -/
import Derived.Test.YtpanggiejiommaaGreatAm11
import Derived.CallsIn
import Derived.OrdersIn
import Derived.RangeFuncLeaves
namespace Go.Am
set_option autoImplicit false
set_option linter.all false
open Go

/-- No fence; in a round of the loop r. -/
def FF (r : Option Nat) : Fence := { Fence.wide with round := r }

theorem callsIn_FF {r : Option Nat} {n : Nat} {P : Program} {f : FuncId} {args : Array Value} {w : World} {R : Ending → World → Prop} (h : CallsIn Fence.wide n P f args w R) : CallsIn (FF r) n P f args w R := h
theorem roundIn_FF {r : Option Nat} {n : Nat} {P : Program} {l : Nat} {f : FuncId} {tmps : Array Value} {as body : Code} {w : World} {R : Ending → World → Prop} (h : RoundIn Fence.wide n P l f tmps as body w R) : RoundIn (FF r) n P l f tmps as body w R := h
theorem nodepth (r : Option Nat) (n : Nat) : (FF r).depth.isSome = true → 1 ≤ n := fun h => by simp [FF, Fence.wide] at h

/-- An answer that says: it is so. -/
structure Sat {R : Type} (D : Dem R) (sat : R → Prop) : Prop where
  no : ¬ sat D.no
  all : ∀ l, sat (D.all l) → ∀ x ∈ l, sat x
  sameO : ∀ x y r, sat (D.sameO x y r) → (∃ a b p, x = some (.cells a p) ∧ y = some (.cells b p) ∧ a = b) ∧ sat r
  sameV : ∀ x v r, sat (D.sameV x v r) → x = some v ∧ sat r

/-- The activations stand to one another as they should. -/
structure AR (ρ : Ren) (rc : Option Nat) (a : AAct) (ca : Act) : Prop where
  tmps : VRL ρ a.tmps ca.tmps.toList
  len : ca.defers.length = a.dfs.length
  dfs : ∀ (i : Nat) (b : Nat), a.dfs[i]? = some b → ∃ cb, ρ b = some (cb, 0) ∧ ca.defers[i]? = some { target := .collected cb, args := #[] }
  rd : match a.rd, rc with
    | none, none => True
    | some l, some cl => ρ l = some (cl, 0)
    | _, _ => False

section
variable {P : Program} {K : Nat → Prop} {w0 w : World} {ρ : Ren} {h : Heap}

theorem AR.mono {ρ ρ' : Ren} {rc : Option Nat} {a : AAct} {ca : Act} (hs : Sub ρ ρ') (A : AR ρ rc a ca) : AR ρ' rc a ca :=
  ⟨A.tmps.mono hs, A.len, fun i b hb => let ⟨cb, h1, h2⟩ := A.dfs i b hb; ⟨cb, hs.m _ _ h1, h2⟩, by
    have := A.rd
    split <;> split at this <;> simp_all
    exact hs.m _ _ this⟩

theorem AR.put {rc : Option Nat} {a : AAct} {ca : Act} (A : AR ρ rc a ca) (dst : Option Tmp) {v : AV} {cv : Value} (hv : VR ρ v cv) : AR ρ rc (a.put dst v) (ca.put dst cv) := by
  cases dst with
  | none => exact A
  | some d => exact ⟨by simpa [AAct.put, Act.put] using A.tmps.set d hv, A.len, A.dfs, A.rd⟩

theorem AR.ev {rc : Option Nat} {a : AAct} {ca : Act} (A : AR ρ rc a ca) (H : HR P.globals.size K w0 ρ h w) (x : Operand) : VR ρ (a.ev P.globals.size x) (ca.eval x) := by
  cases x with
  | tmp t =>
    show VR ρ (a.tmps.getD t .un) (ca.tmps.getD t undef)
    rw [List.getD_eq_getElem?_getD, Array.getD_eq_getD_getElem?]
    cases hi : a.tmps[t]? with
    | none =>
      have : ca.tmps[t]? = none := by
        have hl := A.tmps.length
        rw [List.getElem?_eq_none_iff] at hi
        rw [Array.getElem?_eq_none_iff]
        have := Array.length_toList (xs := ca.tmps)
        omega
      rw [this]; exact VR.un
    | some v =>
      obtain ⟨v', h1, h2⟩ := A.tmps.get hi
      rw [Array.getElem?_toList] at h1
      rw [h1]; exact h2
  | const v => exact ofV_rel 4 v
  | global g =>
    show VR ρ (if g < P.globals.size then .ptr g 0 else .junk) (.pointer (some ⟨g, 0, none⟩))
    split
    · exact .ptr g 0 g 0 (H.glob g (by assumption))
    · exact .junk _
  | func f => exact .fn _ _ _ _ _ _ (.func _) .nil .nil

theorem AR.yielded {rc : Option Nat} {a : AAct} {ca : Act} (A : AR ρ rc a ca) (ops : Array Oper) {o : Oper} {b : Bool} (h : wantedA ops a.tmps o = some b) : Region.wanted o (yielded ops ca.tmps) = b := by
  unfold wantedA at h
  unfold Region.wanted
  cases hg : o.guard with
  | none => rw [hg] at h; cases h; rfl
  | some g =>
    obtain ⟨j, want⟩ := g
    rw [hg] at h
    simp only at h ⊢
    unfold Go.yielded
    cases hd : (ops[j]?).bind (·.dst) with
    | none => rw [hd] at h; simp at h ⊢; subst h; rfl
    | some d =>
      rw [hd] at h
      simp only [Option.bind_some] at h ⊢
      cases hi : a.tmps[d]? with
      | none =>
        have : ca.tmps[d]? = none := by
          have hl := A.tmps.length
          rw [List.getElem?_eq_none_iff] at hi
          rw [Array.getElem?_eq_none_iff]
          have := Array.length_toList (xs := ca.tmps)
          omega
        rw [hi] at h
        rw [this]
        simp at h ⊢
        subst h; rfl
      | some v =>
        obtain ⟨v', h1, h2⟩ := A.tmps.get hi
        rw [Array.getElem?_toList] at h1
        rw [hi] at h
        rw [h1]
        cases h2 <;> first | (cases h; done) | (cases h; rfl)

end
end Go.Am

/- The abstract machine, part 29: lemmas on memory and slices for walks over plain code. -/
import Derived.Test.YtpanggiejiommaaGreatAm28
namespace Go.Am
set_option autoImplicit false
set_option linter.all false
open Go

section
variable {h h' : Heap} {g : Bool} {s b o : Nat}

theorem wrap_i64 {n : Int} (h1 : -9223372036854775808 ≤ n) (h2 : n < 9223372036854775808) : IntKind.i64.wrap n = n := by rw [IntKind.wrap_i64]; omega
theorem wrap_u8 {n : Int} (h1 : 0 ≤ n) (h2 : n < 256) : IntKind.u8.wrap n = n := by
  have : IntKind.u8.wrap n = n % 256 := by rfl
  rw [this]; omega

/-! ### Memory -/
theorem get_push_new (x : AObj) (hb : b = h.n) : (h.push x).get b = some x := by subst hb; exact Heap.get_push_new h x
theorem get_push_old (x : AObj) (hb : b < h.n) : (h.push x).get b = h.get b := Heap.get_push_old h x (Nat.ne_of_lt hb)
theorem get_set_new (x : AObj) : (h.set b x).get b = some x := Heap.get_set_same h b x
theorem get_set_old {c : Nat} (x : AObj) (hb : c ≠ b) : (h.set b x).get c = h.get c := Heap.get_set_ne h x hb
theorem rd_push_new (x : AObj) (hb : b = h.n) : rd (h.push x) g s b o = ldA g s o x := by unfold rd; rw [get_push_new x hb]; rfl
theorem rd_push_old (x : AObj) (hb : b < h.n) : rd (h.push x) g s b o = rd h g s b o := by unfold rd; rw [get_push_old x hb]
theorem rd_set_new (x : AObj) : rd (h.set b x) g s b o = ldA g s o x := by unfold rd; rw [get_set_new]; rfl
theorem rd_set_old {c : Nat} (x : AObj) (hb : c ≠ b) : rd (h.set b x) g s c o = rd h g s c o := by unfold rd; rw [get_set_old x hb]
theorem rd_low (hl : Low h) {v : AV} (hr : rd h g s b o = some v) : b < h.n := by
  unfold rd at hr
  cases hb : h.get b with
  | none => rw [hb] at hr; cases hr
  | some x => exact hl b x hb
theorem rd_grow (hl : Low h) (gr : Grow h h') {v : AV} (hr : rd h g s b o = some v) : rd h' g s b o = some v := by
  have := rd_low hl hr
  unfold rd at hr ⊢
  rw [gr.old b this]; exact hr
theorem get_grow (hl : Low h) (gr : Grow h h') {x : AObj} (hr : h.get b = some x) : h'.get b = some x := gr.got hl hr

/-! ### Cells -/
theorem ldA_agg (s o : Nat) (cs : List AV) (rw_ : Bool) (hl : o + s ≤ cs.length) : ldA true s o (.cells cs rw_) = some (.agg ((cs.drop o).take s)) := by simp [ldA, hl]
theorem ldA_one (s o : Nat) (cs : List AV) (rw_ : Bool) : ldA false s o (.cells cs rw_) = cs[o]? := rfl

/-! ### Slices -/
variable {v : AV} {l : List AV}
theorem SlA.slLen (hv : SlA g s h v l) : slLen v = some l.length := by
  rcases hv with ⟨rfl, rfl⟩ | ⟨b, o, c, x, cs, rw_, rfl, _, _⟩ <;> rfl

/-- An element's place, and what lies there. -/
theorem SlA.elem (hl : Low h) (hv : SlA g s h v l) {i : Nat} {y : AV} (hi : l[i]? = some y) :
    ∃ b p, idxA s v (.int .i64 i) = some (.ptr b p) ∧ b < h.n ∧ rd h g s b p = some y ∧ ∀ g' s' off, off + s' ≤ s → 0 < s' → rd h g' s' b (p + off) = part g' s' off (.agg y.cells) := by
  rcases hv with ⟨rfl, rfl⟩ | ⟨b, o, c, x, cs, rw_, rfl, h1, h2⟩
  · simp at hi
  · have hlt := (List.getElem?_eq_some_iff.1 hi).1
    obtain ⟨q1, q2, q3, q4⟩ := h2 i y hi
    refine ⟨b, o + i * s, by simp [idxA, hlt], hl b _ h1, ?_, fun g' s' off hoff hs' => ?_⟩
    · unfold rd
      rw [h1]
      simp only [Option.bind_some]
      cases g with
      | true =>
        obtain ⟨ys, rfl⟩ := agg_of q1
        simp [ldA, q3, q4, AV.cells]
      | false =>
        rw [one_of_cells q1] at q2 q4
        simp at q2
        subst q2
        have h0 : ((cs.drop (o + i * 1)).take 1)[0]? = some y := by rw [q4]; rfl
        simpa [ldA, List.getElem?_take, List.getElem?_drop] using h0
    · unfold rd
      rw [h1]
      simp only [Option.bind_some, part]
      rw [← q4]
      have hlen : ((cs.drop (o + i * s)).take s).length = s := by simp; omega
      cases g' with
      | true =>
        simp only [ldA, if_true, hlen]
        rw [if_pos (by omega), if_pos hoff]
        congr 2
        rw [List.drop_take, List.take_take, List.drop_drop, Nat.min_eq_left (by omega)]
      | false =>
        simp only [ldA, Bool.false_eq_true, if_false]
        rw [List.getElem?_take_of_lt (by omega), List.getElem?_drop]
theorem SlA.elemI (hl : Low h) (hv : SlA g s h v l) {i : Int} {y : AV} (h0 : 0 ≤ i) (hi : l[i.toNat]? = some y) :
    ∃ b p, idxA s v (.int .i64 i) = some (.ptr b p) ∧ b < h.n ∧ rd h g s b p = some y ∧ ∀ g' s' off, off + s' ≤ s → 0 < s' → rd h g' s' b (p + off) = part g' s' off (.agg y.cells) := by
  have := SlA.elem hl hv hi
  rwa [Int.toNat_of_nonneg h0] at this

/-- A slice of one's own. -/
def OwnS (h : Heap) (v : AV) (b : Nat) (l : List AV) (s : Nat) : Prop := v = .sl b 0 l.length l.length 0 ∧ ∃ cs, h.get b = some (.cells cs true) ∧ cs = l.flatMap AV.cells ∧ ∀ y ∈ l, y.cells.length = s
end

theorem zerosA_one_cell (x : AV) : ∀ n, zerosA [x] n = List.replicate n x
  | 0 => rfl
  | n + 1 => by simp [zerosA, zerosA_one_cell x n, List.replicate_succ]

end Go.Am

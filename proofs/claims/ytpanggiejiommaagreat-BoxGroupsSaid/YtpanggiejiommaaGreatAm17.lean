/- The abstract machine, part 17: a region that draws its order: whatever the order. -/
import Derived.Test.YtpanggiejiommaaGreatAm16
namespace Go.Am
set_option autoImplicit false
set_option linter.all false
open Go

section
variable {ops : Array Oper}

/-- What 'drawOk' says. -/
structure DrawOk (ops : Array Oper) : Prop where
  mem : ∀ i, i < ops.size → i ∈ canon ops
  can : canonOk ops 0 (canon ops) = true
  lt : ∀ j, j < ops.size → ∀ e ∈ (ops.getD j default).after, Region.binds .any e = true → e.on < j
  clo : ∀ j, j < ops.size → ∀ i, i < ops.size → ((Region.before ops).getD j 0).testBit i = true → ∃ e ∈ (ops.getD j default).after, Region.binds .any e = true ∧ (e.on = i ∨ ((Region.before ops).getD e.on 0).testBit i = true)
  apart : ∀ j, j < ops.size → ∀ i, i < j → ((Region.before ops).getD j 0).testBit i = true ∨ Apart ops (ops.getD i default) (ops.getD j default)

theorem drawOk_spec (hd : drawOk ops = true) : DrawOk ops := by
  simp only [drawOk, Bool.and_eq_true, List.all_eq_true, List.mem_range, Array.all_eq_true_iff_forall_mem] at hd
  obtain ⟨⟨⟨⟨h1, h2⟩, h3⟩, h4⟩, h5⟩ := hd
  refine ⟨fun i hi => by simpa using h1 i hi, h2, fun j hj e he hb => ?_, fun j hj i hi hb => ?_, fun j hj i hi => ?_⟩
  · have := h3 j hj e he
    simpa [hb] using this
  · have := h4 j hj i hi
    rw [hb] at this
    simp only [Bool.not_true, Bool.false_or] at this
    rw [← Array.any_toList, List.any_eq_true] at this
    obtain ⟨e, he, hx⟩ := this
    rw [Array.mem_toList_iff] at he
    simp only [Bool.and_eq_true, Bool.or_eq_true, beq_iff_eq] at hx
    exact ⟨e, he, hx.1, hx.2⟩
  · have := h5 j hj i hi
    rw [Bool.or_eq_true] at this
    exact this.imp id apart_of

def preds (ops : Array Oper) (S : Nat → Prop) (j : Nat) : Prop := ∀ e ∈ (ops.getD j default).after, Region.binds .any e = true → S e.on

theorem before_in (hd : DrawOk ops) {S : Nat → Prop} (hS : ∀ j, j < ops.size → S j → preds ops S j) : ∀ (j : Nat), j < ops.size → preds ops S j → ∀ i, i < ops.size → ((Region.before ops).getD j 0).testBit i = true → S i := by
  intro j
  induction j using Nat.strongRecOn with
  | _ j ih =>
    intro hj hp i hi hb
    obtain ⟨e, he, hbi, hx⟩ := hd.clo j hj i hi hb
    have hlt := hd.lt j hj e he hbi
    have hSe := hp e he hbi
    rcases hx with rfl | hx
    · exact hSe
    · exact ih e.on hlt (by omega) (hS e.on (by omega) hSe) i hi hx

theorem edgesIn_iff {o : Oper} {done : Nat} : edgesIn o done = true ↔ ∀ e ∈ o.after, Region.binds .any e = true → done.testBit e.on = true := by
  unfold edgesIn
  rw [Array.all_eq_true_iff_forall_mem]
  constructor
  · intro hh e he hb; have := hh e he; simpa [hb] using this
  · intro hh e he
    cases hb : Region.binds .any e with
    | false => rfl
    | true => simpa using hh e he hb

/-- How what is done, what is done ahead of its time and what is left lie. -/
structure Lie (ops : Array Oper) (listed : Array Bool) (pend : List Nat) (rest : List Nat) : Prop where
  size : listed.size = ops.size
  nodup : (pend ++ rest).Nodup
  lt : ∀ i ∈ pend ++ rest, i < ops.size ∧ listed.getD i false = false
  cover : ∀ i, i < ops.size → listed.getD i false = true ∨ i ∈ pend ++ rest
  down : ∀ j, j < ops.size → listed.getD j false = true → preds ops (fun i => listed.getD i false = true) j
  ord : ∀ l1 i l2, pend ++ rest = l1 ++ i :: l2 → preds ops (fun j => listed.getD j false = true ∨ j ∈ l1) i
  can : ∃ done, canonOk ops done rest = true ∧ ∀ i, done.testBit i = true ↔ (listed.getD i false = true ∨ i ∈ pend)

variable {listed : Array Bool} {pend rest : List Nat}

theorem Lie.apart (L : Lie ops listed pend rest) (hd : DrawOk ops) {l1 l2 : List Nat} {x y : Nat} (hl : pend ++ rest = l1 ++ x :: l2) (hy : y ∈ l2) (hr : preds ops (fun i => listed.getD i false = true) y) :
    Apart ops (ops.getD x default) (ops.getD y default) := by
  have hxm : x ∈ pend ++ rest := by rw [hl]; simp
  have hym : y ∈ pend ++ rest := by rw [hl]; simp [hy]
  obtain ⟨hx1, hx2⟩ := L.lt x hxm
  obtain ⟨hy1, hy2⟩ := L.lt y hym
  have nd := L.nodup
  rw [hl] at nd
  have n1 : ((Region.before ops).getD y 0).testBit x ≠ true := fun hb => by
    have := before_in hd L.down y hy1 hr x hx1 hb
    rw [this] at hx2; cases hx2
  have n2 : ((Region.before ops).getD x 0).testBit y ≠ true := fun hb => by
    have hdown : ∀ j, j < ops.size → (listed.getD j false = true ∨ j ∈ l1) → preds ops (fun j => listed.getD j false = true ∨ j ∈ l1) j := by
      intro j hj hjj
      rcases hjj with hjj | hjj
      · exact fun e he hb => .inl (L.down j hj hjj e he hb)
      · obtain ⟨s, t, rfl⟩ := List.append_of_mem hjj
        have := L.ord s j (t ++ x :: l2) (by rw [hl]; simp)
        exact fun e he hb => (this e he hb).imp id fun h => by simp [h]
    rcases before_in hd hdown x hx1 (L.ord l1 x l2 hl) y hy1 hb with h | h
    · rw [h] at hy2; cases hy2
    · have := (List.nodup_append.1 nd).2.2 y h y (by simp [hy])
      exact this rfl
  rcases Nat.lt_trichotomy x y with h | h | h
  · exact (hd.apart y hy1 x h).resolve_left n1
  · subst h
    have := (List.nodup_append.1 nd).2.1
    exact absurd hy (List.nodup_cons.1 this).1
  · exact ((hd.apart x hx1 y h).resolve_left n2).symm

theorem listed_set {i j : Nat} (hi : i < listed.size) : (listed.setIfInBounds i true).getD j false = if i = j then true else listed.getD j false := by
  simp only [Array.getD_eq_getD_getElem?, Array.getElem?_setIfInBounds]
  by_cases h : i = j
  · subst h; simp [hi]
  · simp [h]


theorem Lie.drop {l1 l2 : List Nat} {i : Nat} {rest' : List Nat} (L : Lie ops listed pend rest) (hr : preds ops (fun j => listed.getD j false = true) i)
    (hl : (pend = l1 ++ i :: l2 ∧ rest' = rest) ∨ (l1 = pend ∧ l2 = [] ∧ rest = i :: rest')) : Lie ops (listed.setIfInBounds i true) (l1 ++ l2) rest' := by
  have hall : pend ++ rest = l1 ++ i :: (l2 ++ rest') := by
    rcases hl with ⟨rfl, rfl⟩ | ⟨rfl, rfl, rfl⟩ <;> simp
  have him : i ∈ pend ++ rest := by rw [hall]; simp
  obtain ⟨hi1, hi2⟩ := L.lt i him
  have his : i < listed.size := by rw [L.size]; exact hi1
  have nd := L.nodup
  rw [hall] at nd
  have nd1 := (List.nodup_append.1 nd)
  have nd2 := List.nodup_cons.1 nd1.2.1
  have hini : ∀ j ∈ l1 ++ l2 ++ rest', j ∈ pend ++ rest ∧ j ≠ i := by
    intro j hj
    rw [hall]
    simp only [List.mem_append] at hj
    refine ⟨by simp only [List.mem_append, List.mem_cons]; rcases hj with (h | h) | h <;> simp [h], fun e => ?_⟩
    subst e
    rcases hj with (h | h) | h
    · exact nd1.2.2 j h j (by simp) rfl
    · exact nd2.1 (by simp [h])
    · exact nd2.1 (by simp [h])
  refine ⟨by simpa using L.size, ?_, fun j hj => ?_, fun j hj => ?_, fun j hj hlj => ?_, fun m1 j m2 hm => ?_, ?_⟩
  · rw [List.append_assoc]
    exact List.nodup_append.2 ⟨nd1.1, nd2.2, fun a ha b hb => nd1.2.2 a ha b (by simp [hb])⟩
  · obtain ⟨q1, q2⟩ := hini j hj
    rw [listed_set his, if_neg (Ne.symm q2)]
    exact L.lt j q1
  · rw [listed_set his]
    by_cases hij : i = j
    · exact .inl (by simp [hij])
    · rw [if_neg hij]
      refine (L.cover j hj).imp id fun h => ?_
      rw [hall] at h
      simp only [List.mem_append, List.mem_cons] at h ⊢
      rcases h with h | h | h | h
      · simp [h]
      · exact absurd h.symm hij
      · simp [h]
      · simp [h]
  · rw [listed_set his] at hlj
    intro e he hb
    show (listed.setIfInBounds i true).getD e.on false = true
    rw [listed_set his]
    by_cases h : i = e.on
    · simp [h]
    · rw [if_neg h]
      by_cases hij : i = j
      · subst hij; exact hr e he hb
      · rw [if_neg hij] at hlj; exact L.down j hj hlj e he hb
  · -- the order
    intro e he hb
    show (listed.setIfInBounds i true).getD e.on false = true ∨ e.on ∈ m1
    rw [listed_set his]
    by_cases h : i = e.on
    · exact .inl (by simp [h])
    rw [if_neg h]
    rw [List.append_assoc, List.append_eq_append_iff] at hm
    have hcase : ∃ n1 n2, pend ++ rest = n1 ++ j :: n2 ∧ ∀ z ∈ n1, z = i ∨ z ∈ m1 := by
      rcases hm with ⟨a', h1, h2⟩ | ⟨c', h1, h2⟩
      · -- j lies behind i
        refine ⟨l1 ++ i :: a', m2, by rw [hall, h2]; simp, fun z hz => ?_⟩
        rw [h1]
        simp only [List.mem_append, List.mem_cons] at hz ⊢
        rcases hz with h | h | h <;> simp [h]
      · cases c' with
        | nil =>
          simp at h1 h2
          refine ⟨l1 ++ [i], m2, by rw [hall, ← h2]; simp, fun z hz => ?_⟩
          simp only [List.mem_append, List.mem_cons, List.not_mem_nil, or_false] at hz
          rcases hz with h | h
          · exact .inr (by rw [← h1]; exact h)
          · exact .inl h
        | cons c cs =>
          simp at h2
          obtain ⟨rfl, h2⟩ := h2
          exact ⟨m1, cs ++ i :: (l2 ++ rest'), by rw [hall, h1]; simp, fun z hz => .inr hz⟩
    obtain ⟨n1, n2, e1, e2⟩ := hcase
    rcases L.ord n1 j n2 e1 e he hb with h' | h'
    · exact .inl h'
    · rcases e2 _ h' with h'' | h''
      · exact absurd h''.symm h
      · exact .inr h''
  · obtain ⟨done, c1, c2⟩ := L.can
    rcases hl with ⟨rfl, rfl⟩ | ⟨rfl, rfl, rfl⟩
    · refine ⟨done, c1, fun j => ?_⟩
      rw [c2, listed_set his]
      by_cases h : i = j
      · subst h; simp
      · have : j ≠ i := fun e => h e.symm
        simp [h, this]
    · simp only [canonOk, Bool.and_eq_true] at c1
      refine ⟨done ||| 2 ^ i, c1.2, fun j => ?_⟩
      rw [Nat.testBit_or, Bool.or_eq_true, c2, listed_set his, Nat.testBit_two_pow]
      by_cases h : i = j
      · subst h; simp
      · simp [h]

/-- One more is done ahead of its time. -/
theorem Lie.ahead {i : Nat} {rest' : List Nat} (L : Lie ops listed pend (i :: rest')) : Lie ops listed (pend ++ [i]) rest' := by
  have hall : (pend ++ [i]) ++ rest' = pend ++ i :: rest' := by simp
  refine ⟨L.size, by rw [hall]; exact L.nodup, by rw [hall]; exact L.lt, by rw [hall]; exact L.cover, L.down, by rw [hall]; exact L.ord, ?_⟩
  obtain ⟨done, c1, c2⟩ := L.can
  simp only [canonOk, Bool.and_eq_true] at c1
  refine ⟨done ||| 2 ^ i, c1.2, fun j => ?_⟩
  rw [Nat.testBit_or, Bool.or_eq_true, c2, Nat.testBit_two_pow]
  by_cases h : i = j
  · subst h; simp
  · have : j ≠ i := fun e => h e.symm
    simp [h, this]

/-- Where a change comes next, nothing behind it is ready. -/
theorem Lie.head {i j : Nat} {rest' : List Nat} (L : Lie ops listed pend (i :: rest')) (he : isEff (ops.getD i default).op = true) (hj : j ∈ rest') (hr : preds ops (fun j => listed.getD j false = true) j) : False := by
  obtain ⟨done, c1, c2⟩ := L.can
  simp only [canonOk, Bool.and_eq_true, he, Bool.not_true, Bool.false_or, List.all_eq_true] at c1
  have := c1.1.2 j hj
  rw [Bool.not_eq_true'] at this
  have h2 : edgesIn (ops.getD j default) done = true := edgesIn_iff.2 fun e he hb => (c2 e.on).2 (.inl (hr e he hb))
  rw [h2] at this; cases this

theorem getD_true {i : Nat} (hi : i < listed.size) : listed.getD i true = listed.getD i false := by
  simp [Array.getD, hi]

theorem Lie.ready (L : Lie ops listed pend rest) {i : Nat} (h : i ∈ Region.ready .any ops listed) : i ∈ pend ++ rest ∧ preds ops (fun j => listed.getD j false = true) i := by
  obtain ⟨h1, o, h2, h3⟩ := mem_ready.1 h
  have hlt : i < ops.size := (Array.getElem?_eq_some_iff.1 h2).1
  have ho : ops.getD i default = o := by simp [Array.getD_eq_getD_getElem?, h2]
  rw [getD_true (by rw [L.size]; exact hlt)] at h1
  refine ⟨(L.cover i hlt).resolve_left (by simp [h1]), ?_⟩
  unfold preds; rw [ho]; exact h3

theorem Lie.none (L : Lie ops listed pend rest) (h : Region.ready .any ops listed = []) : pend = [] ∧ rest = [] := by
  cases hp : pend ++ rest with
  | nil => simpa using hp
  | cons x l =>
    have := L.ord [] x l hp
    obtain ⟨q1, q2⟩ := L.lt x (by rw [hp]; simp)
    have : x ∈ Region.ready .any ops listed := by
      refine mem_ready.2 ⟨by rw [getD_true (by rw [L.size]; exact q1)]; exact q2, ops.getD x default, by simp [Array.getD_eq_getD_getElem?, q1], fun e he hb => ?_⟩
      simpa using this e he hb
    rw [h] at this; cases this

theorem canonOk_facts : ∀ (l : List Nat) (done : Nat), canonOk ops done l = true → l.Nodup ∧ (∀ i ∈ l, i < ops.size) ∧ ∀ l1 i l2, l = l1 ++ i :: l2 → preds ops (fun j => done.testBit j = true ∨ j ∈ l1) i := by
  intro l
  induction l with
  | nil => exact fun done _ => ⟨List.nodup_nil, by simp, fun l1 i l2 h => by simp at h⟩
  | cons x l ih =>
    intro done hc
    simp only [canonOk, Bool.and_eq_true, decide_eq_true_eq, Bool.not_eq_true'] at hc
    obtain ⟨⟨⟨⟨h1, h2⟩, h3⟩, h4⟩, h5⟩ := hc
    obtain ⟨i1, i2, i3⟩ := ih _ h5
    refine ⟨List.nodup_cons.2 ⟨by simpa using h2, i1⟩, fun i hi => ?_, fun l1 i l2 hl => ?_⟩
    · rcases List.mem_cons.1 hi with rfl | hi
      · exact h1
      · exact i2 i hi
    · cases l1 with
      | nil =>
        simp at hl
        obtain ⟨rfl, rfl⟩ := hl
        exact fun e he hb => .inl (edgesIn_iff.1 h3 e he hb)
      | cons y l1 =>
        simp at hl
        obtain ⟨rfl, rfl⟩ := hl
        intro e he hb
        rcases i3 l1 i l2 rfl e he hb with h | h
        · rw [Nat.testBit_or, Bool.or_eq_true, Nat.testBit_two_pow] at h
          rcases h with h | h
          · exact .inl h
          · exact .inr (by simp at h; simp [h])
        · exact .inr (by simp [h])

theorem Lie.start (hd : DrawOk ops) : Lie ops (Array.replicate ops.size false) [] (canon ops) := by
  obtain ⟨c1, c2, c3⟩ := canonOk_facts _ _ hd.can
  have hf : ∀ i, (Array.replicate ops.size false).getD i false = false := fun i => by
    simp only [Array.getD_eq_getD_getElem?, Array.getElem?_replicate]; split <;> rfl
  refine ⟨by simp, c1, fun i hi => ⟨c2 i hi, hf i⟩, fun i hi => .inr (hd.mem i hi), fun j _ h => (by rw [hf] at h; cases h), fun l1 i l2 hl e he hb => ?_, 0, hd.can, fun i => by simp [hf]⟩
  rcases c3 l1 i l2 hl e he hb with h | h
  · simp at h
  · exact .inr h

end
end Go.Am

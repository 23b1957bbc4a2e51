/- The abstract machine, part 33: slices of integers, and slices of those, that came in, are laid before the machine. -/
import Derived.Test.YtpanggiejiommaaGreatAm32
namespace Go.Am
set_option autoImplicit false
set_option linter.all false
open Go

section
variable {G : Nat} {w : World} {ρ : Ren} {h : Heap}

/-- An empty block of the machine's own. -/
theorem HR.ghost {K : Nat → Prop} {w0 : World} (H : HR G K w0 ρ h w) : HR G K w0 ρ (h.push (.cells [] false)) w := by
  have hnew : ρ h.n = none := (H.top h.n (Nat.le_refl _)).2
  refine ⟨H.os, H.tape, H.output, H.keep, fun b hb => ?_, Nat.le_trans H.gn (Nat.le_succ _), H.glob, fun b o cb d hb hρ => ?_, H.rng, fun b o cb d hb hrw hρ => ?_, H.typ⟩
  · have hb : h.n + 1 ≤ b := hb
    rw [Heap.get_push_old _ _ (by omega)]
    exact H.top b (by omega)
  · by_cases hbn : b = h.n
    · subst hbn; rw [hnew] at hρ; cases hρ
    · rw [Heap.get_push_old _ _ hbn] at hb
      exact H.obj b o cb d hb hρ
  · by_cases hbn : b = h.n
    · subst hbn; rw [hnew] at hρ; cases hρ
    · rw [Heap.get_push_old _ _ hbn] at hb
      obtain ⟨k1, k2⟩ := H.own b o cb d hb hrw hρ
      refine ⟨k1, fun b' o' d' hb' hl' hρ' => ?_⟩
      by_cases hbn' : b' = h.n
      · subst hbn'; rw [hnew] at hρ'; cases hρ'
      · rw [Heap.get_push_old _ _ hbn'] at hb'
        exact k2 b' o' d' hb' hl' hρ'

/-- Laying goes on: what was laid stays. -/
structure Laid (G : Nat) (w : World) (e0 : Nat) (ρ : Ren) (h : Heap) (ρ' : Ren) (h' : Heap) : Prop where
  sub : Sub ρ ρ'
  sized : Sized w ρ'
  grow : Grow h h'
  hr : HR G (fun i => i < w.heap.size) w ρ' h' w
  ghost : h'.get e0 = some (.cells [] false)
theorem Laid.refl {e0 : Nat} (S : Sized w ρ) (H : HR G (fun i => i < w.heap.size) w ρ h w) (g : h.get e0 = some (.cells [] false)) : Laid G w e0 ρ h ρ h := ⟨Sub.refl _, S, Grow.refl _, H, g⟩
theorem Laid.trans {e0 : Nat} {ρ1 ρ2 ρ3 : Ren} {h1 h2 h3 : Heap} (a : Laid G w e0 ρ1 h1 ρ2 h2) (b : Laid G w e0 ρ2 h2 ρ3 h3) : Laid G w e0 ρ1 h1 ρ3 h3 := ⟨a.sub.trans b.sub, b.sized, a.grow.trans b.grow, b.hr, b.ghost⟩
theorem Laid.low {e0 : Nat} {ρ' : Ren} {h' : Heap} (a : Laid G w e0 ρ h ρ' h') : Low h' := a.hr.low

/-- One-cell elements that lie in a row are laid. -/
theorem Laid.row {e0 : Nat} (S : Sized w ρ) (H : HR G (fun i => i < w.heap.size) w ρ h w) (g0 : h.get e0 = some (.cells [] false)) (A : Option Addr) (L C : Nat) (V : Nat → Value) (xs : List AV) (hLC : L ≤ C) (hA : A = none → C = 0)
    (hc : ∀ a, A = some a → ∀ i, i < C → w.cell? (a.add i) = some (V i)) (hlen : xs.length = L) (hx : ∀ i x, xs[i]? = some x → VR ρ x (V i) ∧ x.one = true ∧ x.isAgg = false) :
    ∃ v ρ' h', VR ρ' v (.slice A L C) ∧ SlA false 1 h' v xs ∧ Laid G w e0 ρ h ρ' h' := by
  cases A with
  | none =>
    obtain rfl : C = 0 := hA rfl
    obtain rfl : L = 0 := by omega
    obtain rfl : xs = [] := List.length_eq_zero_iff.1 hlen
    exact ⟨.nils, ρ, h, .nils, SlA.nil, Laid.refl S H g0⟩
  | some a =>
    by_cases hC : C = 0
    · subst hC
      obtain rfl : L = 0 := by omega
      obtain rfl : xs = [] := List.length_eq_zero_iff.1 hlen
      exact ⟨.sl e0 0 0 0 0, ρ, h, .sl0 _ _ _ _, .inr ⟨e0, 0, 0, 0, [], false, rfl, g0, fun i y hi => by simp at hi⟩, Laid.refl S H g0⟩
    · have hc := hc a rfl
      have h0 := hc 0 (by omega)
      have hsp := World.cell?_spot h0
      have ha0 : a.add 0 = a := by simp [Addr.add]
      rw [ha0] at h0 hsp
      have hoff : ∀ i, a.add i = ⟨a.block, a.off + i, none⟩ := fun i => by
        unfold Addr.add
        split
        · rename_i hi; subst hi; rw [Nat.add_zero]; cases a; simp at hsp; subst hsp; rfl
        · rfl
      unfold World.cell? at h0
      cases hw : w.heap[a.block]? with
      | none => rw [hw] at h0; cases h0
      | some o =>
        cases o with
        | cells c e fz =>
          have hcell : ∀ i, i < C → c[a.off + i]? = some (V i) := fun i hi => by
            have := hc i hi
            rw [hoff] at this
            unfold World.cell? at this
            simp only [hw] at this
            simpa using this
          have hsz : a.off + C ≤ c.size := by
            have := hcell (C - 1) (by omega)
            have := (Array.getElem?_eq_some_iff.1 this).1
            omega
          have hlt := (Array.getElem?_eq_some_iff.1 hw).1
          obtain ⟨ρ', r1, r2, r3, r4⟩ := H.layS S (cs := xs) (cb := a.block) (d := a.off) hlt hw (by omega) (fun i v hi => by
            have hlt := (List.getElem?_eq_some_iff.1 hi).1
            obtain ⟨x1, x2, x3⟩ := hx i v hi
            exact ⟨V i, hcell i (by omega), x1, x2⟩)
          refine ⟨.sl h.n 0 L C 0, ρ', _, ?_, .inr ⟨h.n, 0, C, 0, xs, false, by rw [hlen], Heap.get_push_new _ _, fun i y hi => ?_⟩, r3.sub, r2, Grow.push _ _, r4, ?_⟩
          · have := VR.sl (ρ := ρ') h.n 0 L C 0 a.block a.off C r1 hLC (Nat.le_refl _) (fun _ => rfl) (fun h => absurd rfl h)
            rw [Nat.zero_add] at this
            have hae : a = ⟨a.block, a.off, none⟩ := by rw [← ha0, hoff 0]
            rw [hae]; exact this
          · obtain ⟨-, x2, x3⟩ := hx i y hi
            have hlt := (List.getElem?_eq_some_iff.1 hi).1
            refine ⟨x3, by rw [one_of_cells x3]; rfl, by omega, ?_⟩
            rw [one_of_cells x3, Nat.zero_add, Nat.mul_one, List.drop_eq_getElem_cons hlt]
            rw [List.getElem?_eq_getElem hlt] at hi
            rw [Option.some.inj hi]; rfl
          · rw [Heap.get_push_old _ _ (Nat.ne_of_lt (H.low e0 _ g0))]; exact g0
        | _ => rw [hw] at h0; cases h0

/-- A slice of integers. -/
theorem Laid.ints {e0 : Nat} (S : Sized w ρ) (H : HR G (fun i => i < w.heap.size) w ρ h w) (g0 : h.get e0 = some (.cells [] false)) (k : IntKind) (A : Option Addr) (L C : Nat) (zs : List Int) (hLC : L ≤ C) (hA : A = none → C = 0) (hz : zs.length = C)
    (hc : ∀ a, A = some a → ∀ i, i < C → w.cell? (a.add i) = some (.int k (zs.getD i 0))) :
    ∃ v ρ' h', VR ρ' v (.slice A L C) ∧ SlA false 1 h' v ((zs.take L).map (.int k)) ∧ Laid G w e0 ρ h ρ' h' := by
  refine Laid.row S H g0 A L C (fun i => .int k (zs.getD i 0)) _ hLC hA hc (by simp; omega) (fun i x hi => ?_)
  rw [List.getElem?_map, Option.map_eq_some_iff] at hi
  obtain ⟨n, hn, rfl⟩ := hi
  have hlt : i < L := by have := (List.getElem?_eq_some_iff.1 hn).1; simp at this; omega
  rw [List.getElem?_take_of_lt hlt] at hn
  refine ⟨?_, rfl, rfl⟩
  rw [List.getD_eq_getElem?_getD, hn]
  exact .int _ _
theorem SlA.plain {s : Nat} {g : Bool} {v : AV} {l : List AV} (hv : SlA g s h v l) : v.one = true ∧ v.isAgg = false := by
  rcases hv with ⟨rfl, _⟩ | ⟨b, o, c, x, cs, rw_, rfl, _, _⟩ <;> exact ⟨rfl, rfl⟩
/-- So many slices of integers. -/
theorem Laid.rows {e0 : Nat} (S : Sized w ρ) (H : HR G (fun i => i < w.heap.size) w ρ h w) (g0 : h.get e0 = some (.cells [] false)) (k : IntKind) (A : Nat → Option Addr) (L C : Nat → Nat) (Z : Nat → List Int) : ∀ (m : Nat),
    (∀ r, r < m → L r ≤ C r ∧ (A r = none → C r = 0) ∧ (Z r).length = C r ∧ ∀ a, A r = some a → ∀ i, i < C r → w.cell? (a.add i) = some (.int k ((Z r).getD i 0))) →
    ∃ (xs : List AV) (ρ' : Ren) (h' : Heap), xs.length = m ∧ (∀ r x, xs[r]? = some x → VR ρ' x (.slice (A r) (L r) (C r)) ∧ SlA false 1 h' x (((Z r).take (L r)).map (.int k))) ∧ Laid G w e0 ρ h ρ' h'
  | 0, _ => ⟨[], ρ, h, rfl, fun r x hx => by simp at hx, Laid.refl S H g0⟩
  | m + 1, hr => by
    obtain ⟨xs, ρ1, h1, hl, hx, ld⟩ := Laid.rows S H g0 k A L C Z m (fun r h => hr r (by omega))
    obtain ⟨c1, c2, c3, c4⟩ := hr m (by omega)
    obtain ⟨v, ρ2, h2, v1, v2, ld2⟩ := Laid.ints ld.sized ld.hr ld.ghost k (A m) (L m) (C m) (Z m) c1 c2 c3 c4
    refine ⟨xs ++ [v], ρ2, h2, by simp [hl], fun r x hrx => ?_, ld.trans ld2⟩
    by_cases hrm : r < m
    · rw [List.getElem?_append_left (by omega)] at hrx
      obtain ⟨y1, y2⟩ := hx r x hrx
      exact ⟨y1.mono ld2.sub, y2.grow ld.low ld2.grow⟩
    · have hlt := (List.getElem?_eq_some_iff.1 hrx).1
      simp [hl] at hlt
      obtain rfl : r = m := by omega
      rw [List.getElem?_append_right (by omega), hl, Nat.sub_self] at hrx
      simp at hrx
      subst hrx
      exact ⟨v1, v2⟩
end
end Go.Am

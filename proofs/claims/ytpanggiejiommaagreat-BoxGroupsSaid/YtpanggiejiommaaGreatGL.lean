/- The plain law of BoxGroups. -/
import Derived.Test.YtpanggiejiommaaGreatGG
namespace Go.Proofs.YtpanggiejiommaaGreat
open Go Go.Am
set_option autoImplicit false
set_option linter.all false
set_option maxRecDepth 100000

/-- The place of a lot. -/
def like (l : List Int) (x : Int) : Nat := l.findIdx (· == x)
theorem like_cons (a : Int) (l : List Int) (x : Int) : like (a :: l) x = if a = x then 0 else like l x + 1 := by
  unfold like
  rw [List.findIdx_cons]
  by_cases h : a = x
  · subst h; simp
  · rw [show (a == x) = false by simpa using h, if_neg h]; rfl

theorem bit_pow {I j : Nat} (hI : I < 8) (hj : j < 8) : 2 ^ I / 2 ^ j % 2 = if j = I then 1 else 0 := (by decide +kernel : ∀ I : Nat, I < 8 → ∀ j : Nat, j < 8 → 2 ^ I / 2 ^ j % 2 = if j = I then 1 else 0) I hI j hj
theorem bit_all {n x : Nat} (hn : n ≤ 8) (hx : x < n) : (2 ^ n - 1) / 2 ^ x % 2 = 1 := (by decide +kernel : ∀ n : Nat, n < 9 → ∀ x : Nat, x < n → (2 ^ n - 1) / 2 ^ x % 2 = 1) n (by omega) x hx
theorem bit_clr {f x y : Nat} (hf : f < 256) (hx : x < 8) (hy : y < 8) (hne : y ≠ x) : clr f x / 2 ^ y % 2 = f / 2 ^ y % 2 := (by decide +kernel : ∀ f : Nat, f < 256 → ∀ x : Nat, x < 8 → ∀ y : Nat, y < 8 → y ≠ x → clr f x / 2 ^ y % 2 = f / 2 ^ y % 2) f hf x hx y hy hne

theorem deal_skip (ws : List (List Int)) (tr : List Int) (g : Nat) : ∀ (d k i f : Nat) (b : Bool), (∀ j, i ≤ j → j < i + d → g / 2 ^ j % 2 = 0) → deal ws tr g (d + k) i f b = deal ws tr g k (i + d) f b
  | 0, k, i, f, b, _ => by rw [Nat.zero_add, Nat.add_zero]
  | d + 1, k, i, f, b, h => by
    rw [show d + 1 + k = (d + k) + 1 by omega, deal, if_pos (h i (by omega) (by omega)), deal_skip ws tr g d k (i + 1) f b (fun j h1 h2 => h j (by omega) (by omega))]
    congr 1; omega

theorem row_one {t : Int} {I : Nat} {f : Nat} {rec : Nat → Bool → Bool} : ∀ {row : List Int}, (∀ x ∈ row, (f / 2 ^ x.toNat % 2 = 1 ↔ x = I)) → (∀ b, rec (clr f I) b = b) → dealRow rec t f false row = decide (like row I < like row t)
  | [], _, _ => by simp [dealRow, like]
  | x :: r, hb, hr => by
    have hx := hb x (by simp)
    have ih := row_one (t := t) (row := r) (fun y hy => hb y (by simp [hy])) hr
    rw [dealRow, like_cons, like_cons]
    by_cases hxI : x = I
    · subst hxI
      rw [Int.toNat_natCast] at hx
      rw [Int.toNat_natCast, hr]
      by_cases hxt : (I : Int) = t
      · simp [hxt]
      · simp [hx, hxt]
    · rw [if_neg (fun h => hxI (hx.1 h.1)), if_neg hxI]
      by_cases hxt : x = t
      · simp [hxt]
      · rw [if_neg hxt, if_neg hxt, ih]
        simp

theorem one_law {ws : List (List Int)} {tr : List Int} {n I : Nat} {row : List Int} {t : Int} (hn : n ≤ 8) (hI : I < n) (hrow : ws[I]? = some row) (ht : tr[I]? = some t) (ho : IsOrd n row) :
    deal ws tr (2 ^ I) n 0 (2 ^ I) false = decide (like row I < like row t) := by
  rw [show n = I + ((n - I - 1) + 1) by omega, deal_skip ws tr _ I _ 0 _ _ (fun j _ hj => by rw [bit_pow (by omega) (by omega), if_neg (by omega)]), Nat.zero_add, deal,
    if_neg (by rw [bit_pow (by omega) (by omega), if_pos rfl]; decide), List.getD_eq_getElem?_getD, List.getD_eq_getElem?_getD, hrow, ht]
  refine row_one (fun x hx => ?_) (fun b => ?_)
  · have := ho.2.1 x hx
    rw [bit_pow (by omega) (by omega)]
    by_cases hxI : x = I
    · subst hxI; simp
    · rw [if_neg (by omega)]; simp [hxI]
  · have := deal_skip ws tr (2 ^ I) (n - I - 1) 0 (I + 1) (clr (2 ^ I) I) b (fun j h1 h2 => by rw [bit_pow (by omega) (by omega), if_neg (by omega)])
    rw [Nat.add_zero] at this
    rw [this, deal]

theorem row_two {t x : Int} {f : Nat} {b : Bool} {rec : Nat → Bool → Bool} : ∀ {row : List Int}, like row x ≤ like row t → x ∈ row → f / 2 ^ x.toNat % 2 = 1 → rec (clr f x.toNat) (b || !decide (x = t)) = true → dealRow rec t f b row = true
  | [], _, h, _, _ => by simp at h
  | y :: r, hl, hm, hb, hr => by
    rw [dealRow]
    split
    · rfl
    · rename_i hno
      by_cases hyx : y = x
      · subst hyx; exact absurd ⟨hb, hr⟩ hno
      · rw [like_cons, like_cons, if_neg hyx] at hl
        by_cases hyt : y = t
        · rw [if_pos hyt] at hl; omega
        · rw [if_neg hyt] at hl
          rw [if_neg hyt]
          exact row_two (by omega) (by simpa [Ne.symm hyx] using hm) hb hr

theorem ord_mem {n : Nat} {l : List Int} (ho : IsOrd n l) {x : Nat} (hx : x < n) : (x : Int) ∈ l := by
  have hp := List.mergeSort_perm l (fun a b => decide (a ≤ b))
  have hs : Sorted (l.mergeSort (fun a b => decide (a ≤ b))) := by
    have := List.pairwise_mergeSort (le := fun a b : Int => decide (a ≤ b)) (fun a b c h1 h2 => by simp at *; omega) (fun a b => by simp; omega) l
    exact this.imp fun h => by simpa using h
  have hlen : (l.mergeSort (fun a b => decide (a ≤ b))).length = n := by rw [hp.length_eq, ho.1]
  have h1 := List.getElem?_eq_getElem (l := l.mergeSort (fun a b => decide (a ≤ b))) (i := x) (by omega)
  have := ord_sorted ho hp hs x _ h1
  rw [← this]
  exact hp.mem_iff.1 (List.getElem_mem _)

theorem all_law {ws : List (List Int)} {tr ot : List Int} {n : Nat} (hn : n ≤ 8) (hw : ws.length = n) (ho : ∀ l ∈ ws, IsOrd n l) (hto : IsOrd n tr) (hoo : IsOrd n ot)
    (hle : ∀ (i : Nat) row x t, ws[i]? = some row → ot[i]? = some x → tr[i]? = some t → like row x ≤ like row t) : ∀ (k i f : Nat) (b : Bool), i + k = n → f < 256 →
    (∀ (j : Nat) x, i ≤ j → ot[j]? = some x → f / 2 ^ x.toNat % 2 = 1) → (b = true ∨ ∃ (j : Nat) (row : List Int) (x t : Int), i ≤ j ∧ ws[j]? = some row ∧ ot[j]? = some x ∧ tr[j]? = some t ∧ like row x < like row t) → deal ws tr (2 ^ n - 1) k i f b = true
  | 0, i, f, b, hik, hf, hbits, hs => by
    rw [deal]
    rcases hs with h | ⟨j, row, x, t, hj, h1, _⟩
    · exact h
    · have := (List.getElem?_eq_some_iff.1 h1).1; omega
  | k + 1, i, f, b, hik, hf, hbits, hs => by
    obtain ⟨row, hrow⟩ : ∃ row, ws[i]? = some row := ⟨_, List.getElem?_eq_getElem (by omega)⟩
    obtain ⟨x, hx⟩ : ∃ x, ot[i]? = some x := ⟨_, List.getElem?_eq_getElem (by rw [hoo.1]; omega)⟩
    obtain ⟨t, ht⟩ : ∃ t, tr[i]? = some t := ⟨_, List.getElem?_eq_getElem (by rw [hto.1]; omega)⟩
    rw [deal, if_neg (by rw [bit_all hn (by omega)]; decide), List.getD_eq_getElem?_getD, List.getD_eq_getElem?_getD, hrow, ht]
    have hxr := hoo.2.1 x (List.mem_of_getElem? hx)
    have hm : x ∈ row := by have := ord_mem (ho row (List.mem_of_getElem? hrow)) (x := x.toNat) (by omega); rwa [Int.toNat_of_nonneg hxr.1] at this
    refine row_two (x := x) (hle i row x t hrow hx ht) hm (hbits i x (by omega) hx) ?_
    refine all_law hn hw ho hto hoo hle k (i + 1) _ _ (by omega) (clr_lt hf) (fun j y hj hy => ?_) ?_
    · have hyr := hoo.2.1 y (List.mem_of_getElem? hy)
      rw [bit_clr hf (by omega) (by omega) ?_]
      · exact hbits j y (by omega) hy
      · intro e
        have hxy : x = y := by omega
        subst hxy
        obtain ⟨a1, a2⟩ := List.getElem?_eq_some_iff.1 hx
        obtain ⟨b1, b2⟩ := List.getElem?_eq_some_iff.1 hy
        exact (List.pairwise_iff_getElem.1 hoo.2.2 i j a1 b1 (by omega)) (a2.trans b2.symm)
    · rcases hs with h | ⟨j, row', x', t', hj, h1, h2, h3, h4⟩
      · exact .inl (by simp [h])
      · by_cases hji : j = i
        · subst hji
          rw [hrow] at h1; rw [hx] at h2; rw [ht] at h3
          cases h1; cases h2; cases h3
          refine .inl ?_
          have : x ≠ t := fun e => by subst e; omega
          simp [this]
        · exact .inr ⟨j, row', x', t', by omega, h1, h2, h3, h4⟩
end Go.Proofs.YtpanggiejiommaaGreat

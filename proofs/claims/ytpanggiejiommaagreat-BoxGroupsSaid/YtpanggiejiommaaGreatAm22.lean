/- The abstract machine, part 22: what came in is laid before it, to be read only. -/
import Derived.Test.YtpanggiejiommaaGreatAm21
namespace Go.Am
set_option autoImplicit false
set_option linter.all false
open Go

section
variable {G : Nat} {K : Nat → Prop} {w0 w : World} {ρ : Ren} {h : Heap}

/-- A block that was there is laid before the machine, to be read only. -/
theorem HR.lay (H : HR G K w0 ρ h w) {cs : List AV} {cb d : Nat} {c : Array Value} {e : TypeId} {fz : Nat × Nat} (hK : K cb) (hc : w.heap[cb]? = some (.cells c e fz)) (hsz : ∀ b' d', ρ b' = some (cb, d') → ρ.sz cb = c.size) (hd : d + cs.length ≤ c.size)
    (hv : ∀ i v, cs[i]? = some v → ∃ v', c[d + i]? = some v' ∧ VR ρ v v' ∧ v.one = true) :
    Nx ρ h (ρ.put h.n (cb, d) c.size) (h.push (.cells cs false)) ∧ HR G K w0 (ρ.put h.n (cb, d) c.size) (h.push (.cells cs false)) w := by
  have hnew : ρ h.n = none := (H.top h.n (Nat.le_refl _)).2
  have hG := H.gn
  have hsub : Sub ρ (ρ.put h.n (cb, d) c.size) := Ren.sub_put hnew fun b' d' hb' => hsz b' d' hb'
  have hlt : cb < w.heap.size := (Array.getElem?_eq_some_iff.1 hc).1
  refine ⟨Nx.put hsub (Nat.le_succ _), H.os, H.tape, H.output, H.keep, fun b hb => ?_, by rw [Heap.n_push]; omega, fun g hg => ?_, fun b x cb' d' hb hρ => ?_, fun b cb' d' hρ => ?_, fun b x cb' d' hb hrw hρ => ?_, fun b e' q hb => ?_⟩
  rotate_right
  · obtain ⟨cb', d', c', fz', t1, t2, t3⟩ := H.typ b e' q hb
    exact ⟨cb', d', c', fz', hsub.m _ _ t1, t2, t3⟩
  · rw [Heap.n_push] at hb
    rw [Heap.get_push_old _ _ (by omega), Ren.put_ne _ _ _ (by omega)]
    exact H.top b (by omega)
  · rw [Ren.put_ne _ _ _ (by omega)]; exact H.glob g hg
  · by_cases hbn : b = h.n
    · subst hbn
      rw [Heap.get_push_new] at hb
      rw [Ren.put_same] at hρ
      cases hb; cases hρ
      rw [Ren.put_sz, hc]
      exact ⟨c, e, fz, rfl, ⟨rfl, hd⟩, fun i v hi => let ⟨v', a, b, c⟩ := hv i v hi; ⟨v', a, b.mono hsub, c⟩, fun h0 => by cases h0⟩
    · rw [Heap.get_push_old _ _ hbn] at hb
      rw [Ren.put_ne _ _ _ hbn] at hρ
      rw [hsub.sz b cb' d' hρ]
      exact (H.obj b x cb' d' hb hρ).mono hsub
  · by_cases hbn : b = h.n
    · subst hbn; rw [Ren.put_same] at hρ; cases hρ; exact hlt
    · rw [Ren.put_ne _ _ _ hbn] at hρ; exact H.rng b cb' d' hρ
  · by_cases hbn : b = h.n
    · subst hbn
      rw [Heap.get_push_new] at hb
      cases hb; cases hrw
    · rw [Heap.get_push_old _ _ hbn] at hb
      rw [Ren.put_ne _ _ _ hbn] at hρ
      obtain ⟨k1, k2⟩ := H.own b x cb' d' hb hrw hρ
      refine ⟨k1, fun b' o' d'' hb' hl' hρ' => ?_⟩
      by_cases hbn' : b' = h.n
      · subst hbn'
        rw [Ren.put_same] at hρ'
        cases hρ'
        exact absurd hK k1
      · rw [Heap.get_push_old _ _ hbn'] at hb'
        rw [Ren.put_ne _ _ _ hbn'] at hρ'
        exact k2 b' o' d'' hb' hl' hρ'

/-- How many cells a block has. -/
def cellsOf (w : World) (cb : Nat) : Nat := match w.heap[cb]? with | some (.cells c _ _) => c.size | _ => 0
/-- Where a machine begins: nothing lies before it yet; whatever is there is to be kept. -/
def renOf (G : Nat) (w : World) : Ren := ⟨fun b => if b < G then some (b, 0) else none, cellsOf w⟩

theorem HR.start {w : World} {G : Nat} (hG : G ≤ w.heap.size) : HR G (fun i => i < w.heap.size) w (renOf G w) (Heap.new G) w := by
  have hget : ∀ b, (Heap.new G).get b = none := fun b => rfl
  refine ⟨rfl, rfl, rfl, fun i hi => ⟨hi, rfl⟩, fun b hb => ⟨rfl, ?_⟩, Nat.le_refl _, fun g hg => ?_, fun b o cb d hb => (by rw [hget] at hb; cases hb), fun b cb d hρ => ?_, fun b o cb d hb => (by rw [hget] at hb; cases hb), fun b e q hb => (by cases hb)⟩
  · show (if b < G then some (b, 0) else none) = none
    rw [if_neg (show ¬ b < G from Nat.not_lt.2 hb)]
  · show (if g < G then some (g, 0) else none) = some (g, 0)
    rw [if_pos hg]
  · have hρ : (if b < G then some (b, 0) else none) = some (cb, d) := hρ
    split at hρ
    · rename_i hb; cases hρ; omega
    · cases hρ

/-- The sizes that the machine was told are the blocks' own. -/
def Sized (w : World) (ρ : Ren) : Prop := ∀ b cb d, ρ b = some (cb, d) → ρ.sz cb = cellsOf w cb
theorem Sized.start {w : World} {G : Nat} : Sized w (renOf G w) := fun _ _ _ _ => rfl
theorem Sized.put {w : World} {ρ : Ren} (hs : Sized w ρ) {b cb d : Nat} {c : Array Value} {e : TypeId} {fz : Nat × Nat} (hc : w.heap[cb]? = some (.cells c e fz)) : Sized w (ρ.put b (cb, d) c.size) := by
  have hcc : cellsOf w cb = c.size := by simp [cellsOf, hc]
  intro b' cb' d' hρ
  by_cases hcb : cb' = cb
  · subst hcb; rw [hcc]; exact Ren.put_sz ρ b (cb', d) c.size
  · rw [Ren.put_sz_ne _ _ (cb, d) _ hcb]
    by_cases hb : b' = b
    · subst hb; rw [Ren.put_same] at hρ; cases hρ; exact absurd rfl hcb
    · rw [Ren.put_ne _ _ _ hb] at hρ; exact hs b' cb' d' hρ

theorem HR.layS (H : HR G K w0 ρ h w) (S : Sized w ρ) {cs : List AV} {cb d : Nat} {c : Array Value} {e : TypeId} {fz : Nat × Nat} (hK : K cb) (hc : w.heap[cb]? = some (.cells c e fz)) (hd : d + cs.length ≤ c.size)
    (hv : ∀ i v, cs[i]? = some v → ∃ v', c[d + i]? = some v' ∧ VR ρ v v' ∧ v.one = true) :
    ∃ ρ', ρ' h.n = some (cb, d) ∧ Sized w ρ' ∧ Nx ρ h ρ' (h.push (.cells cs false)) ∧ HR G K w0 ρ' (h.push (.cells cs false)) w := by
  have hcc : cellsOf w cb = c.size := by simp [cellsOf, hc]
  obtain ⟨h1, h2⟩ := H.lay hK hc (fun b' d' hb' => (S b' cb d' hb').trans hcc) hd hv
  exact ⟨_, Ren.put_same _ _ _ _, S.put hc, h1, h2⟩

end
end Go.Am

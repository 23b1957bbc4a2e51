/- The abstract machine, part 20: calls, and all of it together. -/
import Derived.Test.YtpanggiejiommaaGreatAm19
namespace Go.Am
set_option autoImplicit false
set_option linter.all false
open Go

section
variable {P : Program} {R : Type} {D : Dem R} {sat : R → Prop} {S : Sm R} {K : Nat → Prop} {w0 w : World} {ρ : Ren} {h : Heap}

def resStep (cts : Array Value) : ResultVar → Sem Value
  | .tmp t => pure (cts.getD t undef)
  | .cell a t => do loadVar t (← asAddr (cts.getD a undef))

theorem resA_run {cts : Array Value} {ts : List AV} (H : HR P.globals.size K w0 ρ h w) (ht : VRL ρ ts cts.toList) : ∀ {rs : List ResultVar} {vs : List AV}, resA P h ts rs = some vs →
    ∃ vs', (rs.mapM (resStep cts)).run P w = .ok vs' w ∧ VRL ρ vs vs' := by
  have hget : ∀ t, VR ρ (ts.getD t .un) (cts.getD t undef) := fun t => by
    rw [List.getD_eq_getElem?_getD, Array.getD_eq_getD_getElem?]
    cases hi : ts[t]? with
    | none =>
      have : cts[t]? = none := by
        have hl := ht.length
        rw [List.getElem?_eq_none_iff] at hi
        rw [Array.getElem?_eq_none_iff]
        have := Array.length_toList (xs := cts)
        omega
      rw [this]; exact VR.un
    | some v =>
      obtain ⟨v', h1, h2⟩ := ht.get hi
      rw [Array.getElem?_toList] at h1
      rw [h1]; exact h2
  intro rs
  induction rs with
  | nil => intro vs hv; cases hv; exact ⟨[], by simp, .nil⟩
  | cons r rs ih =>
    intro vs hv
    cases r with
    | tmp t =>
      simp only [resA] at hv
      obtain ⟨vs1, q1, q2⟩ := Option.map_eq_some_iff.1 hv
      subst q2
      obtain ⟨vs', r1, r2⟩ := ih q1
      refine ⟨cts.getD t undef :: vs', ?_, .cons _ _ _ _ (hget t) r2⟩
      rw [List.mapM_cons]
      simp only [resStep, Sem.run_bind, Sem.run_pure, Result.andThen_ok, r1]
    | cell a t =>
      simp only [resA] at hv
      have hg := hget a
      split at hv
      · rename_i b o hb
        rw [hb] at hg
        generalize hcv : cts.getD a undef = cv at hg
        cases hg with
        | ptr _ _ cb d hρ =>
          split at hv
          · rename_i x hx
            split at hv
            · rename_i v hl
              obtain ⟨vs1, q1, q2⟩ := Option.map_eq_some_iff.1 hv
              subst q2
              obtain ⟨vs', r1, r2⟩ := ih q1
              obtain ⟨v', l1, l2⟩ := loadA_run hl (H.obj b x cb d hx hρ)
              refine ⟨v' :: vs', ?_, .cons _ _ _ _ l2 r2⟩
              rw [List.mapM_cons]
              simp only [resStep, hcv, asAddr, pure_bind, Sem.run_bind, Sem.run_pure, Result.andThen_ok, l1, r1]
            · cases hv
          · cases hv
      · cases hv

theorem tupA_rel {vs : List AV} {vs' : Array Value} (h : VRL ρ vs vs'.toList) : VR ρ (tupA vs) (if h : vs'.size = 1 then vs'[0] else .tuple vs') := by
  have hl := h.length
  have hsz := Array.length_toList (xs := vs')
  match vs, h with
  | [v], h =>
    have h1 : vs'.size = 1 := by simp at hl; omega
    rw [dif_pos h1]
    obtain ⟨v', p1, p2⟩ := h.get (i := 0) (a := v) rfl
    rw [Array.getElem?_toList, Array.getElem?_eq_getElem (by omega)] at p1
    cases p1
    exact p2
  | [], h => rw [dif_neg (by simp at hl; omega)]; exact .tup _ _ h
  | a :: b :: l, h => rw [dif_neg (by simp at hl; omega)]; exact .tup _ _ h

theorem results_run {fn : Func} {cts : Array Value} {ts vs : List AV} (H : HR P.globals.size K w0 ρ h w) (ht : VRL ρ ts cts.toList) (hr : resA P h ts fn.results.toList = some vs) :
    ∃ v', (results fn cts).run P w = .ok v' w ∧ VR ρ (tupA vs) v' := by
  obtain ⟨vs', r1, r2⟩ := resA_run H ht hr
  refine ⟨_, ?_, tupA_rel (vs' := vs'.toArray) (by simpa using r2)⟩
  have he : results fn cts = (do let vs ← fn.results.mapM (resStep cts); pure (if h : vs.size = 1 then vs[0] else .tuple vs)) := rfl
  rw [he, Array.mapM_eq_mapM_toList]
  simp [r1]

theorem leaves_sound {fn : Func} {cts : Array Value} {ts : List AV} {k : AV → Heap → R} {Q : Ending → World → Prop} (hD : Sat D sat) (h0 : Heap) (ρ0 : Ren)
    (hk : ∀ ρ' v h' cv w', sat (k v h') → Nx ρ0 h0 ρ' h' → HR P.globals.size K w0 ρ' h' w' → VR ρ' v cv → Q (.returned cv) w') : ∀ (dfs : List Nat) (ds : List Deferred) (h : Heap) (w : World), VRL ρ ts cts.toList → Nx ρ0 h0 ρ h → HR P.globals.size K w0 ρ h w → ds.length = dfs.length →
    (∀ (i b : Nat), dfs[i]? = some b → ∃ cb, ρ b = some (cb, 0) ∧ ds[i]? = some { target := .collected cb, args := #[] }) →
    sat (match leaveA dfs h with
      | some h => match resA P h ts fn.results.toList with
        | some vs => k (tupA vs) h
        | none => D.no
      | none => D.no) → LeavesInM Fence.wide 0 P fn cts Q ds .returning w
  | [], [], h, w, ht, N, H, _, _, hs => by
    simp only [leaveA] at hs
    split at hs
    · rename_i vs hr
      obtain ⟨v', r1, r2⟩ := results_run H ht hr
      exact ⟨v', r1, hk ρ _ h v' w hs N H r2⟩
    · exact (hD.no hs).elim
  | [], d :: ds, _, _, _, _, _, hl, _, _ => by simp at hl
  | b :: dfs, [], _, _, _, _, _, hl, _, _ => by simp at hl
  | b :: dfs, d :: ds, h, w, ht, N, H, hl, hdf, hs => by
    obtain ⟨cb, c1, c2⟩ := hdf 0 b rfl
    simp only [List.getElem?_cons_zero, Option.some.injEq] at c2
    subst c2
    simp only [leaveA] at hs
    cases hb : h.get b with
    | none => rw [hb] at hs; exact (hD.no hs).elim
    | some x =>
      rw [hb] at hs
      cases x with
      | dfr =>
        obtain ⟨o1, _⟩ := H.obj b _ cb 0 hb c1
        have hset := setMap (P := P) (o' := .deferred none) o1 (fun _ _ _ h => by cases h)
        have H' := H.setObj (o := .gone) (o' := .deferred none) hb rfl c1 trivial
        refine ⟨by simp, .inl ⟨cb, { w with heap := w.heap.setIfInBounds cb (.deferred none) }, rfl, ?_, leaves_sound hD h0 ρ0 hk dfs ds (h.set b .gone) _ ht (N.more (Nat.le_refl _)) H' (by simpa using hl) (fun i b hi => by simpa using hdf (i + 1) b (by simpa using hi)) hs⟩⟩
        simp [Instr.takeDeferred, getObj, Sem.run, o1, hset]
      | _ => exact (hD.no hs).elim

set_option maxHeartbeats 1000000 in
theorem caF_sound (hD : Sat D sat) (hS : Snd P sat S) (f : FuncId) (args : List AV) (h : Heap) (k : AV → Heap → R) (K : Nat → Prop) (w0 : World) (ρ : Ren) (w : World) (cargs : Array Value) (Q : Ending → World → Prop)
    (hs : sat (caF P D S f args h k)) (H : HR P.globals.size K w0 ρ h w) (ha : VRL ρ args cargs.toList)
    (hk : ∀ ρ' v h' cv w', sat (k v h') → Nx ρ h ρ' h' → HR P.globals.size K w0 ρ' h' w' → VR ρ' v cv → Q (.returned cv) w') : CallsIn Fence.wide 0 P f cargs w Q := by
  unfold caF at hs
  split at hs
  · rename_i fn hf
    split at hs
    · rename_i c hb
      split at hs
      · exact (hD.no hs).elim
      · refine callsIn_of_wp_marks hf hb trivial ?_
        have hsz : cargs.size = args.length := by rw [ha.length]; simp
        refine hS.ex c _ h _ K w0 ρ w none _ _ hs H ⟨?_, rfl, fun i b hb => by simp at hb, trivial⟩ ?_
        · rw [Array.toList_append, Array.toList_replicate, hsz]
          exact ha.append (VRL.replicate _ VR.un)
        · intro ρ1 e a1 h1 ca1 w1 hs1 N1 H1 A1
          have key := fun hs => leaves_sound (fn := fn) hD h ρ hk a1.dfs ca1.defers h1 w1 A1.tmps N1 H1 A1.len A1.dfs hs
          cases e with
          | normal => exact key hs1
          | ret => exact key hs1
          | exit _ => exact (hD.no hs1).elim
          | goto _ => exact (hD.no hs1).elim
    · exact (hD.no hs).elim
  · exact (hD.no hs).elim

/-- What the machine says, at whatever fuel, is so. -/
theorem sm_sound (hD : Sat D sat) (hm : P.follows .mixedOrders = true) : ∀ n : Nat, Snd P sat (sm P D n) ∧ LSnd P sat (sm P D n) := by
  intro n
  induction n with
  | zero => exact ⟨⟨fun _ _ _ _ _ _ _ _ _ _ _ hs => (hD.no hs).elim, fun _ _ _ _ _ _ _ _ _ _ hs => (hD.no hs).elim, fun _ _ _ _ hs => (hD.no hs).elim⟩, fun _ _ _ _ _ _ _ _ _ _ _ hs => (hD.no hs).elim⟩
  | succ n ih =>
    obtain ⟨hS, hL⟩ := ih
    refine ⟨⟨exF_sound hD hS hL hm, caF_sound hD hS, fun f args h k hs => ?_⟩, loop_sound (D := D) hS hL⟩
    have hs : sat (caF P D (sm P D n) f args h k) := hs
    unfold caF at hs
    split at hs
    · rename_i fn hf
      split at hs
      · rename_i c hb
        split at hs
        · exact (hD.no hs).elim
        · rename_i hn
          exact ⟨fn, c, hf, hb, by simpa using hn⟩
      · exact (hD.no hs).elim
    · exact (hD.no hs).elim

end

end Go.Am

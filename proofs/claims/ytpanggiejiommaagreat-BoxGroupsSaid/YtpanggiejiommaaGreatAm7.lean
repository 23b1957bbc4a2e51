/- The abstract machine, part 7: aggregates, slices and addresses, as the model has them. -/
import Derived.Test.YtpanggiejiommaaGreatAm6
namespace Go.Am
set_option autoImplicit false
set_option linter.all false

section
variable {P : Program} {ρ : Ren}

theorem zero_of {t : TypeId} {z : AV} (h : zeroT P t = some z) : ∃ z', (∀ w, (zeroValue t).run P w = .ok z' w) ∧ VR ρ z z' := by
  unfold zeroT at h
  cases hi : P.info? t with
  | none => rw [hi] at h; cases h
  | some i =>
    rw [hi] at h
    simp only [Option.bind_some, Option.map_eq_some_iff] at h
    obtain ⟨z', hz, rfl⟩ := h
    exact ⟨z', fun w => by simp [zeroValue, typeInfo, hi, hz], ofV_rel 4 z'⟩

theorem partA_run {t : TypeId} {cs : List AV} {cs' : List Value} {off : Nat} {v : AV} (h : partA P t cs off = some v) (hc : VRL ρ cs cs') :
    ∃ v', (∀ w, (part t cs'.toArray off).run P w = .ok v' w) ∧ VR ρ v v' := by
  unfold partA at h
  cases ha : aggT P t with
  | none => rw [ha] at h; simp at h
  | some b =>
    cases hs : sizeT P t with
    | none => rw [ha, hs] at h; cases b <;> simp at h
    | some s =>
      rw [ha, hs] at h
      cases b with
      | true =>
        simp only at h
        split at h
        · rename_i hl
          simp only [Option.some.injEq] at h
          subst h
          refine ⟨.agg ((cs'.drop off).take s).toArray, fun w => ?_, .agg _ _ (by simpa using (hc.drop off).take s)⟩
          simp [part, run_isAgg ha, run_sizeT hs, List.extract]
        · cases h
      | false =>
        simp only at h
        obtain ⟨v', hv, hr⟩ := hc.get h
        refine ⟨v', fun w => ?_, hr⟩
        have hg : cs'.toArray[off]? = some v' := by rw [List.getElem?_toArray]; exact hv
        simp only [part, Sem.run_bind, run_isAgg ha, Result.andThen_ok, Bool.false_eq_true, if_false, hg, Sem.run_pure]

theorem setMany (vs : List Value) (off : Nat) : ∀ (k : Nat) (cs : List Value), off + k + vs.length ≤ cs.length →
    (vs.zipIdx k).foldl (fun (c : Array Value) (p : Value × Nat) => c.setIfInBounds (off + p.2) p.1) cs.toArray = (cs.take (off + k) ++ vs ++ cs.drop (off + k + vs.length)).toArray := by
  induction vs with
  | nil => intro k cs h; simp
  | cons v vs ih =>
    intro k cs h
    simp only [List.length_cons] at h
    simp only [List.zipIdx_cons, List.foldl_cons, List.setIfInBounds_toArray]
    rw [ih (k + 1) _ (by simp; omega)]
    congr 1
    have e1 : (cs.set (off + k) v).take (off + (k + 1)) = cs.take (off + k) ++ [v] := by
      rw [List.take_set, show off + (k + 1) = (off + k) + 1 from by omega, List.take_succ_eq_append_getElem (by omega : off + k < cs.length)]
      rw [List.set_append_right _ _ (by simp; omega)]
      simp [Nat.min_eq_left (show off + k ≤ cs.length by omega)]
    have e2 : (cs.set (off + k) v).drop (off + (k + 1) + vs.length) = cs.drop (off + k + (v :: vs).length) := by
      rw [List.drop_set_of_lt (by omega)]
      congr 1
      simp only [List.length_cons]; omega
    rw [e1, e2]
    simp

theorem fillA_run (place : Nat → Option (Nat × Nat)) {parts : List (Nat × AV)} {parts' : List (Nat × Value)} (hp : parts.map (·.1) = parts'.map (·.1)) (hv : VRL ρ (parts.map (·.2)) (parts'.map (·.2))) :
    ∀ {cs r : List AV} {cs' : List Value}, fillA place cs parts = some r → VRL ρ cs cs' → ∃ r', Instr.fill place cs'.toArray parts' = some r' ∧ VRL ρ r r'.toList := by
  induction parts generalizing parts' with
  | nil =>
    intro cs r cs' h hc
    cases parts' with
    | cons => simp at hp
    | nil =>
      simp only [fillA, Option.some.injEq] at h
      subst h
      exact ⟨cs'.toArray, rfl, by simpa using hc⟩
  | cons p parts ih =>
    intro cs r cs' h hc
    cases parts' with
    | nil => simp at hp
    | cons p' parts' =>
      obtain ⟨i, v⟩ := p
      obtain ⟨i', v'⟩ := p'
      simp only [List.map_cons, List.cons.injEq] at hp
      obtain ⟨rfl, hp⟩ := hp
      simp only [List.map_cons] at hv
      cases hv with
      | cons _ _ _ _ hv1 hv2 =>
        simp only [fillA] at h
        simp only [Instr.fill]
        cases hpl : place i with
        | none => rw [hpl] at h; cases h
        | some q =>
          obtain ⟨off, size⟩ := q
          rw [hpl] at h
          simp only at h ⊢
          split at h
          · rename_i hcond
            obtain ⟨c1, c2, c3⟩ := hcond
            have hcells := hv1.cells c3
            have hlen : v'.cells.size = size := by rw [← Array.length_toList, ← hcells.length, c1]
            have hcl := hc.length
            have e1 : (decide (v'.cells.size ≠ size) || decide (off + v'.cells.size > cs'.toArray.size)) = false := by simp [hlen]; omega
            simp only [e1, Bool.false_eq_true, if_false]
            have e2 : v'.cells.zipIdx.foldl (fun cs (x : Value × Nat) => cs.setIfInBounds (off + x.2) x.1) cs'.toArray = (cs'.take off ++ v'.cells.toList ++ cs'.drop (off + size)).toArray := by
              rw [← Array.foldl_toList, Array.toList_zipIdx]
              have := setMany v'.cells.toList off 0 cs' (by rw [Array.length_toList, hlen]; omega)
              simpa [hlen] using this
            obtain ⟨r', h1, h2⟩ := ih hp hv2 h (((hc.take off).append hcells).append (hc.drop (off + size)))
            exact ⟨r', by rw [← h1]; congr 1, h2⟩
          · cases h

theorem places_run {fs : List Field} {pl : List (Nat × Nat)} (h : placesT P fs = some pl) (w : World) : (fs.mapM (fun f => do pure (f.offset, ← sizeOf f.type) : Field → Sem (Nat × Nat))).run P w = .ok pl w := by
  induction fs generalizing pl with
  | nil => simp [placesT] at h; subst h; simp
  | cons f fs ih =>
    unfold placesT at h ih
    rw [List.mapM_cons] at h
    simp only [bind, Option.bind_eq_some_iff, Option.map_eq_some_iff, pure, Option.some.injEq] at h
    obtain ⟨a, ⟨s, hs, rfl⟩, pl', hpl, rfl⟩ := h
    rw [List.mapM_cons]
    simp only [Sem.run_bind, run_sizeT hs, Result.andThen_ok, Sem.run_pure, ih hpl]

theorem buildA_run {t : TypeId} {parts : List (Nat × AV)} {parts' : List (Nat × Value)} {r : AV} (h : buildA P t parts = some r) (hp : parts.map (·.1) = parts'.map (·.1)) (hv : VRL ρ (parts.map (·.2)) (parts'.map (·.2))) :
    ∃ r', (∀ w, (Instr.build t parts'.toArray).run P w = .ok r' w) ∧ VR ρ r r' := by
  unfold buildA at h
  cases hz : zeroT P t with
  | none => rw [hz] at h; cases h
  | some z =>
    rw [hz] at h
    simp only at h
    split at h
    · rename_i hone
      obtain ⟨z', hz1, hz2⟩ := zero_of (ρ := ρ) hz
      have hzc := hz2.cells hone
      cases hu : P.underlying t with
      | none => rw [hu] at h; cases h
      | some d =>
        rw [hu] at h
        cases d <;> simp only [reduceCtorEq] at h
        case struct fs =>
          cases hpl : placesT P fs.toList with
          | none => rw [hpl] at h; cases h
          | some pl =>
            rw [hpl] at h
            simp only [Option.map_eq_some_iff] at h
            obtain ⟨cs, hf, rfl⟩ := h
            obtain ⟨r', h1, h2⟩ := fillA_run (fun i => pl[i]?) hp hv hf hzc
            refine ⟨.agg r', fun w => ?_, .agg _ _ h2⟩
            have hm : (fs.mapM (fun f => do pure (f.offset, ← sizeOf f.type) : Field → Sem (Nat × Nat))).run P w = .ok pl.toArray w := by
              rw [Array.mapM_eq_mapM_toList]
              have := places_run hpl w
              simp only [Sem.run_map, this, Result.andThen_ok]
            have h1' : Instr.fill (fun x => pl[x]?) z'.cells parts' = some r' := by simpa using h1
            simp only [Instr.build, Sem.run_bind, hz1, Result.andThen_ok, run_underlying hu, hm, List.getElem?_toArray, h1', Sem.run_pure]
        case array n e =>
          cases hs : sizeT P e with
          | none => rw [hs] at h; cases h
          | some s =>
            rw [hs] at h
            simp only [Option.map_eq_some_iff] at h
            obtain ⟨cs, hf, rfl⟩ := h
            obtain ⟨r', h1, h2⟩ := fillA_run (fun i => some (i * s, s)) hp hv hf hzc
            refine ⟨.agg r', fun w => ?_, .agg _ _ h2⟩
            have h1' : Instr.fill (fun i => some (i * s, s)) z'.cells parts' = some r' := by simpa using h1
            simp only [Instr.build, Sem.run_bind, hz1, Result.andThen_ok, run_underlying hu, run_sizeT hs, h1', Sem.run_pure]
    · cases h

end
end Go.Am

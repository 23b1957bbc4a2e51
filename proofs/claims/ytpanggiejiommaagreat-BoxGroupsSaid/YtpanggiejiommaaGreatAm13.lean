/- The abstract machine, part 13: iterators, calls and rounds, shown of the model's steps. -/
import Derived.Test.YtpanggiejiommaaGreatAm12
namespace Go.Am
set_option autoImplicit false
set_option linter.all false
open Go

section
variable {P : Program} {G : Nat} {K : Nat → Prop} {w0 w : World} {ρ : Ren} {h : Heap} {R : Type} {D : Dem R} {sat : R → Prop}

theorem ERL.filter {es : List AEntry} {es' : List MapEntry} (he : ERL ρ es es') {p : AEntry → Bool} {p' : MapEntry → Bool} (hp : ∀ e e', ER ρ e e' → p e = p' e') : ERL ρ (es.filter p) (es'.filter p') := by
  induction he with
  | nil => exact .nil
  | cons e e' es es' h _ ih =>
    rw [List.filter_cons, List.filter_cons, hp e e' h]
    split
    · exact .cons _ _ _ _ h ih
    · exact ih
theorem ERL.mem' {es : List AEntry} {es' : List MapEntry} (he : ERL ρ es es') {e' : MapEntry} (hm : e' ∈ es') : ∃ e ∈ es, ER ρ e e' := by
  induction he with
  | nil => cases hm
  | cons e x es es' h _ ih =>
    rcases List.mem_cons.1 hm with rfl | hm
    · exact ⟨e, by simp, h⟩
    · obtain ⟨y, h1, h2⟩ := ih hm; exact ⟨y, by simp [h1], h2⟩
theorem ERL.all {es : List AEntry} {es' : List MapEntry} (he : ERL ρ es es') {p : AEntry → Bool} {p' : MapEntry → Bool} (hp : ∀ e e', ER ρ e e' → p e = p' e') : es.all p = es'.all p' := by
  induction he with
  | nil => rfl
  | cons e e' es es' h _ ih => simp [hp e e' h, ih]
theorem ERL.isEmpty {es : List AEntry} {es' : List MapEntry} (he : ERL ρ es es') : es.isEmpty = es'.isEmpty := by cases he <;> rfl
theorem ERL.find {es : List AEntry} {es' : List MapEntry} (he : ERL ρ es es') {p : AEntry → Bool} {p' : MapEntry → Bool} (hp : ∀ e e', ER ρ e e' → p e = p' e') {e : AEntry} (hf : es.find? p = some e) : ∃ e', es'.find? p' = some e' ∧ ER ρ e e' := by
  induction he with
  | nil => cases hf
  | cons x x' es es' h _ ih =>
    rw [List.find?_cons] at hf ⊢
    rw [← hp x x' h]
    cases hx : p x with
    | true => rw [hx] at hf; cases hf; exact ⟨x', rfl, h⟩
    | false => rw [hx] at hf; exact ih hf

theorem run_chooseNext (n : Nat) (w : World) : ∃ i w', (choose (.mapNext n)).run P w = .ok i w' ∧ (0 < n → i < n) ∧ (w' = w ∨ w' = w.drew) := by
  by_cases hn : n ≤ 1
  · exact ⟨0, w, by unfold choose; rw [Sem.run, if_pos (by simpa [Question.forced] using hn), Sem.run], fun h => h, .inl rfl⟩
  · exact ⟨w.tape w.drawn (.mapNext n) % n, w.drew, by unfold choose; rw [Sem.run, if_neg (by simpa [Question.forced] using hn), Sem.run]; rfl, fun h => Nat.mod_lt _ h, .inr rfl⟩

/-- What is shown of an operation that comes to one end at a time. -/
def StepOk (P : Program) (G : Nat) (K : Nat → Prop) (w0 : World) (ρ : Ren) (h : Heap) (s : Sem Value) (w : World) (g : AV → Heap → Prop) : Prop :=
  ∃ ρ' v h' v' w', g v h' ∧ s.run P w = .ok v' w' ∧ Nx ρ h ρ' h' ∧ VR ρ' v v' ∧ HR G K w0 ρ' h' w'

set_option maxHeartbeats 2000000 in
theorem nextF_sound (hD : Sat D sat) (H : HR G K w0 ρ h w) {it : AV} {it' : Value} {isS : Bool} {ty : TypeId} {k : AV → Heap → R} (hs : sat (nextF D it isS h k)) (hit : VR ρ it it') :
    StepOk P G K w0 ρ h (Instr.next it' isS ty) w (fun v h' => sat (k v h')) := by
  unfold nextF at hs
  split at hs
  · rename_i r
    cases hit with
    | ptr _ _ cb d hρ =>
      split at hs
      · -- a string
        rename_i s pos hr
        obtain ⟨ba, h1, h2, h3⟩ := H.obj r _ cb d hr hρ
        subst h3
        have hg : (getObj cb).run P w = .ok (.stringIter ba pos) w := by simp [getObj, Sem.run, h1]
        have hsz : ba.size = s.length := by rw [← h2, Array.length_toList]; rfl
        have hba : (⟨s.toArray⟩ : ByteArray) = ba := by rw [← h2, Array.toArray_toList]
        split at hs
        · rename_i hlt
          rw [hba] at hs
          refine ⟨ρ, _, _, .tuple #[.bool true, goInt pos, .int .i32 (Utf8.decode ba pos).1], { w with heap := w.heap.setIfInBounds cb (.stringIter ba (pos + (Utf8.decode ba pos).2)) }, hs, ?_, Nx.same (Nat.le_refl _), ?_, ?_⟩
          · have hset := setMap (P := P) (o' := .stringIter ba (pos + (Utf8.decode ba pos).2)) h1 (fun _ _ _ h => by cases h)
            simp only [Instr.next, Nat.zero_add, Sem.run_bind, hg, Result.andThen_ok, hsz, hlt, if_true, hset, Sem.run_pure]
          · exact .tup _ _ (.cons _ _ _ _ (.bool _) (.cons _ _ _ _ (.int _ _) (.cons _ _ _ _ (.int _ _) .nil)))
          · exact H.setObj hr rfl hρ ⟨ba, rfl, h2, rfl⟩
        · rename_i hlt
          refine ⟨ρ, _, _, .tuple #[.bool false], w, hs, ?_, Nx.refl _ _, .tup _ _ (.cons _ _ _ _ (.bool _) .nil), H⟩
          simp only [Instr.next, Nat.zero_add, Sem.run_bind, hg, Result.andThen_ok, hsz, hlt, if_false, Sem.run_pure]
      · -- no map
        rename_i since seen last hr
        obtain ⟨m', seen', h1, h2, h3, h4⟩ := H.obj r _ cb d hr hρ
        subst h3
        cases m' with
        | some _ => exact h4.elim
        | none =>
          have hg : (getObj cb).run P w = .ok (.mapIter none since seen' last) w := by simp [getObj, Sem.run, h1]
          refine ⟨ρ, _, _, .tuple #[.bool false], w, hs, ?_, Nx.refl _ _, .tup _ _ (.cons _ _ _ _ (.bool _) .nil), H⟩
          simp only [Instr.next, Nat.zero_add, Sem.run_bind, hg, Result.andThen_ok, Sem.run_pure]
      · -- a map
        rename_i m since seen last hr
        obtain ⟨m', seen', h1, h2, h3, h4⟩ := H.obj r _ cb d hr hρ
        subst h3
        cases m' with
        | none => exact h4.elim
        | some cm =>
          obtain ⟨dm, hm⟩ := h4
          have hg : (getObj cb).run P w = .ok (.mapIter (some cm) since seen' last) w := by simp [getObj, Sem.run, h1]
          split at hs
          · rename_i es clock hes
            obtain ⟨es', g1, g2⟩ := H.obj m _ cm dm hes hm
            have hgm := getMap (P := P) g1
            unfold nextM at hs
            split at hs
            · exact (hD.no hs).elim
            · rename_i hun
              dsimp only at hs
              have hcontains : ∀ n : Nat, seen'.contains n = seen.contains n := fun n => by rw [← h2]; simp
              have hse : seen'.isEmpty = seen.isEmpty := by rw [← h2]; simp
              have hall : es'.all (fun e => decide (e.born ≥ last)) = es.all (fun e => decide (last ≤ e.born)) := by
                rw [← Array.all_toList]; exact (g2.all fun e e' h => by rw [h.born]).symm
              have hee : es'.isEmpty = es.isEmpty := by rw [g2.isEmpty]; simp
              have hun' : (!seen'.isEmpty && !es'.isEmpty && es'.all (fun e => decide (e.born ≥ last))) = false := by rw [hse, hee, hall]; simpa using hun
              have hleft : ERL ρ (es.filter fun e => !seen.contains e.born) (es'.filter fun e => !seen'.contains e.born).toList := by
                rw [Array.toList_filter]; exact g2.filter fun e e' h => by rw [h.born, hcontains]
              generalize hleft' : (es'.filter fun e => !seen'.contains e.born) = left' at hleft
              generalize hleft2 : (es.filter fun e => !seen.contains e.born) = left at hleft hs
              have hold : ERL ρ (left.filter fun e => decide (e.born < since)) (left'.filter fun e => decide (e.born < since)).toList := by
                rw [Array.toList_filter]; exact hleft.filter fun e e' h => by rw [h.born]
              have hnew : ERL ρ (left.filter fun e => decide (since ≤ e.born)) (left'.filter fun e => decide (e.born ≥ since)).toList := by
                rw [Array.toList_filter]; exact hleft.filter fun e e' h => by rw [h.born]
              generalize ho' : (left'.filter fun e => decide (e.born < since)) = old' at hold
              generalize hn' : (left'.filter fun e => decide (e.born ≥ since)) = new' at hnew
              generalize ho2 : (left.filter fun e => decide (e.born < since)) = old at hold hs
              generalize hn2 : (left.filter fun e => decide (since ≤ e.born)) = new at hnew hs
              obtain ⟨i, w1, c1, c2, c3⟩ := run_chooseNext (P := P) ((if old'.isEmpty then #[none] else #[]) ++ (old' ++ new').map some).size w
              have Hw1 : HR G K w0 ρ h w1 := by rcases c3 with rfl | rfl <;> first | exact H | exact H.drew
              have hw1 : w1.heap = w.heap := by rcases c3 with rfl | rfl <;> rfl
              have hoe : old'.isEmpty = old.isEmpty := by rw [hold.isEmpty]; simp
              have hpos : 0 < ((if old'.isEmpty then #[none] else #[]) ++ (old' ++ new').map some).size := by
                cases hoe' : old'.isEmpty with
                | true => simp; try omega
                | false =>
                  have : 0 < old'.size := by
                    cases hz : old'.size with
                    | zero => rw [Array.eq_empty_of_size_eq_zero hz] at hoe'; cases hoe'
                    | succ n => omega
                  simp; try omega
              have hi := c2 hpos
              have key := hD.all _ hs
              have hrun : ∀ x, ((if old'.isEmpty then #[none] else #[]) ++ (old' ++ new').map some)[i]? = some x → (Instr.next (.pointer (some ⟨cb, 0, none⟩)) false ty).run P w =
                  (match x with
                   | some e => do setObj cb (.mapIter (some cm) since (seen'.push e.born) clock); pure (Value.tuple #[.bool true, e.key, e.val])
                   | none => (pure (Value.tuple #[.bool false]) : Sem Value)).run P w1 := by
                intro x hx
                simp only [Instr.next, Sem.run_bind, hg, Result.andThen_ok, hgm, hun', Bool.false_eq_true, if_false, hleft', ho', hn', Sem.run_pure, c1, hx]
                cases x <;> simp
              obtain ⟨x, hx⟩ : ∃ x, ((if old'.isEmpty then #[none] else #[]) ++ (old' ++ new').map some)[i]? = some x := ⟨_, Array.getElem?_eq_getElem hi⟩
              have hxm := Array.mem_of_getElem? hx
              rw [Nat.zero_add, StepOk]
              cases x with
              | none =>
                have : old'.isEmpty = true := by
                  rw [Array.mem_append] at hxm
                  rcases hxm with hxm | hxm
                  · cases hoe' : old'.isEmpty with
                    | true => rfl
                    | false => rw [hoe'] at hxm; simp at hxm
                  · simp at hxm
                have h5 := key (k (.tup [.bool false]) h) (by rw [← hoe, this]; simp)
                exact ⟨ρ, _, _, .tuple #[.bool false], w1, h5, by rw [hrun _ hx]; simp, Nx.refl _ _, .tup _ _ (.cons _ _ _ _ (.bool _) .nil), Hw1⟩
              | some e' =>
                have hmem : e' ∈ (old' ++ new').toList := by
                  rw [Array.mem_append] at hxm
                  rcases hxm with hxm | hxm
                  · cases hoe' : old'.isEmpty <;> rw [hoe'] at hxm <;> simp at hxm
                  · simpa using hxm
                rw [Array.toList_append] at hmem
                obtain ⟨e, e1, e2⟩ := (hold.append hnew).mem' hmem
                have h5 := key _ (List.mem_append.2 (.inr (List.mem_map.2 ⟨e, e1, rfl⟩)))
                have hset := setMap (P := P) (w := w1) (o' := .mapIter (some cm) since (seen'.push e'.born) clock) (by rw [hw1]; exact h1) (fun _ _ _ h => by cases h)
                refine ⟨ρ, _, _, .tuple #[.bool true, e'.key, e'.val], { w1 with heap := w1.heap.setIfInBounds cb (.mapIter (some cm) since (seen'.push e'.born) clock) }, h5, by rw [hrun _ hx]; simp only [Sem.run_bind, hset, Result.andThen_ok, Sem.run_pure], Nx.same (Nat.le_refl _), .tup _ _ (.cons _ _ _ _ (.bool _) (.cons _ _ _ _ e2.key (.cons _ _ _ _ e2.val .nil))), ?_⟩
                exact Hw1.setObj hr rfl hρ ⟨some cm, seen'.push e'.born, rfl, by rw [Array.toList_push, h2, e2.born], rfl, dm, hm⟩
          · exact (hD.no hs).elim
      · exact (hD.no hs).elim
  · exact (hD.no hs).elim

theorem entryF_sound (hD : Sat D sat) (H : HR G K w0 ρ h w) {it : AV} {it' : Value} {k : AV → Heap → R} (hs : sat (entryF D it h k)) (hit : VR ρ it it') :
    StepOk P G K w0 ρ h (Instr.entry it') w (fun v h' => sat (k v h')) := by
  unfold entryF at hs
  split at hs
  · rename_i r
    cases hit with
    | ptr _ _ cb d hρ =>
      split at hs
      · rename_i m since seen last hr
        obtain ⟨m', seen', h1, h2, h3, h4⟩ := H.obj r _ cb d hr hρ
        subst h3
        cases m' with
        | none => exact h4.elim
        | some cm =>
          obtain ⟨dm, hm⟩ := h4
          have hg : (getObj cb).run P w = .ok (.mapIter (some cm) since seen' last) w := by simp [getObj, Sem.run, h1]
          split at hs
          · rename_i es clock stamp hes hlast
            obtain ⟨es', g1, g2⟩ := H.obj m _ cm dm hes hm
            have hgm := getMap (P := P) g1
            have hback : seen'.back? = some stamp := by rw [← hlast, ← h2]; simp
            split at hs
            · rename_i hc
              split at hs
              · rename_i e hf
                obtain ⟨e', f1, f2⟩ := g2.find (p' := fun e => e.born == stamp) (fun e e' h => by rw [h.born]; rfl) hf
                refine ⟨ρ, _, _, .tuple #[e'.key, e'.val], w, hs, ?_, Nx.refl _ _, .tup _ _ (.cons _ _ _ _ f2.key (.cons _ _ _ _ f2.val .nil)), H⟩
                have f1' : es'.find? (fun e => e.born == stamp) = some e' := by rw [← Array.find?_toList]; exact f1
                have hne : (clock != last) = false := by simp [hc]
                simp only [Instr.entry, Nat.zero_add, Sem.run_bind, hg, Result.andThen_ok, hback, hgm, hne, Bool.false_eq_true, if_false, Sem.run_pure, f1']
              · exact (hD.no hs).elim
            · exact (hD.no hs).elim
          · exact (hD.no hs).elim
      · exact (hD.no hs).elim
  · exact (hD.no hs).elim

end
end Go.Am

/- The abstract machine, part 10: the operations that change memory, as the model has them. -/
import Derived.Test.YtpanggiejiommaaGreatAm9
import Derived.Laws.CopyRow
namespace Go.Am
set_option autoImplicit false
set_option linter.all false

section
variable {P : Program} {ρ : Ren} {G : Nat} {K : Nat → Prop} {w0 : World} {h : Heap} {w : World} {ev : Operand → AV} {cev : Operand → Value}

theorem setL_length (cs : List AV) (o : Nat) (vs : List AV) (hl : o + vs.length ≤ cs.length) : (setL cs o vs).length = cs.length := by
  simp [setL]; omega

theorem get_seg {α : Type} (l vs : List α) (o i : Nat) (hl : o + vs.length ≤ l.length) :
    (l.take o ++ vs ++ l.drop (o + vs.length))[i]? = if i < o then l[i]? else if i < o + vs.length then vs[i - o]? else l[i]? := by
  by_cases h1 : i < o
  · rw [if_pos h1, List.append_assoc, List.getElem?_append_left (by simp; omega), List.getElem?_take_of_lt h1]
  · rw [if_neg h1, List.append_assoc, List.getElem?_append_right (by simp; omega)]
    have e : i - (l.take o).length = i - o := by simp; omega
    rw [e]
    by_cases h2 : i < o + vs.length
    · rw [if_pos h2, List.getElem?_append_left (by omega)]
    · rw [if_neg h2, List.getElem?_append_right (by omega), List.getElem?_drop]
      congr 1; omega

theorem setRow_get (w : World) (g : Nat) (c c' : Array Value) (t : TypeId) (fr : Nat × Nat) (hg : w.heap[g]? = some (.cells c t fr)) : (w.setRow g c').heap[g]? = some (.cells c' t fr) := setRow_heap w g c c' t fr hg
theorem setRow_other (w : World) (g : Nat) (c' : Array Value) (i : Nat) (h : i ≠ g) : (w.setRow g c').heap[i]? = w.heap[i]? := by
  simp only [World.setRow, Array.getElem?_modify]
  rw [if_neg (by omega)]
theorem setRow_size (w : World) (g : Nat) (c' : Array Value) : (w.setRow g c').heap.size = w.heap.size := by simp [World.setRow]

theorem writeCells (H : HR G K w0 ρ h w) {b o cb d : Nat} {cs vs : List AV} {vs' : List Value} (hb : h.get b = some (.cells cs true)) (hρ : ρ b = some (cb, d)) (hv : VRL ρ vs vs') (h1 : vs.all AV.one = true)
    (hl : o + vs.length ≤ cs.length) : ∃ w', (storeCells ⟨cb, o + d, none⟩ vs').run P w = .ok () w' ∧ HR G K w0 ρ (h.set b (.cells (setL cs o vs) true)) w' := by
  obtain ⟨c, e, fz, k1, ⟨k0, k0'⟩, k2, k3⟩ := H.obj b _ cb d hb hρ
  have hfz := k3 rfl
  subst hfz
  have hvl := hv.length
  have hone : ∀ v ∈ vs', v.oneCell' = true := by
    intro v hm
    obtain ⟨i, hi, he⟩ := List.getElem_of_mem hm
    have ha : vs[i]? = some vs[i] := List.getElem?_eq_getElem (by omega)
    obtain ⟨v', r1, r2⟩ := hv.get ha
    rw [List.getElem?_eq_getElem hi, he] at r1
    cases r1
    exact r2.one (List.all_eq_true.1 h1 _ (List.mem_of_getElem? ha))
  have hst := run_storeCells_at P cb (o + d) e vs' 0 c w k1 (by omega) hone
  refine ⟨_, hst, H.set _ hb rfl hρ rfl rfl rfl (by rw [setRow_size]; exact Nat.le_refl _) (fun i _ hi => setRow_other w cb _ i hi) ?_ (fun c' e' fz' h' => by rw [k1] at h'; cases h'; exact ⟨_, _, setRow_get w cb c _ e (0, 0) k1⟩)⟩
  refine ⟨_, e, (0, 0), setRow_get w cb c _ e (0, 0) k1, ⟨by show List.length _ = _; simp only [List.length_append, List.length_take, List.length_drop, Array.length_toList]; omega, by rw [setL_length _ _ _ hl]; omega⟩, fun i v hiv => ?_, fun _ => rfl⟩
  rw [setL, get_seg _ _ _ _ hl] at hiv
  simp only [Nat.add_zero, List.getElem?_toArray]
  have hcl : o + d + vs'.length ≤ c.toList.length := by have := Array.length_toList (xs := c); omega
  rw [get_seg _ _ _ _ hcl]
  by_cases q1 : i < o
  · rw [if_pos q1] at hiv
    rw [if_pos (by omega), Array.getElem?_toList]
    exact k2 i v hiv
  · rw [if_neg q1] at hiv
    by_cases q2 : i < o + vs.length
    · rw [if_pos q2] at hiv
      rw [if_neg (by omega), if_pos (by omega)]
      obtain ⟨v', r1, r2⟩ := hv.get hiv
      refine ⟨v', ?_, r2, List.all_eq_true.1 h1 _ (List.mem_of_getElem? hiv)⟩
      rw [← r1]; congr 1; omega
    · rw [if_neg q2] at hiv
      rw [if_neg (by omega), if_neg (by omega), Array.getElem?_toList]
      exact k2 i v hiv

/-- What is shown of an operation that changes memory. -/
def EffOk (P : Program) (G : Nat) (K : Nat → Prop) (w0 : World) (ρ : Ren) (h : Heap) (cev : Operand → Value) (o : Oper) (w : World) (v : AV) (h' : Heap) : Prop :=
  ∃ ρ' v' w', ((execOp cev o).run P w = .ok (.value v') w' ∨ ((execOp cev o).run P w = .ok .skip w' ∧ v' = undef)) ∧ Nx ρ h ρ' h' ∧ VR ρ' v v' ∧ HR G K w0 ρ' h' w'

theorem eff_value {o : Oper} {s : Sem Value} {v : AV} {h' : Heap} (hx : execOp cev o = (do pure (.value (← s)))) (hs : ∃ ρ' v' w', s.run P w = .ok v' w' ∧ Nx ρ h ρ' h' ∧ VR ρ' v v' ∧ HR G K w0 ρ' h' w') :
    EffOk P G K w0 ρ h cev o w v h' := by
  obtain ⟨ρ', v', w', h1, h2, h3, h4⟩ := hs
  exact ⟨ρ', v', w', .inl (by rw [hx]; simp [h1]), h2, h3, h4⟩

theorem eff_skip {o : Oper} {s : Sem Unit} {h' : Heap} (hx : execOp cev o = (do s; pure .skip)) (hs : ∃ w', s.run P w = .ok () w' ∧ HR G K w0 ρ h' w') (hn : h.n ≤ h'.n) : EffOk P G K w0 ρ h cev o w .un h' := by
  obtain ⟨w', h1, h4⟩ := hs
  exact ⟨ρ, undef, w', .inr ⟨by rw [hx]; simp [h1], rfl⟩, Nx.same hn, VR.un, h4⟩

theorem storeA_run (H : HR G K w0 ρ h w) {t : TypeId} {p v : AV} {p' v' : Value} {h' : Heap} (hs : storeA P t p v h = some h') (hp : VR ρ p p') (hv : VR ρ v v') :
    ∃ w', (Instr.storeAt t p' v').run P w = .ok () w' ∧ HR G K w0 ρ h' w' := by
  unfold storeA at hs
  split at hs
  · rename_i b o s hsz
    split at hs
    · rename_i cs hb
      split at hs
      · rename_i hc
        obtain ⟨c1, c2, c3⟩ := hc
        cases hs
        cases hp with
        | ptr _ _ cb d hρ =>
          have hcv := hv.cells c3
          obtain ⟨w', r1, r2⟩ := writeCells (P := P) (o := o) H hb hρ hcv c3 (by omega)
          refine ⟨w', ?_, r2⟩
          have hsize : v'.cells.size = s := by rw [← Array.length_toList, ← hcv.length, c1]
          simp [Instr.storeAt, Instr.sureAddr, storeVar, run_sizeT hsz, hsize, r1]
      · cases hs
    · cases hs
  · cases hs

/-! ### Maps -/

theorem ERL.length {es : List AEntry} {es' : List MapEntry} (he : ERL ρ es es') : es.length = es'.length := by
  induction he with
  | nil => rfl
  | cons _ _ _ _ _ _ ih => simp [ih]

theorem ERL.get {es : List AEntry} {es' : List MapEntry} (he : ERL ρ es es') {i : Nat} {e : AEntry} (hi : es[i]? = some e) : ∃ e', es'[i]? = some e' ∧ ER ρ e e' := by
  induction he generalizing i with
  | nil => simp at hi
  | cons a a' as as' h1 h2 ih =>
    cases i with
    | zero => simp at hi; subst hi; exact ⟨a', rfl, h1⟩
    | succ i => simpa using ih (by simpa using hi)

theorem ERL.append {es fs : List AEntry} {es' fs' : List MapEntry} (he : ERL ρ es es') (hf : ERL ρ fs fs') : ERL ρ (es ++ fs) (es' ++ fs') := by
  induction he with
  | nil => exact hf
  | cons a a' as as' h1 h2 ih => exact .cons _ _ _ _ h1 ih

theorem ERL.modify {es : List AEntry} {es' : List MapEntry} (he : ERL ρ es es') {i : Nat} {e2 : AEntry} {f : MapEntry → MapEntry} (hf : ∀ e', es'[i]? = some e' → ER ρ e2 (f e')) :
    ERL ρ (es.set i e2) (es'.modify i f) := by
  induction he generalizing i with
  | nil => simpa using ERL.nil
  | cons a a' as as' h1 h2 ih =>
    cases i with
    | zero => simp; exact .cons _ _ _ _ (hf a' rfl) h2
    | succ i => simp; exact .cons _ _ _ _ h1 (ih fun e' h => hf e' (by simpa using h))

theorem ERL.erase {es : List AEntry} {es' : List MapEntry} (he : ERL ρ es es') (i : Nat) : ERL ρ (es.eraseIdx i) (es'.eraseIdx i) := by
  induction he generalizing i with
  | nil => simpa using ERL.nil
  | cons a a' as as' h1 h2 ih =>
    cases i with
    | zero => simpa using h2
    | succ i => simp; exact .cons _ _ _ _ h1 (ih i)

theorem getMap {cb : Nat} {es' : Array MapEntry} {clock : Nat} (hg : w.heap[cb]? = some (.map es' clock)) : (getObj cb).run P w = .ok (.map es' clock) w := by simp [getObj, Sem.run, hg]
theorem setMap {cb : Nat} {o' : Obj} {x : Obj} (hg : w.heap[cb]? = some x) (hx : ∀ c e f, x ≠ .cells c e f) : (setObj cb o').run P w = .ok () { w with heap := w.heap.setIfInBounds cb o' } := by
  cases x <;> first | exact absurd rfl (hx _ _ _) | simp [setObj, Sem.run, hg]

theorem HR.setObjN (H : HR G K w0 ρ h w) {b cb d : Nat} {x o : AObj} {o' : Obj} (hb : h.get b = some x) (hrw : x.rw = true) (hρ : ρ b = some (cb, d)) (hor : OR ρ (ρ.sz cb) (some o') d o)
    (hno : ∀ c e fz, w.heap[cb]? ≠ some (.cells c e fz)) : HR G K w0 ρ (h.set b o) { w with heap := w.heap.setIfInBounds cb o' } := by
  have hlt := H.rng b cb d hρ
  refine H.set o hb hrw hρ rfl rfl rfl (by simp) (fun i _ hi => ?_) ?_ (fun c e fz he => absurd he (hno c e fz))
  · simp only [Array.getElem?_setIfInBounds]; rw [if_neg (by omega)]
  · simp only [Array.getElem?_setIfInBounds, if_true, hlt]; exact hor

/-- A block that is no row of cells is laid anew. -/
theorem HR.setObj (H : HR G K w0 ρ h w) {b cb d : Nat} {x o : AObj} {o' : Obj} (hb : h.get b = some x) (hrw : x.rw = true) (hρ : ρ b = some (cb, d)) (hor : OR ρ (ρ.sz cb) (some o') d o)
    (hx : ∀ cs r, x ≠ .cells cs r := by intro cs r h; cases h) :
    HR G K w0 ρ (h.set b o) { w with heap := w.heap.setIfInBounds cb o' } := by
  have hlt := H.rng b cb d hρ
  have hno : ∀ c e fz, w.heap[cb]? ≠ some (.cells c e fz) := fun c e fz he => by
    have hor := H.obj b x cb d hb hρ
    rw [he] at hor
    cases x with
    | cells cs r => exact hx cs r rfl
    | gone => cases hrw
    | map es clock => obtain ⟨es', h1, _⟩ := hor; cases h1
    | siter s pos => obtain ⟨ba, h1, _⟩ := hor; cases h1
    | miter m since seen last => obtain ⟨m', seen', h1, _⟩ := hor; cases h1
    | loop st pend tmps ps as bd df => obtain ⟨L, h1, _⟩ := hor; cases h1
    | dfr => cases hor.1
  refine H.set o hb hrw hρ rfl rfl rfl (by simp) (fun i _ hi => ?_) ?_ (fun c e fz he => absurd he (hno c e fz))
  · simp only [Array.getElem?_setIfInBounds]; rw [if_neg (by omega)]
  · simp only [Array.getElem?_setIfInBounds, if_true, hlt]; exact hor

theorem updA_run (H : HR G K w0 ρ h w) {t : TypeId} {m k v : AV} {m' k' v' : Value} {h' : Heap} (hs : updA P t m k v h = some h') (hm : VR ρ m m') (hk : VR ρ k k') (hv : VR ρ v v') :
    ∃ w', (Instr.mapUpdate t m' k' v').run P w = .ok () w' ∧ HR G K w0 ρ h' w' := by
  unfold updA at hs
  split at hs
  · rename_i kt el b hu
    cases hm with
    | map _ cb d hρ =>
      split at hs
      · rename_i es clock hb
        obtain ⟨es', g1, g2⟩ := H.obj b _ cb d hb hρ
        cases hko : keyOk P kt k with
        | none => rw [hko] at hs; cases hs
        | some ks =>
          rw [hko] at hs
          simp only at hs
          cases hf : findA ks k es 0 with
          | none => rw [hf] at hs; cases hs
          | some res =>
            rw [hf] at hs
            obtain ⟨res', hrun, hfound⟩ := findKey_run hko hk w g2 hf
            cases res with
            | none =>
              cases res' with
              | some _ => exact hfound.elim
              | none =>
                cases hs
                refine ⟨{ w with heap := w.heap.setIfInBounds cb (.map (es'.push { key := k', val := v', born := clock }) (clock + 1)) }, ?_, H.setObj (x := .map es clock) hb rfl hρ ⟨_, rfl, ?_⟩⟩
                · simp only [Instr.mapUpdate, Sem.run_bind, run_underlying hu, Result.andThen_ok, getMap g1, checkKey_run hko hk, hrun]
                  exact setMap g1 (fun _ _ _ => by simp)
                · rw [Array.toList_push]
                  exact g2.append (.cons _ _ _ _ ⟨hk, hv, rfl⟩ .nil)
            | some x =>
              cases res' with
              | none => exact hfound.elim
              | some y =>
                obtain ⟨i, e⟩ := x
                obtain ⟨i', v0⟩ := y
                obtain ⟨rfl, a2, a3, a4, e', a5, a6⟩ := hfound
                cases hs
                simp only [Nat.sub_zero] at a3 a5
                obtain ⟨e'', q1, q2⟩ := g2.get a3
                rw [a5] at q1
                cases q1
                rw [Array.getElem?_toList] at a5
                refine ⟨{ w with heap := w.heap.setIfInBounds cb (.map (es'.modify i fun e => { e with key := k', val := v' }) clock) }, ?_, H.setObj (x := .map es clock) hb rfl hρ ⟨_, rfl, ?_⟩⟩
                · simp only [Instr.mapUpdate, Sem.run_bind, run_underlying hu, Result.andThen_ok, getMap g1, checkKey_run hko hk, hrun, a5, Option.map_some, Option.getD_some, keyStays_run a4 hk q2.key]
                  exact setMap g1 (fun _ _ _ => by simp)
                · rw [Array.toList_modify]
                  exact g2.modify fun e1 he1 => by rw [Array.getElem?_toList, a5] at he1; cases he1; exact ⟨hk, hv, q2.born⟩
      · cases hs
  · cases hs

theorem entryA_run (H : HR G K w0 ρ h w) {t : TypeId} {m k v : AV} {m' k' : Value} {h' : Heap} (hs : entryA P t m k h = some (v, h')) (hm : VR ρ m m') (hk : VR ρ k k') :
    ∃ v' w', (Instr.mapEntry t m' k').run P w = .ok v' w' ∧ VR ρ v v' ∧ HR G K w0 ρ h' w' := by
  unfold entryA at hs
  split at hs
  · rename_i kt el b hu
    cases hm with
    | map _ cb d hρ =>
      split at hs
      · rename_i es clock z hb hz
        obtain ⟨es', g1, g2⟩ := H.obj b _ cb d hb hρ
        obtain ⟨z', z1, z2⟩ := zero_of (ρ := ρ) hz
        cases hko : keyOk P kt k with
        | none => rw [hko] at hs; cases hs
        | some ks =>
          rw [hko] at hs
          simp only at hs
          cases hf : findA ks k es 0 with
          | none => rw [hf] at hs; cases hs
          | some res =>
            rw [hf] at hs
            obtain ⟨res', hrun, hfound⟩ := findKey_run hko hk w g2 hf
            cases res with
            | none =>
              cases res' with
              | some _ => exact hfound.elim
              | none =>
                cases hs
                refine ⟨.tuple #[z', goInt clock], { w with heap := w.heap.setIfInBounds cb (.map (es'.push { key := k', val := z', born := clock }) (clock + 1)) }, ?_, .tup _ _ (.cons _ _ _ _ z2 (.cons _ _ _ _ (.int _ _) .nil)), H.setObj (x := .map es clock) hb rfl hρ ⟨_, rfl, ?_⟩⟩
                · simp only [Instr.mapEntry, Sem.run_bind, run_underlying hu, Result.andThen_ok, getMap g1, checkKey_run hko hk, hrun, z1]
                  rw [setMap g1 (fun _ _ _ => by simp)]
                  rfl
                · rw [Array.toList_push]
                  exact g2.append (.cons _ _ _ _ ⟨hk, z2, rfl⟩ .nil)
            | some x =>
              cases res' with
              | none => exact hfound.elim
              | some y =>
                obtain ⟨i, e⟩ := x
                obtain ⟨i', v0⟩ := y
                obtain ⟨rfl, a2, a3, a4, e', a5, rfl⟩ := hfound
                cases hs
                simp only [Nat.sub_zero] at a3 a5
                obtain ⟨e'', q1, q2⟩ := g2.get a3
                rw [a5] at q1
                cases q1
                rw [Array.getElem?_toList] at a5
                refine ⟨.tuple #[e'.val, goInt e'.born], { w with heap := w.heap.setIfInBounds cb (.map (es'.modify i fun e => { e with key := k' }) clock) }, ?_, .tup _ _ (.cons _ _ _ _ q2.val (.cons _ _ _ _ (by rw [q2.born]; exact .int _ _) .nil)), H.setObj (x := .map es clock) hb rfl hρ ⟨_, rfl, ?_⟩⟩
                · simp only [Instr.mapEntry, Sem.run_bind, run_underlying hu, Result.andThen_ok, getMap g1, checkKey_run hko hk, hrun, a5, Option.map_some, Option.getD_some, keyStays_run a4 hk q2.key]
                  rw [setMap g1 (fun _ _ _ => by simp)]
                  rfl
                · rw [Array.toList_modify]
                  exact g2.modify fun e1 he1 => by rw [Array.getElem?_toList, a5] at he1; cases he1; exact ⟨hk, q2.val, q2.born⟩
      · cases hs
  · cases hs

theorem delA_run (H : HR G K w0 ρ h w) {t : TypeId} {m k v : AV} {m' k' : Value} {h' : Heap} {ts : List TypeId} {ty : TypeId} {xs : List Value} (hs : delA P t m k h = some (v, h')) (hm : VR ρ m m') (hk : VR ρ k k') :
    ∃ v' w', (Builtin.delete_ (t :: ts).toArray ty (m' :: k' :: xs).toArray).run P w = .ok v' w' ∧ VR ρ v v' ∧ HR G K w0 ρ h' w' := by
  unfold delA at hs
  split at hs
  · rename_i kt el b hu
    cases hm with
    | map _ cb d hρ =>
      split at hs
      · rename_i es clock hb
        obtain ⟨es', g1, g2⟩ := H.obj b _ cb d hb hρ
        cases hko : keyOk P kt k with
        | none => rw [hko] at hs; cases hs
        | some ks =>
          rw [hko] at hs
          simp only at hs
          cases hf : findA ks k es 0 with
          | none => rw [hf] at hs; cases hs
          | some res =>
            rw [hf] at hs
            obtain ⟨res', hrun, hfound⟩ := findKey_run hko hk w g2 hf
            cases res with
            | none =>
              cases res' with
              | some _ => exact hfound.elim
              | none =>
                cases hs
                refine ⟨.tuple #[], { w with heap := w.heap.setIfInBounds cb (.map es' clock) }, ?_, .tup _ _ .nil, ?_⟩
                · simp [Builtin.delete_, run_underlying hu, getMap g1, checkKey_run hko hk, hrun, setMap g1]
                · have hlt := H.rng b cb d hρ
                  have : ({ w with heap := w.heap.setIfInBounds cb (.map es' clock) } : World) = w := by
                    cases w with
                    | mk heap tape drawn os output =>
                      congr 1
                      apply Array.ext_getElem?
                      intro i
                      simp only [Array.getElem?_setIfInBounds]
                      by_cases hi : cb = i
                      · subst hi; rw [if_pos rfl, if_pos hlt]; exact g1.symm
                      · rw [if_neg hi]
                  rw [this]; exact H
            | some x =>
              cases res' with
              | none => exact hfound.elim
              | some y =>
                obtain ⟨i, e⟩ := x
                obtain ⟨i', v0⟩ := y
                obtain ⟨rfl, a2, a3, a4, e', a5, a6⟩ := hfound
                cases hs
                refine ⟨.tuple #[], { w with heap := w.heap.setIfInBounds cb (.map (es'.eraseIdxIfInBounds i) clock) }, ?_, .tup _ _ .nil, H.setObj (x := .map es clock) hb rfl hρ ⟨_, rfl, ?_⟩⟩
                · simp [Builtin.delete_, run_underlying hu, getMap g1, checkKey_run hko hk, hrun, setMap g1]
                · rw [Array.toList_eraseIdxIfInBounds]
                  exact g2.erase i
      · cases hs
  · cases hs

theorem stampA_run {es es2 : List AEntry} {es' : List MapEntry} {n : Int} {v : AV} {v' : Value} (hn : 0 ≤ n) (hs : stampA n.toNat es v = some es2) (he : ERL ρ es es') (hv : VR ρ v v') :
    ∃ i, es'.findIdx? (fun e => (e.born : Int) == n) = some i ∧ ERL ρ es2 (es'.modify i fun e => { e with val := v' }) := by
  induction he generalizing es2 with
  | nil => cases hs
  | cons a a' as as' h1 h2 ih =>
    simp only [stampA] at hs
    rw [List.findIdx?_cons]
    split at hs
    · rename_i hb
      cases hs
      have : ((a'.born : Int) == n) = true := by rw [beq_iff_eq, ← h1.born, hb]; omega
      rw [this]
      exact ⟨0, rfl, by simp; exact .cons _ _ _ _ ⟨h1.key, hv, h1.born⟩ h2⟩
    · rename_i hb
      simp only [Option.map_eq_some_iff] at hs
      obtain ⟨es3, h3, rfl⟩ := hs
      have : ((a'.born : Int) == n) = false := by rw [beq_eq_false_iff_ne, ← h1.born]; intro hc; apply hb; omega
      rw [this]
      obtain ⟨i, i1, i2⟩ := ih h3
      exact ⟨i + 1, by simp [i1], by simp; exact .cons _ _ _ _ h1 i2⟩

theorem entryStoreA_run (H : HR G K w0 ρ h w) {t : TypeId} {m s v : AV} {m' s' v' : Value} {h' : Heap} (hs : entryStoreA m s v h = some h') (hm : VR ρ m m') (hst : VR ρ s s') (hv : VR ρ v v') :
    ∃ w', (Instr.entryStore t m' s' v').run P w = .ok () w' ∧ HR G K w0 ρ h' w' := by
  unfold entryStoreA at hs
  split at hs
  · rename_i b k n
    cases hm with
    | map _ cb d hρ =>
      cases hst
      split at hs
      · rename_i es clock hb
        split at hs
        · rename_i hn
          simp only [Option.map_eq_some_iff] at hs
          obtain ⟨es2, h2, rfl⟩ := hs
          obtain ⟨es', g1, g2⟩ := H.obj b _ cb d hb hρ
          obtain ⟨i, i1, i2⟩ := stampA_run hn h2 g2 hv
          refine ⟨{ w with heap := w.heap.setIfInBounds cb (.map (es'.modify i fun e => { e with val := v' }) clock) }, ?_, H.setObj (x := .map es clock) hb rfl hρ ⟨_, rfl, by rw [Array.toList_modify]; exact i2⟩⟩
          have hf : es'.findIdx? (fun e => (e.born : Int) == n) = some i := by cases es'; simpa using i1
          simp only [Instr.entryStore, Sem.run_bind, getMap g1, Result.andThen_ok, asInt, asIntOf, Sem.run_pure, hf]
          exact setMap g1 (fun _ _ _ => by simp)
        · cases hs
      · cases hs
  · cases hs

/-! ### A range begins -/

theorem HR.pushObj (H : HR G K w0 ρ h w) (x : AObj) (o : Obj) (N : Nat) (hor : ∀ ρ', Sub ρ ρ' → OR ρ' N (some o) 0 x) :
    Sub ρ (ρ.put h.n (w.heap.size, 0) N) ∧ HR G K w0 (ρ.put h.n (w.heap.size, 0) N) (h.push x) (w.alloc o) := by
  have hnew : ρ h.n = none := (H.top h.n (Nat.le_refl _)).2
  have hsub : Sub ρ (ρ.put h.n (w.heap.size, 0) N) := Ren.sub_put hnew fun c d' hc => by have := H.rng c _ d' hc; dsimp only at this; omega
  refine ⟨hsub, H.push x w.heap.size 0 N rfl rfl rfl (by simp) (fun i hi => ?_) (Nat.le_refl _) (by simp) ?_⟩
  · show (w.heap.push o)[i]? = _
    rw [Array.getElem?_push, if_neg (by omega)]
  · have : (w.alloc o).heap[w.heap.size]? = some o := by show (w.heap.push o)[w.heap.size]? = _; simp
    rw [this]; exact hor _ hsub

theorem rangeA_run (H : HR G K w0 ρ h w) {t : TypeId} {x v : AV} {x' : Value} {h' : Heap} (hs : rangeA P t x h = some (v, h')) (hx : VR ρ x x') :
    ∃ ρ' v' w', (Instr.range t x').run P w = .ok v' w' ∧ Nx ρ h ρ' h' ∧ VR ρ' v v' ∧ HR G K w0 ρ' h' w' := by
  unfold rangeA at hs
  split at hs
  · rename_i s hu
    cases hs
    cases hx with
    | str ba =>
      obtain ⟨h1, h2⟩ := H.pushObj (.siter ba.data.toList 0) (.stringIter ba 0) 0 (fun ρ' _ => ⟨ba, rfl, rfl, rfl⟩)
      refine ⟨_, .pointer (some ⟨w.heap.size, 0, none⟩), _, ?_, Nx.put h1 (Nat.le_succ _), ?_, h2⟩
      · simp [Instr.range, run_underlying hu]
      · exact .ptr _ 0 w.heap.size 0 (Ren.put_same _ _ _ _)
  · rename_i k e hu
    cases hs
    cases hx
    obtain ⟨h1, h2⟩ := H.pushObj (.miter none 0 [] 0) (.mapIter none 0 #[] 0) 0 (fun ρ' _ => ⟨none, #[], rfl, rfl, rfl, trivial⟩)
    refine ⟨_, .pointer (some ⟨w.heap.size, 0, none⟩), _, ?_, Nx.put h1 (Nat.le_succ _), ?_, h2⟩
    · simp [Instr.range, run_underlying hu]
    · exact .ptr _ 0 w.heap.size 0 (Ren.put_same _ _ _ _)
  · rename_i k e b hu
    split at hs
    · rename_i es clock hb
      cases hs
      cases hx with
      | map _ cb d hρ =>
        obtain ⟨es', g1, g2⟩ := H.obj b _ cb d hb hρ
        obtain ⟨h1, h2⟩ := H.pushObj (.miter (some b) clock [] clock) (.mapIter (some cb) clock #[] clock) 0 (fun ρ' hs => ⟨some cb, #[], rfl, rfl, rfl, d, hs.m _ _ hρ⟩)
        refine ⟨_, .pointer (some ⟨w.heap.size, 0, none⟩), _, ?_, Nx.put h1 (Nat.le_succ _), ?_, h2⟩
        · simp [Instr.range, run_underlying hu, getMap g1]
        · exact .ptr _ 0 w.heap.size 0 (Ren.put_same _ _ _ _)
    · cases hs
  · cases hs

/-! ### append, copy, clear -/

theorem SameHeap.cell {w w2 : World} (h : w2.heap = w.heap) (a : Addr) : w2.cell? a = w.cell? a := by simp [World.cell?, h]

theorem loadCells_eq {a : Addr} {l : List Value} (hl : ∀ j v, l[j]? = some v → w.cell? (a.add j) = some v) {w2 : World} (hw : w2.heap = w.heap) : (loadCells a l.length).run P w2 = .ok l.toArray w2 :=
  run_loadCells_list w2 a l fun j v hj => by rw [SameHeap.cell hw]; exact hl j v hj

/-- Where the elements come from that are appended or copied. -/
theorem srcA_run (H : HR G K w0 ρ h w) {s : Nat} {y : AV} {y' : Value} {m : Nat} {new : List AV} (hs : srcA s h y = some (m, new)) (hy : VR ρ y y') :
    ∃ new' : List Value, (∀ w2, (Builtin.lenOf y').run P w2 = .ok m w2) ∧ (∀ k, k ≤ m → ∀ w2, w2.heap = w.heap → (Builtin.firstCells s k y').run P w2 = .ok (new'.take (k * s)).toArray w2) ∧ VRL ρ new new' ∧ new.length = m * s ∧
      new.all AV.one = true := by
  unfold srcA at hs
  split at hs
  · cases hs
    cases hy
    exact ⟨[], fun w2 => rfl, fun k hk w2 _ => by simp [Builtin.firstCells], .nil, by simp, rfl⟩
  · split at hs
    · rename_i h1
      cases hs
      subst h1
      cases hy with
      | str ba =>
        have hsz : ba.data.toList.length = ba.size := Array.length_toList
        refine ⟨ba.data.toList.map fun b => .int .u8 b.toNat, fun w2 => by simp [Builtin.lenOf, hsz], fun k hk w2 _ => ?_, VRL.map _ _ _ fun b _ => .int _ _, by simp, by rw [List.all_eq_true]; intro x hx; simp only [List.mem_map] at hx; obtain ⟨b, -, rfl⟩ := hx; rfl⟩
        have : (ba.extract 0 k).data.map (fun b => Value.int .u8 (b.toNat : Int)) = ((ba.data.toList.map fun b => Value.int .u8 (b.toNat : Int)).take (k * 1)).toArray := by
          apply Array.ext'
          simp [ByteArray.data_extract, List.extract, List.map_take]
        simp only [Builtin.firstCells, Sem.run_pure, this]
    · cases hs
  · rename_i b o n c x
    split at hs
    · rename_i cs rw hb
      split at hs
      · rename_i hl
        cases hs
        cases hy with
        | sl _ _ n _ _ cb d c' hρ hn hc hxx hkk =>
          have hor := H.obj b _ cb d hb hρ
          obtain ⟨l, k1, k2, k3, k4, -⟩ := cellsAt hor hl
          refine ⟨l, fun w2 => rfl, fun k hk w2 hw => ?_, k2, by simp; omega, ?_⟩
          · have hkn : k * s ≤ m * s := Nat.mul_le_mul_right _ hk
            have e1 : (l.take (k * s)).length = k * s := by simp; omega
            have := loadCells_eq (P := P) (w := w) (l := l.take (k * s)) (a := ⟨cb, o + d, none⟩) (fun j v hj => by
              have hjlt : j < k * s := by
                have := (List.getElem?_eq_some_iff.1 hj).1
                omega
              rw [List.getElem?_take_of_lt hjlt] at hj
              exact k4 j v hj) hw
            rw [e1] at this
            simpa [Builtin.firstCells] using this
          · obtain ⟨c, e, fz, q1, q0, q2, q3⟩ := hor
            rw [List.all_eq_true]
            intro v hv
            obtain ⟨i, hi, he⟩ := List.getElem_of_mem (List.mem_of_mem_drop (List.mem_of_mem_take hv))
            obtain ⟨v', -, -, r3⟩ := q2 i v (by rw [List.getElem?_eq_getElem hi, he])
            exact r3
        | sl0 _ _ _ a =>
          refine ⟨[], fun w2 => rfl, fun k hk w2 hw => ?_, by simpa using VRL.nil, by simp, by simp⟩
          have hk0 : k = 0 := by omega
          subst hk0
          simp [Builtin.firstCells, loadCells, loadCellsFrom]
      · cases hs
    · cases hs
  · cases hs

theorem copyA_run (H : HR G K w0 ρ h w) {t u : TypeId} {ty : TypeId} {x y v : AV} {x' y' : Value} {h' : Heap} {ts : List TypeId} {xs : List Value} (hs : copyA P t x y h = some (v, h')) (hx : VR ρ x x') (hy : VR ρ y y') :
    ∃ v' w', (Builtin.copy_ (t :: ts).toArray ty (x' :: y' :: xs).toArray).run P w = .ok v' w' ∧ VR ρ v v' ∧ HR G K w0 ρ h' w' := by
  unfold copyA at hs
  cases he : elemT P t with
  | none => rw [he] at hs; cases hs
  | some e =>
    rw [he] at hs
    simp only at hs
    unfold elemT at he
    split at he
    case h_2 => cases he
    rename_i _ hu
    cases he
    cases hsz : sizeT P e with
    | none => rw [hsz] at hs; cases hs
    | some s =>
      rw [hsz] at hs
      simp only at hs
      split at hs
      · rename_i m src b o n c k hsrc
        obtain ⟨new', r1, r2, r3, r4, r5⟩ := srcA_run (P := P) H hsrc hy
        split at hs
        · rename_i cs hb
          split at hs
          · rename_i hc
            obtain ⟨c1, c2⟩ := hc
            cases hs
            have tk : (src.take (min m n * s)).length = min m n * s := by
              simp only [List.length_take, r4]
              have : min m n * s ≤ m * s := Nat.mul_le_mul_right _ (Nat.min_le_left _ _)
              omega
            cases hx with
            | sl _ _ _ _ _ cb d c' hρ hn hcc hxx hkk =>
              have hone : (src.take (min m n * s)).all AV.one = true := by
                rw [List.all_eq_true] at r5 ⊢
                exact fun v hv => r5 v (List.mem_of_mem_take hv)
              obtain ⟨w', q1, q2⟩ := writeCells (P := P) (o := o) H hb hρ (r3.take (min m n * s)) hone (by omega)
              refine ⟨.int .i64 (min m n : Nat), w', ?_, .int _ _, q2⟩
              have hmin : Nat.min m n = min m n := rfl
              simp [Builtin.copy_, run_underlying hu, r1, run_sizeT hsz, r2 (min m n) (Nat.min_le_left _ _) w rfl, q1, goInt, hmin]
            | sl0 _ _ _ a =>
              have h0 : min m 0 = 0 := by omega
              refine ⟨.int .i64 0, w, ?_, by rw [h0]; exact .int _ _, ?_⟩
              · have := r2 0 (Nat.zero_le _) w rfl
                simp [Builtin.copy_, run_underlying hu, r1, run_sizeT hsz, goInt] at this ⊢
                simp [this, storeCells]
              · rw [h0] at *
                simp only [Nat.zero_mul, List.take_zero]
                have : setL cs o [] = cs := by simp [setL]
                rw [this]
                exact H.set_self hb
          · cases hs
        · cases hs
      · rename_i q hsrc
        cases hs
        cases hx
        obtain ⟨m, src⟩ := q
        obtain ⟨new', r1, r2, r3, r4, r5⟩ := srcA_run (P := P) H hsrc hy
        refine ⟨.int .i64 0, w, ?_, .int _ _, H⟩
        have := r2 0 (Nat.zero_le _) w rfl
        simp [Builtin.copy_, run_underlying hu, r1, run_sizeT hsz, goInt] at this ⊢
        simp [this]
      · cases hs

theorem zeroCells_rel {z : AV} {z' : Value} {s : Nat} (hz : VR ρ z z') (h1 : z.cells.all AV.one = true) (hl : z.cells.length = s) (hs : 0 < s) (n : Nat) : VRL ρ (zerosA z.cells n) (Builtin.zeroCells z'.cells n).toList := by
  have hzc := hz.cells h1
  have hzl : z'.cells.size = s := by rw [← Array.length_toList, ← hzc.length, hl]
  have := zerosA_rel hzc (by omega) n
  have e : Builtin.zeroCells z'.cells n = madeCells z'.cells (n * z.cells.length) := by
    unfold Builtin.zeroCells madeCells
    rw [hzl, hl]
  rw [e]; exact this

theorem clearA_run (H : HR G K w0 ρ h w) {t : TypeId} {ty : TypeId} {x v : AV} {x' : Value} {h' : Heap} {ts : List TypeId} {xs : List Value} (hs : clearA P t x h = some (v, h')) (hx : VR ρ x x') :
    ∃ v' w', (Builtin.clear_ (t :: ts).toArray ty (x' :: xs).toArray).run P w = .ok v' w' ∧ VR ρ v v' ∧ HR G K w0 ρ h' w' := by
  unfold clearA at hs
  cases he : elemT P t with
  | none => rw [he] at hs; simp at hs
  | some e =>
    rw [he] at hs
    unfold elemT at he
    split at he
    case h_2 => cases he
    rename_i _ hu
    cases he
    cases x <;> simp only [reduceCtorEq] at hs
    case nils =>
      cases hs
      cases hx
      exact ⟨.tuple #[], w, by simp [Builtin.clear_, run_underlying hu], .tup _ _ .nil, H⟩
    case sl b o n c k =>
      cases hsz : sizeT P e with
      | none => rw [hsz] at hs; simp at hs
      | some s =>
        cases hz : zeroT P e with
        | none => rw [hsz, hz] at hs; simp at hs
        | some z =>
          obtain ⟨z', z1, z2⟩ := zero_of (ρ := ρ) hz
          cases hb : h.get b with
          | none => rw [hsz, hz, hb] at hs; simp at hs
          | some ob =>
            rw [hsz, hz, hb] at hs
            split at hs
            · rename_i _ _ _ s' z0 cs q1 q2 q3
              cases q1; cases q2; cases q3
              split at hs
              · rename_i hc
                obtain ⟨c1, c2, c3, c4⟩ := hc
                cases hs
                cases hx with
                | sl _ _ _ _ _ cb d c' hρ hn hcc hxx hkk =>
                  have hrel := zeroCells_rel z2 c4 c2 c1 n
                  obtain ⟨w', q1, q2⟩ := writeCells (P := P) (o := o) H hb hρ hrel (zerosA_one c4 n) (by rw [zerosA_length, c2]; exact c3)
                  refine ⟨.tuple #[], w', ?_, .tup _ _ .nil, q2⟩
                  cases n with
                  | zero =>
                    have hz0 : (Builtin.zeroCells z'.cells 0).toList = [] := by simp [Builtin.zeroCells, Array.range_zero']
                    rw [hz0] at q1
                    simp only [storeCells] at q1
                    simp at q1
                    subst q1
                    simp [Builtin.clear_, run_underlying hu]
                  | succ n => simp [Builtin.clear_, run_underlying hu, z1, q1]
                | sl0 _ _ _ a =>
                  refine ⟨.tuple #[], w, by simp [Builtin.clear_, run_underlying hu], .tup _ _ .nil, ?_⟩
                  have : setL cs o (zerosA z.cells 0) = cs := by simp [setL, zerosA]
                  rw [this]; exact H.set_self hb
              · cases hs
            · cases hs

set_option maxHeartbeats 4000000 in
/-- What 'append' comes to where nothing is appended. -/
theorem append_zero {t u e : TypeId} {ty : TypeId} {s n c' : Nat} {d : TypeDesc} {base : Option Addr} {y' : Value} {ts : List TypeId} {xs : List Value} (hu : P.underlying t = some (.slice e)) (hd : P.underlying u = some d) (hni : ∀ k, d ≠ .int k)
    (hsz : sizeT P e = some s) (r1 : ∀ w2, (Builtin.lenOf y').run P w2 = .ok 0 w2) (r2 : (Builtin.firstCells s 0 y').run P w = .ok #[] w) (hroom : n ≤ c') :
    (Builtin.append_ (t :: u :: ts).toArray ty (.slice base n c' :: y' :: xs).toArray).run P w = .ok (.slice base n c') w := by
  simp only [Builtin.append_, List.getElem?_toArray, List.getElem?_cons_zero, List.getElem?_cons_succ, Sem.run_bind, run_underlying hu, Result.andThen_ok, run_sizeT hsz, run_underlying hd, Sem.run_pure]
  cases base <;> cases d <;> first | exact absurd rfl (hni _) | simp [r1, hroom, r2, storeCells]

set_option maxHeartbeats 4000000 in
/-- What 'append' comes to where there is room. -/
theorem append_room {t u e : TypeId} {ty : TypeId} {s n c' m : Nat} {d : TypeDesc} {a : Addr} {y' : Value} {new' : List Value} {ts : List TypeId} {xs : List Value} {w' : World} (hu : P.underlying t = some (.slice e)) (hd : P.underlying u = some d) (hni : ∀ k, d ≠ .int k)
    (hsz : sizeT P e = some s) (r1 : ∀ w2, (Builtin.lenOf y').run P w2 = .ok m w2) (r2 : (Builtin.firstCells s m y').run P w = .ok new'.toArray w) (hroom : n + m ≤ c') (hst : (storeCells (a.add (n * s)) new').run P w = .ok () w') :
    (Builtin.append_ (t :: u :: ts).toArray ty (.slice (some a) n c' :: y' :: xs).toArray).run P w = .ok (.slice (some a) (n + m) c') w' := by
  simp only [Builtin.append_, List.getElem?_toArray, List.getElem?_cons_zero, List.getElem?_cons_succ, Sem.run_bind, run_underlying hu, Result.andThen_ok, run_sizeT hsz, run_underlying hd, Sem.run_pure]
  cases d <;> first | exact absurd rfl (hni _) | simp [r1, hroom, r2, hst]

set_option maxHeartbeats 4000000 in
/-- What 'append' comes to where there is none. -/
theorem append_grow {t u e : TypeId} {ty : TypeId} {s by_ n c' m : Nat} {d : TypeDesc} {x' y' z' : Value} {old' new' : List Value} {ts : List TypeId} {xs : List Value} {base : Option Addr} (hu : P.underlying t = some (.slice e)) (hd : P.underlying u = some d) (hni : ∀ k, d ≠ .int k)
    (hsz : sizeT P e = some s) (hby : bytesT P e = some by_) (hz : ∀ w, (zeroValue e).run P w = .ok z' w) (hx : x' = .slice base n c') (r1 : ∀ w2, (Builtin.lenOf y').run P w2 = .ok m w2)
    (r2 : ∀ w2, w2.heap = w.heap → (Builtin.firstCells s m y').run P w2 = .ok new'.toArray w2) (r3 : ∀ w2, w2.heap = w.heap → (Builtin.firstCells s n x').run P w2 = .ok old'.toArray w2)
    (hno : c' < n + m) (hpos : 0 < by_) (hbound : (2 * (n + m) + 1024) * by_ ≤ 1099511627776) :
    ∃ N, n + m ≤ N ∧ (Builtin.append_ (t :: u :: ts).toArray ty (x' :: y' :: xs).toArray).run P w =
      .ok (.slice (some ⟨w.heap.size, 0, none⟩) (n + m) N) (w.drew.alloc (.cells (old'.toArray ++ (new'.toArray ++ Builtin.zeroCells z'.cells (N - (n + m)))) e)) := by
  obtain ⟨i, hi, his⟩ := info_of_size hsz
  have hbi : i.bytes = by_ := by simpa [bytesT, hi] using hby
  have hle : n + m ≤ 1099511627776 := by
    have : (2 * (n + m) + 1024) * 1 ≤ (2 * (n + m) + 1024) * by_ := Nat.mul_le_mul_left _ hpos
    omega
  have h63 : ¬ (((n + m : Nat) : Int) > IntKind.i64.max ∧ (False ∨ i.bytes = 0)) := by rintro ⟨-, hf | hf⟩ <;> omega
  have hcap : Builtin.nextslicecap (n + m) c' ≤ 2 * (n + m) := nextslicecap_le hno
  have h48 : ¬ (Builtin.nextslicecap (n + m) c' * i.bytes > 2 ^ 48) := by
    have : Builtin.nextslicecap (n + m) c' * by_ ≤ (2 * (n + m) + 1024) * by_ := Nat.mul_le_mul_right _ (by omega)
    rw [hbi]; omega
  have hnr : ¬ (n + m ≤ c') := by omega
  refine ⟨grownCap w (n + m) c' e, ?_, ?_⟩
  · exact Nat.le_add_right _ _
  · subst hx
    have hd2 := r2 w.drew rfl
    have hd3 := r3 w.drew rfl
    have hty : (typeInfo e).run P w = .ok i w := by simp [typeInfo, hi]
    have h63' : ¬ (9223372036854775807 < ((n : Int) + (m : Int))) := by omega
    have h48' : ¬ (281474976710656 < Builtin.nextslicecap (n + m) c' * i.bytes) := by omega
    cases d <;> first | exact absurd rfl (hni _) | skip
    all_goals
      simp [Builtin.append_, run_underlying hu, run_underlying hd, run_sizeT hsz, r1, hnr, typeInfo, hi, h63', h48', Question.forced, hd2, hd3, hz, newRow, grownCap]

theorem zeroCells_size (z : Array Value) (n : Nat) : (Builtin.zeroCells z n).size = n * z.size := by simp [Builtin.zeroCells]

/-- A new array, of which only the first cells are told. -/
theorem grown_OR {ρ' : Ren} {cs : List AV} {c1 c2 : List Value} {z : Array Value} {e : TypeId} {k : Nat} (h : VRL ρ' cs (c1 ++ c2)) (h1 : cs.all AV.one = true) :
    OR ρ' ((c1 ++ c2).length + k * z.size) (some (.cells (c1.toArray ++ (c2.toArray ++ Builtin.zeroCells z k)) e (0, 0))) 0 (.cells cs true) := by
  have hl := h.length
  refine ⟨_, e, (0, 0), rfl, ⟨by simp [zeroCells_size]; omega, by omega⟩, fun i v hv => ?_, fun _ => rfl⟩
  obtain ⟨v', r1, r2⟩ := h.get hv
  refine ⟨v', ?_, r2, List.all_eq_true.1 h1 _ (List.mem_of_getElem? hv)⟩
  have hi : i < (c1 ++ c2).length := (List.getElem?_eq_some_iff.1 r1).1
  rw [Nat.zero_add, ← Array.getElem?_toList]
  simp only [Array.toList_append]
  rw [← List.append_assoc, List.getElem?_append_left (by simpa using hi)]
  simpa using r1

/-- The new array of an 'append' has the type of the old one's elements. -/
def ApTy (P : Program) (t : TypeId) (x v : AV) (h : Heap) (ρ' : Ren) (w' : World) : Prop :=
  ∀ e b o n c k, elemT P t = some e → v = .sl b o n c k → (x = .nils ∨ ∃ b0 o0 n0 c0 k0 q, x = .sl b0 o0 n0 c0 k0 ∧ h.ty b0 = some (e, q)) → ∃ cb d c fz, ρ' b = some (cb, d) ∧ w'.heap[cb]? = some (.cells c e fz)
theorem ApTy.nils {t : TypeId} {x : AV} {h : Heap} {ρ' : Ren} {w' : World} : ApTy P t x .nils h ρ' w' := fun _ _ _ _ _ _ _ hv => by cases hv
theorem ApTy.same {t : TypeId} {b o n c k o' n' c' k' : Nat} {h h' : Heap} {ρ' : Ren} {w' : World} (H : HR G K w0 ρ' h' w') (hy : h'.ty b = h.ty b) : ApTy P t (.sl b o n c k) (.sl b o' n' c' k') h ρ' w' := fun e b1 _ _ _ _ _ hv hx => by
  cases hv
  rcases hx with hx | ⟨b0, o0, n0, c0, k0, q, hx, ht⟩
  · cases hx
  · cases hx
    obtain ⟨cb, d, c, fz, t1, t2, _⟩ := H.typ b e q (hy ▸ ht)
    exact ⟨cb, d, c, fz, t1, t2⟩

set_option maxHeartbeats 2000000 in
theorem appendA_run (H : HR G K w0 ρ h w) {t u : TypeId} {ty : TypeId} {d : TypeDesc} {x y v : AV} {x' y' : Value} {h' : Heap} {ts : List TypeId} {xs : List Value} (hs : appendA P t x y h = some (v, h')) (hd : P.underlying u = some d) (hni : ∀ k, d ≠ .int k)
    (hx : VR ρ x x') (hy : VR ρ y y') : ∃ ρ' v' w', (Builtin.append_ (t :: u :: ts).toArray ty (x' :: y' :: xs).toArray).run P w = .ok v' w' ∧ Nx ρ h ρ' h' ∧ VR ρ' v v' ∧ HR G K w0 ρ' h' w' ∧ ApTy P t x v h ρ' w' := by
  unfold appendA at hs
  cases he : elemT P t with
  | none => rw [he] at hs; cases hs
  | some e =>
    have helem := he
    rw [he] at hs
    simp only at hs
    unfold elemT at he
    split at he
    case h_2 => cases he
    rename_i _ hu
    cases he
    split at hs
    case h_2 => cases hs
    rename_i s by_ z m new hsz hby hz hsrc
    rw [hsz] at hsrc
    simp only [Option.getD_some] at hsrc
    obtain ⟨new', r1, r2, r3, r4, r5⟩ := srcA_run (P := P) H hsrc hy
    obtain ⟨z', z1, z2⟩ := zero_of (ρ := ρ) hz
    have r2m : ∀ w2, w2.heap = w.heap → (Builtin.firstCells s m y').run P w2 = .ok new'.toArray w2 := fun w2 hw => by
      have := r2 m (Nat.le_refl _) w2 hw
      rwa [List.take_of_length_le (by rw [← r3.length, r4]; exact Nat.le_refl _)] at this
    have nl : new'.length = m * s := by rw [← r3.length, r4]
    split at hs
    case isFalse => cases hs
    rename_i hcond
    obtain ⟨hs0, hzl, hzone, hby0⟩ := hcond
    have hzs : z'.cells.size = s := by rw [← Array.length_toList, ← (z2.cells hzone).length, hzl]
    -- a new array is made
    have grow : ∀ (n c' : Nat) (base : Option Addr) (old : List AV) (old' : List Value) (h1 : Heap), HR G K w0 ρ h1 w → h1.n = h.n → x' = .slice base n c' → VRL ρ old old' → old.all AV.one = true → old.length = n * s →
        (∀ w2, w2.heap = w.heap → (Builtin.firstCells s n x').run P w2 = .ok old'.toArray w2) → c' < n + m → (2 * (n + m) + 1024) * by_ ≤ 1099511627776 → v = .sl h.n 0 (n + m) (n + m) s → h' = h1.push (.cells (old ++ new) true) →
        ∃ ρ' v' w', (Builtin.append_ (t :: u :: ts).toArray ty (x' :: y' :: xs).toArray).run P w = .ok v' w' ∧ Nx ρ h ρ' h' ∧ VR ρ' v v' ∧ HR G K w0 ρ' h' w' ∧ ApTy P t x v h ρ' w' := by
      intro n c' base old old' h1 H1 hn1 hxx hold hone hol r6 hno hbound hv hh
      obtain ⟨N, hN, hrun⟩ := append_grow (ty := ty) (ts := ts) (xs := xs) hu hd hni hsz hby z1 hxx r1 r2m r6 hno hby0 hbound
      have hrel : VRL ρ (old ++ new) (old' ++ new') := hold.append r3
      have h1' : (old ++ new).all AV.one = true := by rw [List.all_append, hone, r5]; rfl
      obtain ⟨q1, q2⟩ := H1.drew.pushObj (.cells (old ++ new) true) (.cells (old'.toArray ++ (new'.toArray ++ Builtin.zeroCells z'.cells (N - (n + m)))) e) ((old' ++ new').length + (N - (n + m)) * z'.cells.size)
        (fun ρ' hsub => grown_OR (hrel.mono hsub) h1')
      subst hv hh
      rw [hn1] at q1 q2
      refine ⟨_, _, _, hrun, Nx.put q1 (by show h.n ≤ h1.n + 1; omega), .sl _ 0 _ _ _ w.drew.heap.size 0 N (Ren.put_same _ _ _ _) (Nat.le_refl _) hN (fun h0 => by omega) (fun _ => ?_), q2, fun e1 b1 o1 n1 c1 k1 he1 hv1 _ => ?_⟩
      rotate_left
      · rw [helem] at he1
        cases he1
        cases hv1
        exact ⟨w.drew.heap.size, 0, old'.toArray ++ (new'.toArray ++ Builtin.zeroCells z'.cells (N - (n + m))), (0, 0), Ren.put_same _ _ _ _, by show (w.drew.heap.push _)[w.drew.heap.size]? = _; exact Array.getElem?_push_size⟩
      have hsz' : (Ren.put ρ h.n (w.drew.heap.size, 0) ((old' ++ new').length + (N - (n + m)) * z'.cells.size)).sz w.drew.heap.size = (old' ++ new').length + (N - (n + m)) * z'.cells.size := Ren.put_sz _ _ (w.drew.heap.size, 0) _
      rw [hsz', List.length_append, ← hold.length, hol, nl, hzs]
      have : N * s = n * s + m * s + (N - (n + m)) * s := by rw [← Nat.add_mul, ← Nat.add_mul]; congr 1; omega
      omega
    split at hs
    · -- nil
      cases hx
      split at hs
      · rename_i hm
        cases hs
        subst hm
        refine ⟨ρ, .slice none 0 0, w, ?_, Nx.refl _ _, .nils, H, ApTy.nils⟩
        have hnew : new' = [] := List.length_eq_zero_iff.1 (by omega)
        subst hnew
        exact append_zero hu hd hni hsz r1 (r2m w rfl) (Nat.le_refl _)
      · rename_i hm
        split at hs
        · rename_i hb
          cases hs
          exact grow 0 0 none [] [] h H rfl rfl .nil rfl (by simp) (fun w2 _ => by simp [Builtin.firstCells]) (by omega) (by simpa using hb) (by simp) (by simp)
        · cases hs
    · rename_i b o n c k
      split at hs
      · rename_i hm
        cases hs
        subst hm
        have hnew : new' = [] := List.length_eq_zero_iff.1 (by omega)
        subst hnew
        cases hx with
        | sl _ _ _ _ _ cb dd c' hρ hn hcc hxx hkk =>
          exact ⟨ρ, _, w, append_zero hu hd hni hsz r1 (r2m w rfl) (by omega), Nx.refl _ _, .sl _ _ _ _ _ cb dd c' hρ hn hcc hxx hkk, H, ApTy.same H rfl⟩
        | sl0 _ _ _ a => exact ⟨ρ, _, w, append_zero hu hd hni hsz r1 (r2m w rfl) (Nat.le_refl _), Nx.refl _ _, .sl0 _ _ _ _, H, ApTy.same H rfl⟩
      · rename_i hm
        split at hs
        case h_2 => cases hs
        rename_i cs rw hb
        split at hs
        · rename_i hfit
          split at hs
          · rename_i hcond2
            obtain ⟨hrw, hlen⟩ := hcond2
            cases hs
            have hrw' : rw = true := hrw
            subst hrw'
            cases hx with
            | sl0 => omega
            | sl _ _ _ _ _ cb dd c' hρ hn hcc hxx hkk =>
              have e2 : (n + m) * s = n * s + m * s := Nat.add_mul _ _ _
              obtain ⟨w', q1, q2⟩ := writeCells (P := P) (o := o + n * s) H hb hρ r3 r5 (by omega)
              refine ⟨ρ, _, w', append_room hu hd hni hsz r1 (r2m w rfl) (by omega) (by rw [addr_add]; exact q1), Nx.same (Nat.le_refl _), .sl _ _ _ _ _ cb dd c' hρ hfit hcc hxx hkk, q2, ApTy.same q2 rfl⟩
          · cases hs
        · rename_i hfit
          split at hs
          case isFalse => cases hs
          rename_i hcond2
          obtain ⟨hbound, hlen⟩ := hcond2
          -- what was there
          have hold : ∃ old' : List Value, VRL ρ ((cs.drop o).take (n * s)) old' ∧ ((cs.drop o).take (n * s)).all AV.one = true ∧ ((cs.drop o).take (n * s)).length = n * s ∧
              (∀ w2, w2.heap = w.heap → (Builtin.firstCells s n x').run P w2 = .ok old'.toArray w2) := by
            have := srcA_run (P := P) (s := s) (m := n) (new := (cs.drop o).take (n * s)) H (y := .sl b o n c k) (by simp [srcA, hb, hlen]) hx
            obtain ⟨old', p1, p2, p3, p4, p5⟩ := this
            refine ⟨old', p3, p5, p4, fun w2 hw => ?_⟩
            have := p2 n (Nat.le_refl _) w2 hw
            rwa [List.take_of_length_le (by rw [← p3.length, p4]; exact Nat.le_refl _)] at this
          obtain ⟨old', o1, o2, o3, o4⟩ := hold
          split at hs
          · rename_i hk0
            cases hs
            cases hx with
            | sl _ _ _ _ _ cb dd c' hρ hn hcc hxx hkk =>
              have := hxx hk0
              exact grow n c' _ _ _ h H rfl rfl o1 o2 o3 o4 (by omega) hbound rfl rfl
            | sl0 _ _ _ a => exact grow 0 0 _ _ _ h H rfl rfl o1 o2 o3 o4 (by omega) hbound rfl rfl
          · rename_i hk0
            split at hs
            case isFalse => cases hs
            rename_i hcond3
            obtain ⟨hrw, hks⟩ := hcond3
            have hrw' : rw = true := hrw
            subst hrw'
            cases hs
            have hkill := H.kill (H.lt hb)
            cases hx with
            | sl0 _ _ _ a => exact grow 0 0 _ _ _ (h.set b .gone) hkill rfl rfl o1 o2 o3 o4 (by omega) hbound rfl rfl
            | sl _ _ _ _ _ cb dd c' hρ hn hcc hxx hkk =>
              by_cases hroom : n + m ≤ c'
              · -- in place
                subst hks
                have hend := hkk hk0
                obtain ⟨ca, ea, fz, k1, ⟨k2, k2'⟩, k3, k4⟩ := H.obj b _ cb dd hb hρ
                have hfz := k4 rfl
                subst hfz
                have e2 : (n + m) * k = n * k + m * k := Nat.add_mul _ _ _
                have e3 : (n + m) * k ≤ c' * k := Nat.mul_le_mul_right _ hroom
                have hone : ∀ v ∈ new', v.oneCell' = true := by
                  intro v hv
                  obtain ⟨i, hi, hei⟩ := List.getElem_of_mem hv
                  have ha : new[i]? = some (new[i]'(by rw [r3.length]; exact hi)) := List.getElem?_eq_getElem _
                  obtain ⟨v', p1, p2⟩ := r3.get ha
                  rw [List.getElem?_eq_getElem hi, hei] at p1
                  cases p1
                  exact p2.one (List.all_eq_true.1 r5 _ (List.mem_of_getElem? ha))
                have hst := run_storeCells_at P cb (o + n * k + dd) ea new' 0 ca w k1 (by omega) hone
                refine ⟨_, _, w.setRow cb (List.take (o + n * k + dd + 0) ca.toList ++ new' ++ List.drop (o + n * k + dd + 0 + new'.length) ca.toList).toArray, append_room hu hd hni hsz r1 (r2m w rfl) hroom (by rw [addr_add]; exact hst), Nx.put (Ren.sub_put (x := (cb, dd + o)) (N := ρ.sz cb) (H.top h.n (Nat.le_refl _)).2 (fun _ _ _ => rfl)) (Nat.le_succ _), ?_,
                  ?_, fun e1 b1 o1 n1 c1 k5 he1 hv1 hx1 => ?_⟩
                rotate_left
                · refine H.move (cb := cb) (d := dd) (d' := dd + o) _ hb rfl hρ rfl rfl rfl (by rw [setRow_size]; exact Nat.le_refl _) (fun i _ hi => setRow_other w cb _ i hi) ?_ (fun c' e' fz' h' => by rw [k1] at h'; cases h'; exact ⟨_, _, setRow_get w cb ca _ ea (0, 0) k1⟩)
                  have hcl : o + n * k + dd + new'.length ≤ ca.toList.length := by have := Array.length_toList (xs := ca); omega
                  have hsub : Sub ρ (ρ.put h.n (cb, dd + o) (ρ.sz cb)) := Ren.sub_put (H.top h.n (Nat.le_refl _)).2 (fun _ _ _ => rfl)
                  refine ⟨_, ea, (0, 0), setRow_get w cb ca _ ea (0, 0) k1, ⟨by show List.length _ = _; simp only [Nat.add_zero, List.length_append, List.length_take, List.length_drop]; have := Array.length_toList (xs := ca); omega, by rw [List.length_append, o3, r4]; omega⟩, fun i v hiv => ?_, fun _ => rfl⟩
                  simp only [Nat.add_zero, List.getElem?_toArray]
                  rw [get_seg _ _ _ _ hcl]
                  by_cases hi : i < n * k
                  · rw [List.getElem?_append_left (by omega), List.getElem?_take_of_lt hi, List.getElem?_drop] at hiv
                    obtain ⟨v', p1, p2, p3⟩ := k3 (o + i) v hiv
                    refine ⟨v', ?_, p2.mono hsub, p3⟩
                    rw [if_pos (by omega), Array.getElem?_toList, ← p1]; congr 1; omega
                  · rw [List.getElem?_append_right (by omega), o3] at hiv
                    have hlt : i - n * k < m * k := by
                      have := (List.getElem?_eq_some_iff.1 hiv).1
                      omega
                    obtain ⟨v', p1, p2⟩ := r3.get hiv
                    refine ⟨v', ?_, p2.mono hsub, List.all_eq_true.1 r5 _ (List.mem_of_getElem? hiv)⟩
                    rw [if_neg (by omega), if_pos (by omega), ← p1]; congr 1; omega
                · rw [helem] at he1
                  cases he1
                  cases hv1
                  rcases hx1 with hx1 | ⟨b0, o0, n0, c0, k0, q, hx1, ht⟩
                  · cases hx1
                  · cases hx1
                    obtain ⟨cb', d', c'', fz', t1, t2, _⟩ := H.typ b e q ht
                    rw [hρ] at t1
                    cases t1
                    rw [k1] at t2
                    cases t2
                    exact ⟨cb, dd + o, _, _, Ren.put_same _ _ _ _, setRow_get w cb ca _ _ _ k1⟩
                · have ea' : (⟨cb, o + dd, none⟩ : Addr) = ⟨cb, 0 + (dd + o), none⟩ := by congr 1; omega
                  rw [ea']
                  refine .sl h.n 0 (n + m) (n + m) k cb (dd + o) c' (Ren.put_same _ _ _ _) (Nat.le_refl _) hroom (fun h0 => absurd h0 hk0) (fun _ => ?_)
                  have := Ren.put_sz ρ h.n (cb, dd + o) (ρ.sz cb)
                  dsimp only at this
                  rw [this]; omega
              · exact grow n c' _ _ _ (h.set b .gone) hkill rfl rfl o1 o2 o3 o4 (by omega) hbound rfl rfl
    · cases hs

end
end Go.Am

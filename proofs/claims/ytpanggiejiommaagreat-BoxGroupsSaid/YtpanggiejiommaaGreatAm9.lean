/- The abstract machine, part 9: each operation that neither changes what is there nor calls, as the model has it. -/
import Derived.Test.YtpanggiejiommaaGreatAm8
namespace Go.Am
set_option autoImplicit false
set_option linter.all false

section
variable {P : Program} {ρ : Ren}

theorem ofO_pure {x : Option AV} {v : AV} (h : Cls.ofO x = .pure v) : x = some v := by
  cases x with
  | none => cases h
  | some y => simp only [Cls.ofO, Cls.pure.injEq] at h; rw [h]
theorem ofO_read {x : Option AV} {b : Nat} {f : AObj → Option AV} (h : Cls.ofO x = .read b f) : False := by cases x <;> cases h
theorem ofO_alloc {x : Option AV} {o : AObj} {g : Nat → AV} (h : Cls.ofO x = .alloc o g) : False := by cases x <;> cases h

/-- What an operation of the model comes to. -/
def Runs (P : Program) (cev : Operand → Value) (o : Oper) (v : Value) (w w' : World) : Prop := (execOp cev o).run P w = .ok (.value v) w'

theorem runs_of {cev : Operand → Value} {o : Oper} {s : Sem Value} {v : Value} {w w' : World} (h : execOp cev o = (do pure (.value (← s)))) (hs : s.run P w = .ok v w') : Runs P cev o v w w' := by
  unfold Runs
  rw [h]
  simp [hs]

variable {ev : Operand → AV} {cev : Operand → Value}

theorem args_rel (hev : ∀ x, VR ρ (ev x) (cev x)) (l : List Operand) : VRL ρ (l.map ev) (l.map cev) := VRL.map _ _ _ fun x _ => hev x

theorem parts_rel (hev : ∀ x, VR ρ (ev x) (cev x)) (l : List (Nat × Operand)) :
    (l.map fun p => (p.1, ev p.2)).map (·.1) = (l.map fun p => (p.1, cev p.2)).map (·.1) ∧ VRL ρ ((l.map fun p => (p.1, ev p.2)).map (·.2)) ((l.map fun p => (p.1, cev p.2)).map (·.2)) := by
  constructor
  · simp [Function.comp_def]
  · have := VRL.map (ρ := ρ) l (fun p => ev p.2) (fun p => cev p.2) fun p _ => hev p.2
    simpa [Function.comp_def] using this

/-- The lookup of a key among entries that are known. -/
theorem lookA_run {kt e : TypeId} {k : AV} {k' : Value} {ok : Bool} {es : List AEntry} {es' : Array MapEntry} {r : AV} (h : lookA P kt e k ok es = some r) (hk : VR ρ k k') (hes : ERL ρ es es'.toList) :
    ∃ r', (∀ w, (do Instr.checkKey es'.isEmpty 10000 kt k'
                    let (v, b) ← match ← Instr.findKey kt k' es'.toList with
                      | some (_, v) => pure (v, true)
                      | none => pure (← zeroValue e, false)
                    pure (if ok then .tuple #[v, .bool b] else v) : Sem Value).run P w = .ok r' w) ∧ VR ρ r r' := by
  unfold lookA at h
  cases hko : keyOk P kt k with
  | none => rw [hko] at h; cases h
  | some ks =>
    rw [hko] at h
    simp only at h
    cases hf : findA ks k es 0 with
    | none => rw [hf] at h; cases h
    | some res =>
      cases hz : zeroT P e with
      | none => rw [hf, hz] at h; cases res <;> simp at h
      | some z =>
        rw [hf, hz] at h
        obtain ⟨z', hz1, hz2⟩ := zero_of (ρ := ρ) hz
        have key : ∃ res', (∀ w, (Instr.findKey kt k' es'.toList).run P w = .ok res' w) ∧ Found ks k es es'.toList 0 res res' := by
          obtain ⟨res', h1, h2⟩ := findKey_run hko hk default hes hf
          refine ⟨res', fun w => ?_, h2⟩
          obtain ⟨res'', h3, h4⟩ := findKey_run hko hk w hes hf
          rw [h3]
          congr 1
          cases res with
          | none => cases res' <;> cases res'' <;> first | rfl | exact h2.elim | exact h4.elim
          | some x =>
            cases res' with
            | none => exact h2.elim
            | some y =>
              cases res'' with
              | none => exact h4.elim
              | some y' =>
                obtain ⟨a1, a2, a3, a4, e1, a5, a6⟩ := h2
                obtain ⟨b1, b2, b3, b4, e2, b5, b6⟩ := h4
                rw [a5] at b5
                cases b5
                exact congrArg some (Prod.ext (b1.symm.trans a1) (b6.trans a6.symm))
        obtain ⟨res', hrun, hfound⟩ := key
        cases res with
        | none =>
          cases res' with
          | some _ => exact hfound.elim
          | none =>
            simp only [Option.some.injEq] at h
            subst h
            refine ⟨if ok then .tuple #[z', .bool false] else z', fun w => ?_, ?_⟩
            · simp [checkKey_run hko hk, hrun w, hz1 w]
            · cases ok
              · exact hz2
              · exact .tup _ _ (.cons _ _ _ _ hz2 (.cons _ _ _ _ (.bool _) .nil))
        | some x =>
          cases res' with
          | none => exact hfound.elim
          | some y =>
            obtain ⟨i, en⟩ := x
            obtain ⟨i', v'⟩ := y
            obtain ⟨a1, a2, a3, a4, e', a5, a6⟩ := hfound
            simp only [Option.some.injEq] at h
            subst h
            have hval : VR ρ en.val v' := by
              have aux : ∀ {es : List AEntry} {es' : List MapEntry} {j : Nat}, ERL ρ es es' → es[j]? = some en → es'[j]? = some e' → ER ρ en e' := by
                intro es es' j he
                induction he generalizing j with
                | nil => intro h; simp at h
                | cons a a' as as' h1 h2 ih =>
                  cases j with
                  | zero => intro q1 q2; simp at q1 q2; subst q1; subst q2; exact h1
                  | succ j => intro q1 q2; exact ih (by simpa using q1) (by simpa using q2)
              rw [a6]
              exact (aux hes a3 a5).val
            refine ⟨if ok then .tuple #[v', .bool true] else v', fun w => ?_, ?_⟩
            · simp [checkKey_run hko hk, hrun w]
            · cases ok
              · exact hval
              · exact .tup _ _ (.cons _ _ _ _ hval (.cons _ _ _ _ (.bool _) .nil))

theorem cells_OR {cs : List AV} {c : Array Value} {ρ : Ren} (h : VRL ρ cs c.toList) (h1 : cs.all AV.one = true) (e : TypeId) (rw : Bool) : ∃ N, OR ρ N (some (.cells c e (0, 0))) 0 (.cells cs rw) := by
  refine ⟨c.size, c, e, (0, 0), rfl, ⟨rfl, by rw [h.length]; simp⟩, fun i v hv => ?_, fun _ => rfl⟩
  obtain ⟨v', h2, h3⟩ := h.get hv
  refine ⟨v', by rw [Nat.zero_add, ← Array.getElem?_toList]; exact h2, h3, ?_⟩
  exact List.all_eq_true.1 h1 v (List.mem_of_getElem? hv)

theorem zerosA_length (z : List AV) (n : Nat) : (zerosA z n).length = n * z.length := by
  induction n with
  | zero => simp [zerosA]
  | succ n ih => simp [zerosA, ih, Nat.succ_mul]; omega

theorem zerosA_rel {z : List AV} {z' : Array Value} (h : VRL ρ z z'.toList) (hz : 0 < z.length) (n : Nat) : VRL ρ (zerosA z n) (madeCells z' (n * z.length)).toList := by
  have hl := h.length
  have hl' : z.length = z'.size := by simpa using hl
  refine VRL.of_get (by simp [zerosA_length, madeCells]) fun i a v ha hv => ?_
  have hlt : i < n * z.length := by
    have := (List.getElem?_eq_some_iff.1 ha).1
    rwa [zerosA_length] at this
  have hmod : i % z.length < z.length := Nat.mod_lt _ hz
  have e1 : (zerosA z n)[i]? = z[i % z.length]? := by
    clear ha hv
    induction n generalizing i with
    | zero => simp at hlt
    | succ n ih =>
      simp only [zerosA]
      by_cases hi : i < z.length
      · rw [List.getElem?_append_left hi, Nat.mod_eq_of_lt hi]
      · rw [List.getElem?_append_right (by omega), ih (i - z.length) (by rw [Nat.succ_mul] at hlt; omega) (Nat.mod_lt _ hz)]
        congr 1
        rw [← Nat.mod_eq_sub_mod (by omega)]
  rw [e1] at ha
  obtain ⟨v', h2, h3⟩ := h.get ha
  have e2 : (madeCells z' (n * z.length)).toList[i]? = some v' := by
    rw [Array.getElem?_toList]
    unfold madeCells
    rw [Array.getElem?_map, Array.getElem?_range]
    rw [Array.getElem?_toList] at h2
    have hmod' : i % z'.size < z'.size := Nat.mod_lt _ (by omega)
    have h2' : z'[i % z'.size]? = some v' := by rw [← hl']; exact h2
    simp only [hlt, if_true, Option.map_some]
    congr 1
    rw [getElem!_pos z' _ hmod']
    exact (Array.getElem?_eq_some_iff.1 h2').2
  rw [e2] at hv
  cases hv
  exact h3

theorem zerosA_one {z : List AV} (h : z.all AV.one = true) (n : Nat) : (zerosA z n).all AV.one = true := by
  induction n with
  | zero => rfl
  | succ n ih => simp [zerosA, List.all_append, h, ih]

theorem fillA_one {place : Nat → Option (Nat × Nat)} {cs r : List AV} {parts : List (Nat × AV)} (h : fillA place cs parts = some r) (h1 : cs.all AV.one = true) : r.all AV.one = true := by
  induction parts generalizing cs with
  | nil => simp only [fillA, Option.some.injEq] at h; subst h; exact h1
  | cons p parts ih =>
    obtain ⟨i, v⟩ := p
    simp only [fillA] at h
    split at h
    · cases h
    · split at h
      · rename_i hc
        refine ih h ?_
        rw [List.all_append, List.all_append, Bool.and_eq_true, Bool.and_eq_true]
        refine ⟨⟨?_, hc.2.2⟩, ?_⟩ <;> rw [List.all_eq_true] at h1 ⊢
        · exact fun x hx => h1 x (List.mem_of_mem_take hx)
        · exact fun x hx => h1 x (List.mem_of_mem_drop hx)
      · cases h

theorem lenA_alloc {t : TypeId} {x : AV} {o : AObj} {g : Nat → AV} (h : lenA P t x = .alloc o g) : False := by
  unfold lenA at h
  split at h <;> cases h
theorem capA_alloc {t : TypeId} {x : AV} {o : AObj} {g : Nat → AV} (h : capA P t x = .alloc o g) : False := by
  unfold capA at h
  split at h <;> cases h
theorem capA_read {t : TypeId} {x : AV} {b : Nat} {f : AObj → Option AV} (h : capA P t x = .read b f) : False := by
  unfold capA at h
  split at h <;> cases h

/-- What is shown of an operation that makes a block. -/
def AllocOk (P : Program) (ρ : Ren) (cev : Operand → Value) (o : Oper) (x : AObj) (g : Nat → AV) : Prop :=
  ∃ (ox : Obj) (v' : Nat → Value), (∀ w : World, Runs P cev o (v' w.heap.size) w (w.alloc ox)) ∧ ∀ (ρ' : Ren) (b cb : Nat), Sub ρ ρ' → ρ' b = some (cb, 0) → VR ρ' (g b) (v' cb) ∧ ∃ N, OR ρ' N (some ox) 0 x

theorem ptr_new {ρ' : Ren} {b cb : Nat} (h : ρ' b = some (cb, 0)) : VR ρ' (.ptr b 0) (.pointer (some ⟨cb, 0, none⟩)) := .ptr b 0 cb 0 h

theorem newVar_alloc {cs : AV} {v : Value} {t : TypeId} {o : Oper} (hv : VR ρ cs v) (h1 : cs.cells.all AV.one = true)
    (hr : ∀ w : World, (execOp cev o).run P w = .ok (.value (.pointer (some ⟨w.heap.size, 0, none⟩))) (w.alloc (.cells v.cells t))) : AllocOk P ρ cev o (.cells cs.cells true) (.ptr · 0) :=
  ⟨.cells v.cells t, fun n => .pointer (some ⟨n, 0, none⟩), hr, fun ρ' b cb hs hb => ⟨ptr_new hb, cells_OR ((hv.cells h1).mono hs) h1 t true⟩⟩

theorem cls_alloc {o : Oper} {x : AObj} {g : Nat → AV} (h : cls P ev o = .alloc x g) (hev : ∀ x, VR ρ (ev x) (cev x)) : AllocOk P ρ cev o x g := by
  unfold cls at h
  split at h <;> first | (cases h; done) | (exact (ofO_alloc h).elim) | skip
  case h_3 c a b hop => split at h <;> cases h
  case h_4 t hop =>
    split at h
    · rename_i z hz
      split at h
      · rename_i h1
        cases h
        obtain ⟨z', hz1, hz2⟩ := zero_of (ρ := ρ) hz
        refine newVar_alloc (t := t) hz2 h1 fun w => ?_
        simp [execOp, hop, Instr.alloc, hz1 w, newVar, newRow]
      · cases h
    · cases h
  case h_5 t y hop =>
    split at h
    · rename_i h1
      cases h
      refine newVar_alloc (t := t) (hev y) h1 fun w => ?_
      simp [execOp, hop, Instr.box, newVar, newRow]
    · cases h
  case h_7 t len ps hop =>
    split at h
    · cases h
    · rename_i e he
      split at h
      · rename_i z s hz hs
        split at h
        · rename_i hc
          obtain ⟨c1, c2, c3, c4⟩ := hc
          split at h
          · rename_i cs hf
            cases h
            unfold elemT at he
            split at he
            · rename_i _ hu
              cases he
              obtain ⟨z', hz1, hz2⟩ := zero_of (ρ := ρ) hz
              have hzc := hz2.cells c4
              have hzl : z'.cells.size = s := by rw [← Array.length_toList, ← hzc.length, c1]
              have hzr := zerosA_rel hzc (by omega) len
              rw [c1] at hzr
              obtain ⟨p1, p2⟩ := parts_rel hev ps.toList
              obtain ⟨r', h1, h2⟩ := fillA_run (fun i => some (i * s, s)) p1 p2 hf hzr
              refine ⟨.cells r' e, fun n => .slice (some ⟨n, 0, none⟩) len len, fun w => ?_, fun ρ' b cb hsub hb => ⟨?_, cells_OR (h2.mono hsub) (fillA_one hf (zerosA_one c4 len)) e true⟩⟩
              · refine runs_of (s := Instr.buildSlice t len (ps.map fun (i, x) => (i, cev x))) (by simp [execOp, hop]) ?_
                have hn : ¬ (len * s > 2 ^ 24) := by omega
                have hm : (madeCells z'.cells (len * s)).toList.toArray = madeCells z'.cells (len * s) := by simp
                rw [hm] at h1
                have e1 : (ps.map fun (x : Nat × Operand) => (x.1, cev x.2)).toList = ps.toList.map fun p => (p.1, cev p.2) := by simp
                by_cases hz0 : len * s = 0
                · have hl0 : madeCells z'.cells (len * s) = #[] := by simp [madeCells, hz0]
                  rw [hl0] at h1
                  simp only [Instr.buildSlice, Sem.run_bind, run_underlying hu, Result.andThen_ok, run_sizeT hs, hn, if_false, hz0, if_true, Sem.run_pure, e1]
                  simp only [Array.range_zero', Array.map_empty] at *
                  simp [h1, newRow]
                · simp only [Instr.buildSlice, Sem.run_bind, run_underlying hu, Result.andThen_ok, run_sizeT hs, hn, if_false, hz0, Sem.run_pure, hz1 w, e1]
                  rw [show (Array.range (len * s)).map (fun x => z'.cells[x % z'.cells.size]!) = madeCells z'.cells (len * s) from rfl]
                  simp [h1, newRow]
              · exact .sl b 0 len len 0 cb 0 len hb (Nat.le_refl _) (Nat.le_refl _) (fun _ => rfl) (fun h => absurd rfl h)
            · cases he
          · cases h
        · cases h
      · cases h
  case h_15 t r hop =>
    have fin : ∀ k e, P.underlying t = some (.map k e) → (r = none ∨ ∃ y j n, r = some y ∧ cev y = .int j n) → AllocOk P ρ cev o (.map [] 0) .map := by
      intro k e hu hr
      refine ⟨.map #[] 0, fun n => .map (some n), fun w => ?_, fun ρ' b cb hsub hb => ⟨.map b cb 0 hb, 0, #[], rfl, .nil⟩⟩
      refine runs_of (s := Instr.makeMap t (r.map cev)) (by simp [execOp, hop]) ?_
      rcases hr with rfl | ⟨y, j, n, rfl, hy⟩
      · simp [Instr.makeMap]
      · simp [Instr.makeMap, run_underlying hu, hy, asInt, asIntOf]
    cases r with
    | none =>
      simp only [Option.map_none] at h
      split at h
      · rename_i hu _
        cases h
        exact fin _ _ hu (.inl rfl)
      · rename_i hu _ _ hh
        cases hh
      · cases h
    | some y =>
      simp only [Option.map_some] at h
      split at h
      · rename_i hh; cases hh
      · rename_i j n hu hh
        cases h
        simp only [Option.some.injEq] at hh
        have hy := hev y
        rw [hh] at hy
        generalize hc : cev y = vy at hy
        cases hy
        exact fin _ _ hu (.inr ⟨y, j, n, rfl, hc⟩)
      · cases h
  case h_16 t l c hop =>
    split at h
    · rename_i e l' c' he hl hc
      split at h
      · rename_i z s by_ hz hs hby
        split at h
        · rename_i hcond
          obtain ⟨c1, c2, c3, c4, c5, c6, c7⟩ := hcond
          cases h
          unfold elemT at he
          split at he
          · rename_i _ hu
            cases he
            obtain ⟨z', hz1, hz2⟩ := zero_of (ρ := ρ) hz
            have hzc := hz2.cells c7
            have hzr := zerosA_rel hzc (by omega) c'.toNat
            rw [c5] at hzr
            obtain ⟨i, hi, his⟩ := info_of_size hs
            have hzi : i.zero = some z' := by
              have := hz1 default
              simp [zeroValue, typeInfo, hi] at this
              cases hiz : i.zero <;> simp_all
            have hbi : i.bytes = by_ := by simpa [bytesT, hi] using hby
            refine ⟨.cells (madeCells z'.cells (c'.toNat * s)) e, fun n => .slice (some ⟨n, 0, none⟩) l'.toNat c'.toNat, fun w => ?_, fun ρ' b cb hsub hb => ⟨?_, cells_OR (hzr.mono hsub) (zerosA_one c7 _) e true⟩⟩
            · refine runs_of (s := Instr.makeSlice t (cev l) (cev c)) (by simp [execOp, hop]) ?_
              have h1 := hev l
              have h2 := hev c
              rw [hl] at h1
              rw [hc] at h2
              generalize cev l = vl at h1 ⊢
              generalize cev c = vc at h2 ⊢
              cases h1
              cases h2
              have := run_make (P := P) w t e i z' hu hi hzi .i64 .i64 l' c' c1 c2 (by rw [hbi, show c' = (c'.toNat : Int) from by omega, ← Int.natCast_mul]; omega) (by omega)
              rw [his] at this
              exact this
            · exact .sl b 0 _ _ 0 cb 0 _ hb (by omega) (Nat.le_refl _) (fun _ => rfl) (fun h => absurd rfl h)
          · cases he
        · cases h
      · cases h
    · cases h
  all_goals ((repeat' (split at h)) <;> first | (cases h; done) | exact (ofO_alloc h).elim | exact (lenA_alloc h).elim | exact (capA_alloc h).elim)

def PureOk (P : Program) (ρ : Ren) (cev : Operand → Value) (o : Oper) (v : AV) : Prop := ∃ v', (∀ w, Runs P cev o v' w w) ∧ VR ρ v v'

theorem pure_of {o : Oper} {v : AV} {sm : Sem Value} (h : execOp cev o = (do pure (.value (← sm)))) (hs : ∃ v', (∀ w, sm.run P w = .ok v' w) ∧ VR ρ v v') : PureOk P ρ cev o v := by
  obtain ⟨v', h1, h2⟩ := hs
  exact ⟨v', fun w => runs_of h (h1 w), h2⟩

theorem lenA_pure {t : TypeId} {ts : List TypeId} {ty : TypeId} {x v : AV} {x' : Value} {xs : List Value} (h : lenA P t x = .pure v) (hx : VR ρ x x') :
    ∃ v', (∀ w, (Builtin.len_ (t :: ts).toArray ty (x' :: xs).toArray).run P w = .ok v' w) ∧ VR ρ v v' := by
  unfold lenA at h
  split at h <;> cases h
  case h_1 s hu =>
    cases hx with
    | str ba => exact ⟨.int .i64 ba.size, fun w => by simp [Builtin.len_, run_underlying hu, goInt], by simpa using VR.int (ρ := ρ) .i64 ba.size⟩
  case h_2 n e hu => exact ⟨.int .i64 n, fun w => by simp [Builtin.len_, run_underlying hu, goInt], .int _ _⟩
  case h_3 e b o n c ex hu =>
    cases hx with
    | sl => exact ⟨.int .i64 n, fun w => by simp [Builtin.len_, run_underlying hu, goInt], .int _ _⟩
    | sl0 => exact ⟨.int .i64 0, fun w => by simp [Builtin.len_, run_underlying hu, goInt], .int _ _⟩
  case h_4 e hu => cases hx; exact ⟨.int .i64 0, fun w => by simp [Builtin.len_, run_underlying hu, goInt], .int _ _⟩
  case h_5 k e hu => cases hx; exact ⟨.int .i64 0, fun w => by simp [Builtin.len_, run_underlying hu, goInt], .int _ _⟩

theorem capA_pure {t : TypeId} {ts : List TypeId} {ty : TypeId} {x v : AV} {x' : Value} {xs : List Value} (h : capA P t x = .pure v) (hx : VR ρ x x') :
    ∃ v', (∀ w, (Builtin.cap_ (t :: ts).toArray ty (x' :: xs).toArray).run P w = .ok v' w) ∧ VR ρ v v' := by
  unfold capA at h
  split at h <;> cases h
  case h_1 n e hu => exact ⟨.int .i64 n, fun w => by simp [Builtin.cap_, run_underlying hu, goInt], .int _ _⟩
  case h_2 e b o n c hu =>
    cases hx with
    | sl _ _ _ _ _ cb d c' hρ hn hc hxx hkk =>
      have := hxx rfl
      subst this
      exact ⟨.int .i64 c, fun w => by simp [Builtin.cap_, run_underlying hu, goInt], .int _ _⟩
    | sl0 => exact ⟨.int .i64 0, fun w => by simp [Builtin.cap_, run_underlying hu, goInt], .int _ _⟩
  case h_3 e hu => cases hx; exact ⟨.int .i64 0, fun w => by simp [Builtin.cap_, run_underlying hu, goInt], .int _ _⟩

theorem cls_pure {o : Oper} {v : AV} (h : cls P ev o = .pure v) (hev : ∀ x, VR ρ (ev x) (cev x)) : PureOk P ρ cev o v := by
  unfold cls at h
  split at h <;> first | (cases h; done) | skip
  case h_1 x hop => cases h; exact ⟨cev x, fun w => by simp [Runs, execOp, hop], hev x⟩
  case h_2 x hop => cases h; exact ⟨cev x, fun w => by simp [Runs, execOp, hop], hev x⟩
  case h_3 c a b hop =>
    split at h
    · rename_i t ht
      cases h
      have hc := hev c
      rw [ht] at hc
      generalize hcv : cev c = vc at hc
      cases hc
      refine ⟨if t then cev a else cev b, fun w => by simp [Runs, execOp, hop, hcv, asBool], ?_⟩
      cases t
      · exact hev b
      · exact hev a
    · cases h
  case h_4 t hop => split at h <;> first | (cases h; done) | (split at h <;> cases h)
  case h_5 t x hop => split at h <;> cases h
  case h_6 t ps hop =>
    obtain ⟨p1, p2⟩ := parts_rel hev ps.toList
    obtain ⟨v', h1, h2⟩ := buildA_run (ofO_pure h) p1 p2
    refine pure_of (sm := Instr.build t (ps.map fun (i, x) => (i, cev x))) (by simp [execOp, hop]) ⟨v', fun w => ?_, h2⟩
    rw [← h1 w]
    congr 2
    apply Array.ext'
    simp
  case h_7 => (repeat' (split at h)) <;> cases h
  case h_8 => split at h <;> cases h
  case h_9 x hop =>
    have hx := hev x
    split at h <;> first | (cases h; done) | skip
    all_goals
      rename_i he
      rw [he] at hx
      cases h
      generalize hcv : cev x = vx at hx
      cases hx
    · exact ⟨cev x, fun w => by simp [Runs, execOp, hop, hcv], by rw [hcv]; exact .ptr _ _ _ _ (by assumption)⟩
    · rename_i f' vs ws hf h1 h2
      cases hf
      exact ⟨cev x, fun w => by simp [Runs, execOp, hop, hcv], by rw [hcv]; exact .fn _ _ _ _ _ _ (.func _) (by assumption) (by assumption)⟩
    · rename_i hf h1 h2
      cases hf
      exact ⟨cev x, fun w => by simp [Runs, execOp, hop, hcv], by rw [hcv]; exact .fn _ _ _ _ _ _ (.yield _ _ (by assumption)) (by assumption) (by assumption)⟩
  case h_10 op t x y u hop => exact pure_of (sm := do eqGuard op t x y (cev x) (cev y); binOp op t (cev x) (cev y)) (by simp [execOp, hop]) (binA_run (ofO_pure h) (hev x) (hev y))
  case h_11 op t x hop => exact pure_of (sm := Op.unary op (cev x)) (by simp [execOp, hop]) (unA_run (ofO_pure h) (hev x))
  case h_12 s d x hop =>
    refine pure_of (sm := convert s d (cev x)) (by simp [execOp, hop]) ?_
    split at h
    · rename_i e hs hd hx
      split at h
      · rename_i he
        cases h
        have hv := hev x
        rw [hx] at hv
        generalize cev x = vx at hv ⊢
        cases hv
        exact ⟨.string .empty, fun w => by simp [convert, run_underlying hs, run_underlying hd, run_underlying he, Conv.bytesToString], .str .empty⟩
      · cases h
    · rename_i e b o n c ex hs hd hx
      split at h
      · rename_i he
        split at h
        · rename_i hn
          cases h
          subst hn
          have hv := hev x
          rw [hx] at hv
          generalize cev x = vx at hv ⊢
          have hb : ∀ (a : Addr) (c' : Nat) (w : World), (convert s d (.slice (some a) 0 c')).run P w = .ok (.string .empty) w := fun a c' w => by
            simp [convert, run_underlying hs, run_underlying hd, run_underlying he, Conv.bytesToString, loadCells, loadCellsFrom]
          cases hv with
          | sl => exact ⟨.string .empty, fun w => hb _ _ w, .str .empty⟩
          | sl0 => exact ⟨.string .empty, fun w => hb _ _ w, .str .empty⟩
        · cases h
      · cases h
    · exact convA_run (ofO_pure h) (hev x)
  case h_13 t x hop =>
    split at h <;> cases h
    rename_i d hnot hu
    exact ⟨.iface t (cev x), fun w => by
      refine runs_of (s := Instr.makeInterface t (cev x)) (by simp [execOp, hop]) ?_
      cases d <;> first | exact (hnot _ rfl).elim | simp [Instr.makeInterface, run_underlying hu], .iface _ _ _ (hev x)⟩
  case h_14 f a c hop =>
    split at h <;> cases h
    refine ⟨.func _ (a.map cev) (c.map cev), fun w => by simp [Runs, execOp, hop, Instr.makeFunc], .fn _ _ _ _ _ _ (.func _) ?_ ?_⟩
    · simpa using args_rel hev a.toList
    · simpa using args_rel hev c.toList
  case h_15 => (repeat' (split at h)) <;> cases h
  case h_16 => (repeat' (split at h)) <;> cases h
  case h_17 t x lo hi mx hop =>
    exact pure_of (sm := Instr.sliceAt t (cev x) (lo.map cev) (hi.map cev) (mx.map cev)) (by simp [execOp, hop]) (sliceA_run (ofO_pure h) (hev x) (VRO.map ev cev hev lo) (VRO.map ev cev hev hi) (VRO.map ev cev hev mx))
  case h_18 t x f hop =>
    split at h
    · rename_i fs b o hfs hx
      split at h
      · rename_i fd hfd
        split at h
        · rename_i n hs
          cases h
          have hv := hev x
          rw [hx] at hv
          generalize hcv : cev x = vx at hv
          cases hv with
          | ptr _ _ cb d hρ =>
            unfold fieldsT at hfs
            split at hfs
            · rename_i fs' hu
              cases hfs
              rw [Array.getElem?_toList] at hfd
              refine ⟨_, fun w => runs_of (s := Instr.fieldAt t (cev x) f) (by simp [execOp, hop]) ?_, .ptr _ _ cb d hρ⟩
              rw [hcv]
              simp only [Instr.fieldAt, Sem.run_bind, run_underlying hu, Result.andThen_ok, hfd, Instr.sureAddr, Sem.run_pure, fieldPlace, run_sizeT hs, Nat.add_one_ne_zero, if_false, addr_add]
            · cases hfs
        · cases h
      · cases h
    · cases h
  case h_19 t x f hop =>
    split at h
    · rename_i fs cs hfs hx
      split at h
      · rename_i fd hfd
        have hv := hev x
        rw [hx] at hv
        generalize hcv : cev x = vx at hv
        cases hv with
        | agg _ vs hvs =>
          unfold fieldsT at hfs
          split at hfs
          · rename_i fs' hu
            cases hfs
            rw [Array.getElem?_toList] at hfd
            obtain ⟨v', h1, h2⟩ := partA_run (ofO_pure h) hvs
            refine pure_of (sm := Instr.field t (cev x) f) (by simp [execOp, hop]) ⟨v', fun w => ?_, h2⟩
            rw [hcv]
            have := h1 w
            simp only [Array.toArray_toList] at this
            simp [Instr.field, run_underlying hu, hfd, asAgg, this]
          · cases hfs
      · cases h
    · cases h
  case h_20 t x i hop => exact pure_of (sm := Instr.indexAt t (cev x) (cev i)) (by simp [execOp, hop]) (indexAddrA_run (ofO_pure h) (hev x) (hev i))
  case h_21 t x i hop => exact pure_of (sm := Instr.index t (cev x) (cev i)) (by simp [execOp, hop]) (indexA_run (ofO_pure h) (hev x) (hev i))
  case h_22 t x i ok hop =>
    split at h
    · rename_i k e hu hx
      have hv := hev x
      rw [hx] at hv
      generalize hcv : cev x = vx at hv
      cases hv
      obtain ⟨v', h1, h2⟩ := lookA_run (ofO_pure h) (hev i) (es' := #[]) .nil
      refine pure_of (sm := Instr.lookup t (cev x) (cev i) ok) (by simp [execOp, hop]) ⟨v', fun w => ?_, h2⟩
      rw [← h1 w, hcv]
      simp only [Instr.lookup, Sem.run_bind, run_underlying hu, Result.andThen_ok, Sem.run_pure]
      rfl
    · cases h
    · cases h
  case h_23 x i hop =>
    split at h
    · rename_i vs hx
      have hv := hev x
      rw [hx] at hv
      generalize hcv : cev x = vx at hv
      cases hv with
      | tup _ us hu =>
        obtain ⟨v', h1, h2⟩ := hu.get (ofO_pure h)
        rw [Array.getElem?_toList] at h1
        exact ⟨v', fun w => runs_of (s := Instr.extract (cev x) i) (by simp [execOp, hop]) (by rw [hcv]; simp [Instr.extract, h1]), h2⟩
    · cases h
  case h_24 c hop =>
    split at h
    · rename_i x xs hcal hty hargs
      have hr := args_rel hev c.args.toList
      rw [hargs] at hr
      generalize hca : c.args.toList.map cev = cargs at hr
      have hty' : c.argTypes = (c.argTypes.toList).toArray := by simp
      have hca' : c.args.map cev = cargs.toArray := by apply Array.ext'; simpa using hca
      cases hr with
      | cons _ x' _ xs' hx hxs =>
        rw [hty] at hty'
        exact pure_of (sm := Builtin.len_ c.argTypes o.type (c.args.map cev)) (by simp [execOp, hop, resolve, hcal, invoke, builtin]) (by rw [hty', hca']; exact lenA_pure h hx)
    · rename_i x xs hcal hty hargs
      have hr := args_rel hev c.args.toList
      rw [hargs] at hr
      generalize hca : c.args.toList.map cev = cargs at hr
      have hty' : c.argTypes = (c.argTypes.toList).toArray := by simp
      have hca' : c.args.map cev = cargs.toArray := by apply Array.ext'; simpa using hca
      cases hr with
      | cons _ x' _ xs' hx hxs =>
        rw [hty] at hty'
        exact pure_of (sm := Builtin.cap_ c.argTypes o.type (c.args.map cev)) (by simp [execOp, hop, resolve, hcal, invoke, builtin]) (by rw [hty', hca']; exact capA_pure h hx)
    · rename_i hcal hargs
      have hr := args_rel hev c.args.toList
      rw [hargs] at hr
      generalize hca : c.args.toList.map cev = cargs at hr
      have hca' : c.args.map cev = cargs.toArray := by apply Array.ext'; simpa using hca
      cases hr with
      | cons _ x' _ xs' hx hxs =>
        obtain ⟨v', h1, h2⟩ := minA_run (P := P) true (ofO_pure h) hx hxs
        exact pure_of (sm := Builtin.min_ c.argTypes o.type (c.args.map cev)) (by simp [execOp, hop, resolve, hcal, invoke, builtin]) ⟨v', fun w => by rw [hca']; simpa [Builtin.min_] using h1 w, h2⟩
    · rename_i hcal hargs
      have hr := args_rel hev c.args.toList
      rw [hargs] at hr
      generalize hca : c.args.toList.map cev = cargs at hr
      have hca' : c.args.map cev = cargs.toArray := by apply Array.ext'; simpa using hca
      cases hr with
      | cons _ x' _ xs' hx hxs =>
        obtain ⟨v', h1, h2⟩ := minA_run (P := P) false (ofO_pure h) hx hxs
        exact pure_of (sm := Builtin.max_ c.argTypes o.type (c.args.map cev)) (by simp [execOp, hop, resolve, hcal, invoke, builtin]) ⟨v', fun w => by rw [hca']; simpa [Builtin.max_] using h1 w, h2⟩
    · cases h

/-- What is shown of an operation that reads one block. -/
def ReadOk (P : Program) (ρ : Ren) (cev : Operand → Value) (o : Oper) (b : Nat) (f : AObj → Option AV) : Prop :=
  ∃ cb d, ρ b = some (cb, d) ∧ ∀ (ρ' : Ren) (w : World) (N : Nat) (x : AObj) (v : AV), Sub ρ ρ' → OR ρ' N (w.heap[cb]?) d x → f x = some v → ∃ v', Runs P cev o v' w w ∧ VR ρ' v v'

theorem cellsAt {cs : List AV} {rw : Bool} {w : World} {cb d o n N : Nat} {ρ : Ren} (h : OR ρ N (w.heap[cb]?) d (.cells cs rw)) (hl : o + n ≤ cs.length) :
    ∃ l : List Value, l.length = n ∧ VRL ρ ((cs.drop o).take n) l ∧ (∀ v ∈ l, v.oneCell' = true) ∧ (∀ j v, l[j]? = some v → w.cell? ((⟨cb, o + d, none⟩ : Addr).add j) = some v) ∧ ∀ j v, l[j]? = some v → ∃ c e fz, w.heap[cb]? = some (.cells c e fz) ∧ c[d + o + j]? = some v := by
  obtain ⟨c, e, fz, h1, h0, h2, h3⟩ := h
  have hc : ∀ j, j < n → ∃ a v, cs[o + j]? = some a ∧ c[d + o + j]? = some v ∧ VR ρ a v ∧ v.oneCell' = true := fun j hj => by
    have hlt : o + j < cs.length := by omega
    obtain ⟨v, k1, k2, k3⟩ := h2 (o + j) cs[o + j] (List.getElem?_eq_getElem hlt)
    exact ⟨_, v, List.getElem?_eq_getElem hlt, by rw [Nat.add_assoc]; exact k1, k2, k2.one k3⟩
  refine ⟨(List.range n).map fun j => (c[d + o + j]?).getD undef, by simp, ?_, ?_, ?_, ?_⟩
  · refine VRL.of_get (by simp; omega) fun i a v ha hv => ?_
    have hi : i < n := by
      have := (List.getElem?_eq_some_iff.1 hv).1
      simpa using this
    obtain ⟨a', v', k1, k2, k3, k4⟩ := hc i hi
    rw [List.getElem?_take_of_lt hi, List.getElem?_drop, k1] at ha
    cases ha
    simp [List.getElem?_map, List.getElem?_range hi, k2] at hv
    rw [← hv]; exact k3
  · intro v hv
    simp only [List.mem_map, List.mem_range] at hv
    obtain ⟨j, hj, rfl⟩ := hv
    obtain ⟨a', v', k1, k2, k3, k4⟩ := hc j hj
    rw [k2]; exact k4
  · intro j v hv
    have hj : j < n := by
      have := (List.getElem?_eq_some_iff.1 hv).1
      simpa using this
    obtain ⟨a', v', k1, k2, k3, k4⟩ := hc j hj
    simp [List.getElem?_map, List.getElem?_range hj, k2] at hv
    subst hv
    rw [addr_add]
    simp only [World.cell?, h1]
    rw [← k2]
    simp only [Option.isSome_none, Bool.false_eq_true, if_false]
    congr 1
    omega
  · intro j v hv
    have hj : j < n := by
      have := (List.getElem?_eq_some_iff.1 hv).1
      simpa using this
    obtain ⟨a', v', k1, k2, k3, k4⟩ := hc j hj
    simp [List.getElem?_map, List.getElem?_range hj, k2] at hv
    subst hv
    exact ⟨c, e, fz, h1, k2⟩

theorem loadA_run {t : TypeId} {o cb d N : Nat} {x : AObj} {v : AV} {w : World} {ρ : Ren} (h : loadA P t o x = some v) (hor : OR ρ N (w.heap[cb]?) d x) :
    ∃ v', (loadVar t ⟨cb, o + d, none⟩).run P w = .ok v' w ∧ VR ρ v v' := by
  unfold loadA at h
  split at h
  · rename_i cs rw
    cases ha : aggT P t with
    | none => rw [ha] at h; simp at h
    | some b =>
      cases hs : sizeT P t with
      | none => rw [ha, hs] at h; cases b <;> simp at h
      | some s =>
        rw [ha, hs] at h
        cases b with
        | true =>
          simp only at h
          split at h
          · rename_i hl
            simp only [Option.some.injEq] at h
            subst h
            obtain ⟨l, k1, k2, k3, k4, -⟩ := cellsAt hor hl
            refine ⟨.agg l.toArray, ?_, .agg _ _ (by simpa using k2)⟩
            have := run_loadCells_list (P := P) w ⟨cb, o + d, none⟩ l k4
            rw [k1] at this
            simp [loadVar, run_isAgg ha, run_sizeT hs, this]
          · cases h
        | false =>
          simp only at h
          have hlt : o + 1 ≤ cs.length := (List.getElem?_eq_some_iff.1 h).1
          obtain ⟨l, k1, k2, k3, k4, -⟩ := cellsAt hor hlt
          have e1 : (cs.drop o).take 1 = [v] := by
            rw [List.drop_eq_getElem_cons (by omega)]
            simp only [List.take_succ_cons, List.take_zero]
            rw [(List.getElem?_eq_some_iff.1 h).2]
          rw [e1] at k2
          cases k2 with
          | cons _ v' _ _ hv hnil =>
            cases hnil
            refine ⟨v', ?_, hv⟩
            have := k4 0 v' rfl
            rw [Addr.add_zero'] at this
            simp [loadVar, run_isAgg ha, this]
  · cases h

theorem bytesOf_run {l : List AV} {l' : List Value} {bs : List UInt8} (h : bytesOfA l = some bs) (hl : VRL ρ l l') (w : World) (g : Value → ByteArray → Sem (ForInStep ByteArray))
    (hg : ∀ n s, g (.int .u8 n) s = pure (.yield (s.push (UInt8.ofNat n.toNat)))) : ∀ s : ByteArray, (forIn l' s g).run P w = .ok ⟨(s.data.toList ++ bs).toArray⟩ w := by
  induction l generalizing l' bs with
  | nil => cases hl; simp only [bytesOfA, Option.some.injEq] at h; subst h; intro s; simp
  | cons a l ih =>
    cases hl with
    | cons _ v _ vs hv hvs =>
      have hk : ∃ n, a = .int .u8 n := by
        cases a <;> first | (simp [bytesOfA] at h; done) | skip
        rename_i k n
        cases k <;> first | exact ⟨n, rfl⟩ | (simp [bytesOfA] at h)
      obtain ⟨n, rfl⟩ := hk
      simp only [bytesOfA, Option.map_eq_some_iff] at h
      obtain ⟨bs', hb, rfl⟩ := h
      cases hv with
      | int =>
        intro s
        have := ih hb hvs (s.push (UInt8.ofNat n.toNat))
        simp only [List.forIn_cons, hg, Sem.run_bind, Sem.run_pure, Result.andThen_ok, this]
        simp

theorem cls_read {o : Oper} {b : Nat} {f : AObj → Option AV} (h : cls P ev o = .read b f) (hev : ∀ x, VR ρ (ev x) (cev x)) : ReadOk P ρ cev o b f := by
  unfold cls at h
  split at h <;> first | (cases h; done) | exact (ofO_read h).elim | skip
  case h_3 => split at h <;> cases h
  case h_4 => split at h <;> first | (cases h; done) | (split at h <;> cases h)
  case h_5 => split at h <;> cases h
  case h_7 => (repeat' (split at h)) <;> cases h
  case h_8 t a hop =>
    split at h
    · rename_i b' o' ha
      cases h
      have hv := hev a
      rw [ha] at hv
      generalize hcv : cev a = va at hv
      cases hv with
      | ptr _ _ cb d hρ =>
        refine ⟨cb, d, hρ, fun ρ' w N x v hs hor hf => ?_⟩
        obtain ⟨v', h1, h2⟩ := loadA_run hf hor
        exact ⟨v', runs_of (s := Instr.loadAt t (cev a)) (by simp [execOp, hop]) (by rw [hcv]; simpa [Instr.loadAt, Instr.sureAddr] using h1), h2⟩
    · cases h
  case h_9 => split at h <;> cases h
  case h_12 s d x hop =>
    split at h
    · split at h <;> cases h
    · rename_i e b o n c ex hs hd hx
      split at h
      · rename_i he
        split at h
        · cases h
        · rename_i hn
          cases h
          have hv := hev x
          rw [hx] at hv
          generalize hcv : cev x = vx at hv
          cases hv with
          | sl0 => exact absurd rfl hn
          | sl _ _ _ _ _ cb dd c' hρ hn' hc hxx hkk =>
            refine ⟨cb, dd, hρ, fun ρ' w N y v hsub hor hf => ?_⟩
            dsimp only at hf
            split at hf
            · rename_i cs rw
              split at hf
              · rename_i hl
                simp only [Option.map_eq_some_iff] at hf
                obtain ⟨bs, hbs, rfl⟩ := hf
                obtain ⟨l, k1, k2, k3, k4, -⟩ := cellsAt hor hl
                have hload := run_loadCells_list (P := P) w ⟨cb, _ + dd, none⟩ l k4
                rw [k1] at hload
                have hb := bytesOf_run (P := P) hbs k2 w
                refine ⟨.string ⟨bs.toArray⟩, runs_of (s := convert s d (cev x)) (by simp [execOp, hop]) ?_, ?_⟩
                · rw [hcv]
                  simp only [convert, Sem.run_bind, run_underlying hs, run_underlying hd, run_underlying he, Result.andThen_ok, Conv.bytesToString, hload]
                  simp only [List.forIn_toArray, Sem.run_bind, Sem.run_pure]
                  rw [hb _ (fun _ _ => rfl)]
                  simp
                · have := VR.str (ρ := ρ') ⟨bs.toArray⟩
                  simpa using this
              · cases hf
            · cases hf
      · cases h
    · exact (ofO_read h).elim
  case h_13 => split at h <;> cases h
  case h_14 => split at h <;> cases h
  case h_15 => (repeat' (split at h)) <;> cases h
  case h_16 => (repeat' (split at h)) <;> cases h
  case h_18 => (repeat' (split at h)) <;> cases h
  case h_19 => (repeat' (split at h)) <;> first | (cases h; done) | exact (ofO_read h).elim
  case h_22 t x i ok hop =>
    split at h
    · exact (ofO_read h).elim
    · rename_i k e b hu hx
      cases h
      have hv := hev x
      rw [hx] at hv
      generalize hcv : cev x = vx at hv
      cases hv with
      | map _ cb d hρ =>
        refine ⟨cb, d, hρ, fun ρ' w N y v hs hor hf => ?_⟩
        dsimp only at hf
        split at hf
        · rename_i es clock
          obtain ⟨es', k1, k2⟩ := hor
          obtain ⟨v', h1, h2⟩ := lookA_run hf ((hev i).mono hs) k2
          refine ⟨v', runs_of (s := Instr.lookup t (cev x) (cev i) ok) (by simp [execOp, hop]) ?_, h2⟩
          rw [hcv]
          have hg : (getObj cb).run P w = .ok (.map es' clock) w := by simp [getObj, Sem.run, k1]
          have := h1 w
          simp only [Instr.lookup, Sem.run_bind, run_underlying hu, Result.andThen_ok, hg, Sem.run_pure] at this ⊢
          exact this
        · cases hf
    · cases h
  case h_23 => split at h <;> first | (cases h; done) | exact (ofO_read h).elim
  case h_24 c hop =>
    split at h
    · rename_i x xs hcal hty hargs
      have hr := args_rel hev c.args.toList
      rw [hargs] at hr
      generalize hca : c.args.toList.map cev = cargs at hr
      have hty' : c.argTypes = (c.argTypes.toList).toArray := by simp
      have hca' : c.args.map cev = cargs.toArray := by apply Array.ext'; simpa using hca
      cases hr with
      | cons _ x' _ xs' hx hxs =>
        rw [hty] at hty'
        unfold lenA at h
        split at h <;> cases h
        rename_i k e hu
        cases hx with
        | map _ cb d hρ =>
          refine ⟨cb, d, hρ, fun ρ' w N y v hs hor hf => ?_⟩
          dsimp only at hf
          split at hf
          · rename_i es clock
            cases hf
            obtain ⟨es', k1, k2⟩ := hor
            have hel : es.length = es'.size := by
              rw [← Array.length_toList]
              clear k1 hs
              generalize es'.toList = l at k2
              induction k2 with
              | nil => rfl
              | cons _ _ _ _ _ _ ih => simp [ih]
            have hg : (getObj cb).run P w = .ok (.map es' clock) w := by simp [getObj, Sem.run, k1]
            refine ⟨.int .i64 es'.size, runs_of (s := Builtin.len_ c.argTypes o.type (c.args.map cev)) (by simp [execOp, hop, resolve, hcal, invoke, builtin]) ?_, by rw [hel]; exact .int _ _⟩
            rw [hty', hca']
            simp [Builtin.len_, run_underlying hu, hg, goInt]
          · cases hf
    · exact (capA_read h).elim
    · exact (ofO_read h).elim
    · exact (ofO_read h).elim
    · cases h

end
end Go.Am

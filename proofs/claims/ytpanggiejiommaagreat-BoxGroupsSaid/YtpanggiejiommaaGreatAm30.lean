/- The abstract machine, part 30: regions that draw their order, and ranges over functions, in walks over plain code. -/
import Derived.Test.YtpanggiejiommaaGreatAm29
namespace Go.Am
set_option autoImplicit false
set_option linter.all false
open Go

section
variable {P : Program} {G : Nat} {S : Sm Prop} {ts : List AV} {a : AAct} {h : Heap} {k : AV → Heap → Prop} {ka : AAct → Heap → Prop} {kd : AV → Heap → List Foot → Prop} {fs : List Foot}

/-- An operation in a region that draws its order. -/
def runDO (P : Program) (G : Nat) (S : Sm Prop) (ts : List AV) (h : Heap) (fs : List Foot) (i m : Nat) (kd : AV → Heap → List Foot → Prop) (o : CO) : Prop :=
  if isEffO o then effO P G S ts h (fun v h' => keptF DProp m h h' fs (kd v h' fs)) o
  else match clsO P G ts o with
    | .pure v => kd v h fs
    | .read b f => match (h.get b).bind f with
      | some v => kd v h (.rd i b f v :: fs)
      | none => False
    | .alloc x g => kd (g h.n) (h.push x) (.al i h.n :: fs)
    | .none => False

theorem runDraw_nil : runDraw P G S [] fs a h ka = ka a h := rfl
theorem runDraw_cons (i m : Nat) (d : Option Tmp) (o : CO) (r : List (Nat × Nat × COp)) : runDraw P G S ((i, m, ⟨d, o, none⟩) :: r) fs a h ka = runDO P G S a.tmps h fs i m (fun v h fs => runDraw P G S r fs (a.put d v) h ka) o := by
  simp only [runDraw, wantO, runDO]
  rfl
theorem runDraw_guard (i m : Nat) (d : Option Tmp) (o : CO) (t : Nat) (w : Bool) (r : List (Nat × Nat × COp)) (ts : List AV) (f : List Nat) (rr : Option Nat) : runDraw P G S ((i, m, ⟨d, o, some (t, w)⟩) :: r) fs ⟨ts, f, rr⟩ h ka =
    gd (gt ts t) w (runDO P G S (ts.set t (.bool w)) h fs i m (fun v h fs => runDraw P G S r fs (AAct.put ⟨ts.set t (.bool w), f, rr⟩ d v) h ka) o) (runDraw P G S r fs (AAct.put ⟨ts.set t (match gt ts t with | .bool _ => .bool (!w) | v => v), f, rr⟩ d .un) h ka) := by
  have h0 : runDraw P G S ((i, m, ⟨d, o, some (t, w)⟩) :: r) fs ⟨ts, f, rr⟩ h ka = match ts[t]? with
    | some (.bool b) => (b = w → runDO P G S ts h fs i m (fun v h fs => runDraw P G S r fs (AAct.put ⟨ts, f, rr⟩ d v) h ka) o) ∧ (b = (!w) → runDraw P G S r fs (AAct.put ⟨ts, f, rr⟩ d .un) h ka)
    | some .junk => False
    | _ => runDraw P G S r fs (AAct.put ⟨ts, f, rr⟩ d .un) h ka := by simp only [runDraw, wantO, runDO]; rfl
  rw [h0]
  unfold gt gd
  cases ht : ts[t]? with
  | none =>
    have : ts.set t .un = ts := List.set_eq_of_length_le (by rw [List.getElem?_eq_none_iff] at ht; exact ht)
    simp only [Option.getD_none]
    show runDraw P G S r fs (AAct.put ⟨ts, f, rr⟩ d .un) h ka = runDraw P G S r fs (AAct.put ⟨ts.set t .un, f, rr⟩ d .un) h ka
    rw [this]
  | some v =>
    have hsame := set_same ht
    cases v with
    | bool b =>
      have hset : ∀ c, b = c → ts.set t (.bool c) = ts := fun c hc => by
        subst hc
        exact hsame
      simp only [Option.getD_some]
      apply propext
      constructor
      · rintro ⟨x, y⟩
        exact ⟨fun hw => by rw [hset _ hw]; exact x hw, fun hw => by rw [hset _ hw]; exact y hw⟩
      · rintro ⟨x, y⟩
        exact ⟨fun hw => by have := x hw; rw [hset _ hw] at this; exact this, fun hw => by have := y hw; rw [hset _ hw] at this; exact this⟩
    | junk => rfl
    | _ => simp only [Option.getD_some, hsame]

/-- Operations that look at no memory. -/
def isPureO : CO → Bool
  | .mv _ | .pick _ _ _ | .build _ _ _ | .nilc _ | .ib _ _ _ | .sh _ _ _ | .sb _ _ _ | .bb _ _ _ | .un _ _ | .cvi _ _ | .mkif _ _ | .mkfn _ _ _ | .fa _ _ | .fld _ _ _ _ | .ia _ _ _ | .iaa _ _ _ _ | .ixs _ _ | .lenS _ | .lenT _ | .ext _ _ => true
  | _ => false
theorem ofO_cases (x : Option AV) : (∃ v, Cls.ofO x = .pure v) ∨ Cls.ofO x = .none := by cases x <;> simp [Cls.ofO]
theorem isPureO_cls {o : CO} (ho : isPureO o = true) : isEffO o = false ∧ (∀ op, o ≠ .gen op) ∧ ((∃ v, clsO P G ts o = .pure v) ∨ clsO P G ts o = .none) := by
  cases o <;> first | (simp [isPureO] at ho; done) | skip
  all_goals refine ⟨rfl, fun op h => (by cases h), ?_⟩
  all_goals simp only [clsO]
  all_goals first | exact ofO_cases _ | skip
  all_goals (repeat' split)
  all_goals first | exact ofO_cases _ | exact .inl ⟨_, rfl⟩ | exact .inr rfl
theorem runDO_pure (i m : Nat) {o : CO} (ho : isPureO o = true) : runDO P G S ts h fs i m kd o = runO P G S ts h (fun v h => kd v h fs) o := by
  obtain ⟨h1, h2, h3⟩ := isPureO_cls (P := P) (G := G) (ts := ts) ho
  unfold runDO runO
  rw [h1]
  simp only [Bool.false_eq_true, if_false]
  rcases h3 with ⟨v, h3⟩ | h3
  · rw [h3]
  · rw [h3]
theorem runDO_load (i m : Nat) (g : Bool) (s : Nat) (x : CX) : runDO P G S ts h fs i m kd (.load g s x) = onPtr (xv ts x) fun b o => bindO (rd h g s b o) fun v => kd v h (.rd i b (ldA g s o) v :: fs) := by
  simp only [runDO, isEffO, clsO, rd]
  cases xv ts x <;> try rfl
  rename_i b o
  simp only [onPtr]
  cases (h.get b).bind (ldA g s o) <;> rfl
theorem runDO_alloc (i m : Nat) (cs : List AV) : runDO P G S ts h fs i m kd (.alloc cs) = kd (.ptr h.n 0) (h.push (.cells cs true)) (.al i h.n :: fs) := rfl
theorem runDO_box (i m : Nat) (x : CX) : runDO P G S ts h fs i m kd (.box x) = must ((xv ts x).cells.all AV.one = true) (kd (.ptr h.n 0) (h.push (.cells (xv ts x).cells true)) (.al i h.n :: fs)) := by
  simp only [runDO, isEffO, clsO, must]
  by_cases hc : (xv ts x).cells.all AV.one = true
  · simp only [hc, if_true, true_and]; rfl
  · simp [hc]
theorem runDO_bsl (i m : Nat) (z : List AV) (n s : Nat) (ps : List (Nat × CX)) : runDO P G S ts h fs i m kd (.bsl z n s ps) = bindO (fillA (fun i => some (i * s, s)) z (ps.map fun p => (p.1, xv ts p.2))) fun cs => kd (.sl h.n 0 n n 0) (h.push (.cells cs true)) (.al i h.n :: fs) := by
  simp only [runDO, isEffO, clsO]
  cases fillA (fun i => some (i * s, s)) z (ps.map fun p => (p.1, xv ts p.2)) <;> rfl
theorem runDO_store (i m : Nat) (s : Nat) (x y : CX) : runDO P G S ts h fs i m kd (.store s x y) = onPtr (xv ts x) fun b o => onCells (h.get b) fun cs => must ((xv ts y).cells.length = s ∧ o + s ≤ cs.length ∧ (xv ts y).cells.all AV.one = true) (keptF DProp m h (h.set b (.cells (setL cs o (xv ts y).cells) true)) fs (kd .un (h.set b (.cells (setL cs o (xv ts y).cells) true)) fs)) := rfl
theorem runDO_call (i m : Nat) (f : CX) (args : List CX) : runDO P G S ts h fs i m kd (.call f args) = callV P DProp S (xv ts f) (args.map (xv ts)) h (fun v h' => keptF DProp m h h' fs (kd v h' fs)) := rfl
theorem runDO_app (i m : Nat) (s by_ : Nat) (x y : CX) : runDO P G S ts h fs i m kd (.app s by_ x y) = bindO (appC s by_ (xv ts x) (xv ts y) h) fun r => keptF DProp m h r.2 fs (kd r.1 r.2 fs) := by
  simp only [runDO, isEffO, effO, if_true]
  cases appC s by_ (xv ts x) (xv ts y) h <;> rfl

theorem keptF_nil (b : Nat) (h h' : Heap) (r : Prop) : keptF DProp b h h' [] r = r := rfl
theorem keptF_in (b : Nat) (h h' : Heap) (r : Prop) (i x : Nat) (f : AObj → Option AV) (v : AV) (hb : b.testBit i = true) : keptF DProp b h h' (.rd i x f v :: fs) r = keptF DProp b h h' fs r := by
  simp only [keptF, hb, if_true]
theorem keptF_out (b : Nat) (h h' : Heap) (r : Prop) (i x : Nat) (f : AObj → Option AV) (v : AV) (hb : b.testBit i = false) : keptF DProp b h h' (.rd i x f v :: fs) r = must ((h'.get x).bind f = some v) (keptF DProp b h h' fs r) := by
  simp only [keptF, hb]; rfl
theorem keptF_ain (b : Nat) (h h' : Heap) (r : Prop) (i x : Nat) (hb : b.testBit i = true) : keptF DProp b h h' (.al i x :: fs) r = keptF DProp b h h' fs r := by
  simp only [keptF, hb, if_true]
theorem keptF_aout (b : Nat) (h h' : Heap) (r : Prop) (i x : Nat) (hb : b.testBit i = false) : keptF DProp b h h' (.al i x :: fs) r = must (∃ u v p, h.get x = some (.cells u p) ∧ h'.get x = some (.cells v p) ∧ u = v) (keptF DProp b h h' fs r) := by
  simp only [keptF, hb]; rfl
theorem rd_fold (h : Heap) (g : Bool) (s b o : Nat) : (h.get b).bind (ldA g s o) = rd h g s b o := rfl

/-! ### Ranges over functions -/

/-- The code of a range over a function begins: its loop is laid, and the function is called. -/
theorem AWp.rangeFunc (hm : P.follows .mixedOrders = true) {g : Operand} {ps : Array Tmp} {as bd : Code} {ts : List AV} {dfs : List Nat} {h : Heap} {k : AExit → AAct → Heap → Prop} {f : FuncId} {first captured : List AV}
    (hg : evT P.globals.size ts g = .fn (.func f) first captured)
    (hs : ACa P f (first ++ [.fn (.yield (h.n + 1)) [] []] ++ captured) ((h.push .dfr).push (.loop .ready none ts ps as bd h.n)) fun _ h' =>
      (h'.get (h.n + 1) = some (.loop .ready none ts ps as bd h.n) ∧ k .normal ⟨ts, h.n :: dfs, none⟩ (h'.set (h.n + 1) (.loop .exhausted none ts ps as bd h.n))) ∨
      (h'.get (h.n + 1) = some (.loop .done (some .ret) ts ps as bd h.n) ∧ k .ret ⟨ts, h.n :: dfs, none⟩ (h'.set (h.n + 1) (.loop .exhausted (some .ret) ts ps as bd h.n))) ∨
      ∃ id, h'.get (h.n + 1) = some (.loop .done (some (.exit id)) ts ps as bd h.n) ∧ k (.exit id) ⟨ts, h.n :: dfs, none⟩ (h'.set (h.n + 1) (.loop .exhausted (some (.exit id)) ts ps as bd h.n))) :
    AWp P (.rangeFunc g ps as bd) ⟨ts, dfs, none⟩ h k := by
  refine AWp.step hm (by simp) ?_
  show rangeF P DProp (SM P) g ps as bd ⟨ts, dfs, none⟩ h k
  simp only [rangeF, AAct.ev, hg]
  refine ACa.mono hs fun v h' _ hh => ?_
  have hn : (h.push .dfr).n = h.n + 1 := rfl
  rw [hn]
  rcases hh with ⟨h1, h2⟩ | ⟨h1, h2⟩ | ⟨id, h1, h2⟩
  · rw [h1]; exact h2
  · rw [h1]; exact h2
  · rw [h1]; exact h2

/-- A round of it. -/
theorem round_intro {l : Nat} {args : List AV} {h : Heap} {k : AV → Heap → Prop} {tmps : List AV} {ps : Array Tmp} {as bd : Code} {df : Nat} (hl : h.get l = some (.loop .ready none tmps ps as bd df)) (hlen : args.length = ps.size)
    (hs : AWp P as ⟨(ps.toList.zip args).foldl (fun ts p => ts.set p.1 p.2) tmps, [], some l⟩ h fun e a h1 => e = .normal ∧ h1.get l = some (.loop .ready none tmps ps as bd df) ∧
      AWp P bd a (h1.set l (.loop .busy none tmps ps as bd df)) fun e _ h2 => h2.get l = some (.loop .busy none tmps ps as bd df) ∧ match e with
        | .normal => k (.bool true) (h2.set l (.loop .ready none tmps ps as bd df))
        | .ret => k (.bool false) (h2.set l (.loop .done (some .ret) tmps ps as bd df))
        | .exit id => k (.bool false) (h2.set l (.loop .done (some (.exit id)) tmps ps as bd df))
        | .goto _ => False) : callV P DProp (SM P) (.fn (.yield l) [] []) args h k := by
  show roundF DProp (SM P) l ([] ++ args) h k
  unfold roundF
  rw [hl]
  simp only [List.nil_append]
  rw [if_pos hlen]
  refine AWp.mono hs fun e a h1 _ hh => ?_
  obtain ⟨rfl, h1l, hb⟩ := hh
  rw [h1l]
  simp only
  refine AWp.mono hb fun e2 a2 h2 _ hh2 => ?_
  obtain ⟨h2l, hk⟩ := hh2
  rw [h2l]
  cases e2 <;> exact hk
end
end Go.Am

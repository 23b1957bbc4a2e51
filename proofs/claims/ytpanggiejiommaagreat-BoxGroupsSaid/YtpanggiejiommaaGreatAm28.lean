/- The abstract machine, part 28: words for walks over plain code. -/
import Derived.Test.YtpanggiejiommaaGreatAm27
namespace Go.Am
set_option autoImplicit false
set_option linter.all false
open Go

/-- A part of a function's code. -/
def codeAt : Code → List Nat → Code
  | c, [] => c
  | .seq a _, 0 :: r => codeAt a r
  | .seq _ b, 1 :: r => codeAt b r
  | .cond _ a _, 0 :: r => codeAt a r
  | .cond _ _ b, 1 :: r => codeAt b r
  | .block _ c, 0 :: r => codeAt c r
  | .loop c, 0 :: r => codeAt c r
  | .rangeFunc _ _ c _, 0 :: r => codeAt c r
  | .rangeFunc _ _ _ c, 1 :: r => codeAt c r
  | c, _ => c

/-! ### Words for what is not told yet: what stands behind is left alone (a mark's type holds it fast) -/

structure Fz {β : Sort _} (k : β) : Type where
  mk ::

def bindO {α : Type} (x : Option α) (k : α → Prop) : Prop := match x with | some v => k v | none => False
def onPtr (v : AV) (k : Nat → Nat → Prop) : Prop := match v with | .ptr b o => k b o | _ => False
def onInt (v : AV) (k : IntKind → Int → Prop) : Prop := match v with | .int j n => k j n | _ => False
def onStr (v : AV) (k : List UInt8 → Prop) : Prop := match v with | .str s => k s | _ => False
def onBool (v : AV) (k : Bool → Prop) : Prop := match v with | .bool b => k b | _ => False
def onTup (v : AV) (k : List AV → Prop) : Prop := match v with | .tup l => k l | _ => False
def onCells (o : Option AObj) (k : List AV → Prop) : Prop := match o with | some (.cells cs true) => k cs | _ => False
/-- Two arms. -/
def Br (b : Bool) (X Y : Prop) : Prop := (b = true → X) ∧ (b = false → Y)
def gd (v : AV) (w : Bool) (Y N : Prop) : Prop := match v with | .bool b => (b = w → Y) ∧ (b = (!w) → N) | .junk => False | _ => N
/-- If it is so, go on. -/
def must (p : Prop) (k : Prop) : Prop := p ∧ k

def bindM {α : Type} (x : Option α) (k : α → Prop) (_ : Fz k) : Prop := bindO x k
def ptrM (v : AV) (k : Nat → Nat → Prop) (_ : Fz k) : Prop := onPtr v k
def intM (v : AV) (k : IntKind → Int → Prop) (_ : Fz k) : Prop := onInt v k
def strM (v : AV) (k : List UInt8 → Prop) (_ : Fz k) : Prop := onStr v k
def boolM (v : AV) (k : Bool → Prop) (_ : Fz k) : Prop := onBool v k
def tupM (v : AV) (k : List AV → Prop) (_ : Fz k) : Prop := onTup v k
def cellsM (o : Option AObj) (k : List AV → Prop) (_ : Fz k) : Prop := onCells o k
def BrM (b : Bool) (X Y : Prop) (_ : Fz X) (_ : Fz Y) : Prop := Br b X Y
def gdM (v : AV) (w : Bool) (Y N : Prop) (_ : Fz Y) (_ : Fz N) : Prop := gd v w Y N
def mustM (p : Prop) (k : Prop) (_ : Fz k) : Prop := must p k

theorem bindO_eq {α : Type} (x : Option α) (k : α → Prop) : bindO x k = bindM x k ⟨⟩ := _root_.id rfl
theorem onPtr_eq (v : AV) (k : Nat → Nat → Prop) : onPtr v k = ptrM v k ⟨⟩ := _root_.id rfl
theorem onInt_eq (v : AV) (k : IntKind → Int → Prop) : onInt v k = intM v k ⟨⟩ := _root_.id rfl
theorem onStr_eq (v : AV) (k : List UInt8 → Prop) : onStr v k = strM v k ⟨⟩ := _root_.id rfl
theorem onBool_eq (v : AV) (k : Bool → Prop) : onBool v k = boolM v k ⟨⟩ := _root_.id rfl
theorem onTup_eq (v : AV) (k : List AV → Prop) : onTup v k = tupM v k ⟨⟩ := _root_.id rfl
theorem onCells_eq (v : Option AObj) (k : List AV → Prop) : onCells v k = cellsM v k ⟨⟩ := _root_.id rfl
theorem Br_eq (b : Bool) (X Y : Prop) : Br b X Y = BrM b X Y ⟨⟩ ⟨⟩ := _root_.id rfl
theorem gd_eq (v : AV) (w : Bool) (X Y : Prop) : gd v w X Y = gdM v w X Y ⟨⟩ ⟨⟩ := _root_.id rfl
theorem must_eq (p k : Prop) : must p k = mustM p k ⟨⟩ := _root_.id rfl

theorem bindM_some {α : Type} (v : α) (k : α → Prop) (m : Fz k) : bindM (some v) k m = k v := _root_.id rfl
theorem bindM_none {α : Type} (k : α → Prop) (m : Fz k) : bindM none k m = False := _root_.id rfl
theorem ptrM_ptr (b o : Nat) (k : Nat → Nat → Prop) (m : Fz k) : ptrM (.ptr b o) k m = k b o := _root_.id rfl
theorem intM_int (j : IntKind) (n : Int) (k : IntKind → Int → Prop) (m : Fz k) : intM (.int j n) k m = k j n := _root_.id rfl
theorem strM_str (x : List UInt8) (k : List UInt8 → Prop) (m : Fz k) : strM (.str x) k m = k x := _root_.id rfl
theorem boolM_bool (b : Bool) (k : Bool → Prop) (m : Fz k) : boolM (.bool b) k m = k b := _root_.id rfl
theorem tupM_tup (l : List AV) (k : List AV → Prop) (m : Fz k) : tupM (.tup l) k m = k l := _root_.id rfl
theorem cellsM_cells (cs : List AV) (k : List AV → Prop) (m : Fz k) : cellsM (some (.cells cs true)) k m = k cs := _root_.id rfl
theorem BrM_true (X Y : Prop) (m : Fz X) (n : Fz Y) : BrM true X Y m n = X := by simp [BrM, Br]
theorem BrM_false (X Y : Prop) (m : Fz X) (n : Fz Y) : BrM false X Y m n = Y := by simp [BrM, Br]
theorem BrM_not (b : Bool) (X Y : Prop) (m : Fz X) (n : Fz Y) : BrM (!b) X Y m n = BrM b Y X n m := by cases b <;> simp [BrM, Br]
theorem Br_intro {b : Bool} {X Y : Prop} {m : Fz X} {n : Fz Y} (hx : b = true → X) (hy : b = false → Y) : BrM b X Y m n := ⟨hx, hy⟩
theorem Br_dec {p : Prop} [Decidable p] {X Y : Prop} {m : Fz X} {n : Fz Y} (hx : p → X) (hy : ¬ p → Y) : BrM (decide p) X Y m n := ⟨fun h => hx (of_decide_eq_true h), fun h => hy (of_decide_eq_false h)⟩
theorem Br_open (b : Bool) (X Y : Prop) (m : Fz X) (n : Fz Y) : BrM b X Y m n = ((b = true → X) ∧ (b = false → Y)) := _root_.id rfl
theorem gdM_true (b : Bool) (X Y : Prop) (m : Fz X) (n : Fz Y) : gdM (.bool b) true X Y m n = BrM b X Y m n := by simp [gdM, gd, BrM, Br]
theorem gdM_false (b : Bool) (X Y : Prop) (m : Fz X) (n : Fz Y) : gdM (.bool b) false X Y m n = BrM b Y X n m := by
  simp only [gdM, gd, BrM, Br]
  exact propext ⟨fun h => ⟨h.2, h.1⟩, fun h => ⟨h.2, h.1⟩⟩
theorem gdM_un (w : Bool) (X Y : Prop) (m : Fz X) (n : Fz Y) : gdM .un w X Y m n = Y := _root_.id rfl
theorem mustM_true (k : Prop) (m : Fz k) : mustM True k m = k := by simp [mustM, must]
theorem must_intro {p k : Prop} {m : Fz k} (hp : p) (hk : k) : mustM p k m := ⟨hp, hk⟩
theorem bind_intro {α : Type} {x : Option α} {k : α → Prop} {m : Fz k} (v : α) (hx : x = some v) (hk : k v) : bindM x k m := by rw [hx]; exact hk
theorem cmp_eql (x y : Int) : cmpI .eql x y = some (decide (x = y)) := rfl
theorem cmp_neq (x y : Int) : cmpI .neq x y = some (decide (x ≠ y)) := by simp [cmpI, bne, beq_iff_eq]; rfl
theorem cmp_lss (x y : Int) : cmpI .lss x y = some (decide (x < y)) := rfl
theorem cmp_leq (x y : Int) : cmpI .leq x y = some (decide (x ≤ y)) := rfl
theorem cmp_gtr (x y : Int) : cmpI .gtr x y = some (decide (x > y)) := rfl
theorem cmp_geq (x y : Int) : cmpI .geq x y = some (decide (x ≥ y)) := rfl

section
variable {P : Program} {G : Nat} {S : Sm Prop} {ts : List AV} {a : AAct} {h : Heap} {k : AV → Heap → Prop} {ke : AExit → AAct → Heap → Prop} {ka : AAct → Heap → Prop}

/-- A temporary. -/
def gt (ts : List AV) (n : Nat) : AV := (ts[n]?).getD .un
theorem gt_zero (x : AV) (l : List AV) : gt (x :: l) 0 = x := _root_.id rfl
theorem gt_succ (x : AV) (l : List AV) (n : Nat) : gt (x :: l) (n + 1) = gt l n := _root_.id rfl
theorem gt_nil (n : Nat) : gt [] n = .un := _root_.id rfl
theorem gt_set_ne {ts : List AV} {i j : Nat} {v : AV} (h : i ≠ j) : gt (ts.set i v) j = gt ts j := by
  unfold gt; rw [List.getElem?_set_ne h]
theorem gt_set_self {ts : List AV} {i : Nat} {v : AV} (h : i < ts.length) : gt (ts.set i v) i = v := by
  unfold gt; rw [List.getElem?_set_self h]; rfl
theorem gt_set {ts : List AV} {i j : Nat} {v : AV} (h : i < ts.length) : gt (ts.set i v) j = if i = j then v else gt ts j := by
  split
  · rename_i e; subst e; exact gt_set_self h
  · rename_i e; exact gt_set_ne e

theorem xv_k (v : AV) : xv ts (.k v) = v := _root_.id rfl
theorem xv_t (n : Nat) : xv ts (.t n) = gt ts n := _root_.id rfl
theorem put_some (d : Nat) (v : AV) (ts : List AV) (f : List Nat) (r : Option Nat) : AAct.put ⟨ts, f, r⟩ (some d) v = ⟨ts.set d v, f, r⟩ := _root_.id rfl
theorem put_none (v : AV) : a.put none v = a := _root_.id rfl

theorem runC_skip : runC P G .skip a h ke = ke .normal a h := rfl
theorem runC_ops (l : List COp) : runC P G (.ops l) a h ke = runOps P G (SM P) l a h (ke .normal) := rfl
theorem runC_draw (l : List (Nat × Nat × COp)) : runC P G (.draw l) a h ke = runDraw P G (SM P) l [] a h (ke .normal) := rfl
theorem runC_seq (x y : CC) : runC P G (.seq x y) a h ke = runC P G x a h fun e a h => match e with
    | .normal => runC P G y a h ke
    | e => ke e a h := rfl
theorem runC_cond (c : CX) (x y : CC) : runC P G (.cond c x y) a h ke = onBool (xv a.tmps c) fun b => Br b (runC P G x a h ke) (runC P G y a h ke) := rfl
theorem runC_block (id : Nat) (c : CC) : runC P G (.block id c) a h ke = runC P G c a h fun e a h => match e with
    | .exit j => if j = id then ke .normal a h else ke (.exit j) a h
    | e => ke e a h := rfl
theorem runC_loop (c : CC) : runC P G (.loop c) a h ke = AWc P (.loop c) a h ke := rfl
theorem runC_exit (id : Nat) : runC P G (.exit id) a h ke = ke (.exit id) a h := rfl
theorem runC_ret : runC P G .ret a h ke = ke .ret a h := rfl
theorem runC_orig (c : Code) : runC P G (.orig c) a h ke = AWp P c a h ke := rfl

theorem runOps_nil : runOps P G S [] a h ka = ka a h := rfl
theorem runOps_cons (d : Option Tmp) (o : CO) (r : List COp) : runOps P G S (⟨d, o, none⟩ :: r) a h ka = runO P G S a.tmps h (fun v h => runOps P G S r (a.put d v) h ka) o := rfl
theorem set_same {ts : List AV} {t : Nat} {v : AV} (hv : ts[t]? = some v) : ts.set t v = ts := by
  apply List.ext_getElem?
  intro i
  rw [List.getElem?_set]
  split
  · rename_i e
    subst e
    split
    · exact hv.symm
    · rename_i hlt; have := (List.getElem?_eq_some_iff.1 hv).1; omega
  · rfl
/-- A guard: in each arm it is known. -/
theorem runOps_guard (d : Option Tmp) (o : CO) (t : Nat) (w : Bool) (r : List COp) (ts : List AV) (f : List Nat) (rr : Option Nat) : runOps P G S (⟨d, o, some (t, w)⟩ :: r) ⟨ts, f, rr⟩ h ka =
    gd (gt ts t) w (runO P G S (ts.set t (.bool w)) h (fun v h => runOps P G S r (AAct.put ⟨ts.set t (.bool w), f, rr⟩ d v) h ka) o) (runOps P G S r (AAct.put ⟨ts.set t (match gt ts t with | .bool _ => .bool (!w) | v => v), f, rr⟩ d .un) h ka) := by
  have h0 : runOps P G S (⟨d, o, some (t, w)⟩ :: r) ⟨ts, f, rr⟩ h ka = match ts[t]? with
    | some (.bool b) => (b = w → runO P G S ts h (fun v h => runOps P G S r (AAct.put ⟨ts, f, rr⟩ d v) h ka) o) ∧ (b = (!w) → runOps P G S r (AAct.put ⟨ts, f, rr⟩ d .un) h ka)
    | some .junk => False
    | _ => runOps P G S r (AAct.put ⟨ts, f, rr⟩ d .un) h ka := rfl
  rw [h0]
  unfold gt gd
  cases ht : ts[t]? with
  | none =>
    have : ts.set t .un = ts := List.set_eq_of_length_le (by rw [List.getElem?_eq_none_iff] at ht; exact ht)
    simp only [Option.getD_none]
    show runOps P G S r (AAct.put ⟨ts, f, rr⟩ d .un) h ka = runOps P G S r (AAct.put ⟨ts.set t .un, f, rr⟩ d .un) h ka
    rw [this]
  | some v =>
    have hsame := set_same ht
    cases v with
    | bool b =>
      have hset : ∀ c, b = c → ts.set t (.bool c) = ts := fun c hc => by
        subst hc
        exact hsame
      simp only [Option.getD_some]
      apply propext
      constructor
      · rintro ⟨x, y⟩
        exact ⟨fun hw => by rw [hset _ hw]; exact x hw, fun hw => by rw [hset _ hw]; exact y hw⟩
      · rintro ⟨x, y⟩
        exact ⟨fun hw => by have := x hw; rw [hset _ hw] at this; exact this, fun hw => by have := y hw; rw [hset _ hw] at this; exact this⟩
    | junk => rfl
    | _ => simp only [Option.getD_some, hsame]

theorem runO_mv (x : CX) : runO P G S ts h k (.mv x) = k (xv ts x) h := rfl
theorem runO_pick (c x y : CX) : runO P G S ts h k (.pick c x y) = onBool (xv ts c) fun t => k (if t then xv ts x else xv ts y) h := by
  simp only [runO, isEffO, clsO]
  cases xv ts c <;> rfl
theorem runO_alloc (cs : List AV) : runO P G S ts h k (.alloc cs) = k (.ptr h.n 0) (h.push (.cells cs true)) := rfl
theorem runO_box (x : CX) : runO P G S ts h k (.box x) = must ((xv ts x).cells.all AV.one = true) (k (.ptr h.n 0) (h.push (.cells (xv ts x).cells true))) := by
  simp only [runO, isEffO, clsO, must]
  by_cases hc : (xv ts x).cells.all AV.one = true
  · simp only [hc, if_true, true_and]; rfl
  · simp [hc]
theorem runO_build (z : List AV) (pl : List (Nat × Nat)) (ps : List (Nat × CX)) : runO P G S ts h k (.build z pl ps) = bindO (fillA (fun i => pl[i]?) z (ps.map fun p => (p.1, xv ts p.2))) fun cs => k (.agg cs) h := by
  simp only [runO, isEffO, clsO]
  cases fillA (fun i => pl[i]?) z (ps.map fun p => (p.1, xv ts p.2)) <;> rfl
theorem runO_bsl (z : List AV) (n s : Nat) (ps : List (Nat × CX)) : runO P G S ts h k (.bsl z n s ps) = bindO (fillA (fun i => some (i * s, s)) z (ps.map fun p => (p.1, xv ts p.2))) fun cs => k (.sl h.n 0 n n 0) (h.push (.cells cs true)) := by
  simp only [runO, isEffO, clsO]
  cases fillA (fun i => some (i * s, s)) z (ps.map fun p => (p.1, xv ts p.2)) <;> rfl
theorem runO_load (g : Bool) (s : Nat) (x : CX) : runO P G S ts h k (.load g s x) = onPtr (xv ts x) fun b o => bindO (rd h g s b o) fun v => k v h := by
  simp only [runO, isEffO, clsO, rd]
  cases xv ts x <;> try rfl
  rename_i b o
  simp only [onPtr]
  cases (h.get b).bind (ldA g s o) <;> rfl
theorem runO_store (s : Nat) (x y : CX) : runO P G S ts h k (.store s x y) = onPtr (xv ts x) fun b o => onCells (h.get b) fun cs => must ((xv ts y).cells.length = s ∧ o + s ≤ cs.length ∧ (xv ts y).cells.all AV.one = true) (k .un (h.set b (.cells (setL cs o (xv ts y).cells) true))) := rfl
theorem runO_nilc (x : CX) : runO P G S ts h k (.nilc x) = match xv ts x with
    | .ptr b o => k (.ptr b o) h
    | .fn (.func f) a c => k (.fn (.func f) a c) h
    | .fn (.yield f) a c => k (.fn (.yield f) a c) h
    | _ => False := by
  simp only [runO, isEffO, clsO]
  cases xv ts x <;> try rfl
  rename_i f _ _
  cases f <;> rfl
theorem runO_ib (op : BinOp) (x y : CX) : runO P G S ts h k (.ib op x y) = onInt (xv ts x) fun j a => onInt (xv ts y) fun j' b => must (j = j') (bindO (intA op j a b) fun v => k v h) := by
  simp only [runO, isEffO, clsO, must]
  cases xv ts x <;> cases xv ts y <;> try rfl
  rename_i j a j' b
  simp only [onInt]
  by_cases hj : j = j'
  · simp only [hj, if_true, true_and, Cls.ofO, Bool.false_eq_true, if_false]
    cases intA op j' a b <;> rfl
  · simp only [hj, false_and]; rfl
theorem runO_sh (op : BinOp) (x y : CX) : runO P G S ts h k (.sh op x y) = onInt (xv ts x) fun j a => onInt (xv ts y) fun _ b => bindO (shiftA op j a b) fun v => k v h := by
  simp only [runO, isEffO, clsO]
  cases xv ts x <;> cases xv ts y <;> try rfl
  simp only [Cls.ofO, Bool.false_eq_true, if_false, onInt]
  rename_i j a _ b
  cases shiftA op j a b <;> rfl
theorem runO_sb (op : BinOp) (x y : CX) : runO P G S ts h k (.sb op x y) = onStr (xv ts x) fun a => onStr (xv ts y) fun b => bindO (strA op a b) fun v => k v h := by
  simp only [runO, isEffO, clsO]
  cases xv ts x <;> cases xv ts y <;> try rfl
  simp only [Cls.ofO, Bool.false_eq_true, if_false, onStr]
  rename_i a b
  cases strA op a b <;> rfl
theorem runO_bb (op : BinOp) (x y : CX) : runO P G S ts h k (.bb op x y) = onBool (xv ts x) fun a => onBool (xv ts y) fun b => bindO (eqOp op (some (a == b))) fun v => k v h := by
  simp only [runO, isEffO, clsO]
  cases xv ts x <;> cases xv ts y <;> try rfl
  simp only [Cls.ofO, Bool.false_eq_true, if_false, onBool]
  rename_i a b
  cases eqOp op (some (a == b)) <;> rfl
theorem runO_un (op : UnOp) (x : CX) : runO P G S ts h k (.un op x) = bindO (unA op (xv ts x)) fun v => k v h := by
  simp only [runO, isEffO, clsO, Cls.ofO]
  cases unA op (xv ts x) <;> rfl
theorem runO_cvi (j : IntKind) (x : CX) : runO P G S ts h k (.cvi j x) = onInt (xv ts x) fun _ n => k (.int j (j.wrap n)) h := by
  simp only [runO, isEffO, clsO]
  cases xv ts x <;> rfl
theorem runO_mkif (t : Nat) (x : CX) : runO P G S ts h k (.mkif t x) = k (.iface t (xv ts x)) h := rfl
theorem runO_mkfn (f : Fn) (x y : List CX) : runO P G S ts h k (.mkfn f x y) = k (.fn f (x.map (xv ts)) (y.map (xv ts))) h := rfl
theorem runO_mksl (z : List AV) (s by_ : Nat) (l c : CX) : runO P G S ts h k (.mksl z s by_ l c) = onInt (xv ts l) fun j l => onInt (xv ts c) fun j' c => must (j = .i64 ∧ j' = .i64 ∧ 0 ≤ l ∧ l ≤ c ∧ c < 9223372036854775807 ∧ by_ * c.toNat ≤ 1099511627776) (k (.sl h.n 0 l.toNat c.toNat 0) (h.push (.cells (zerosA z c.toNat) true))) := by
  simp only [runO, isEffO, clsO, must]
  cases xv ts l <;> try rfl
  rename_i j _
  cases xv ts c <;> try (cases j <;> rfl)
  rename_i l j' c
  simp only [onInt]
  cases j <;> try (simp; done)
  cases j' <;> try (simp; done)
  by_cases hc : 0 ≤ l ∧ l ≤ c ∧ c < 9223372036854775807 ∧ by_ * c.toNat ≤ 1099511627776
  · simp only [hc, if_true, true_and, and_self]; rfl
  · simp only [hc, if_false, true_and, false_and]; rfl
theorem runO_fa (off : Nat) (x : CX) : runO P G S ts h k (.fa off x) = onPtr (xv ts x) fun b o => k (.ptr b (o + off)) h := by
  simp only [runO, isEffO, clsO]
  cases xv ts x <;> rfl
theorem runO_fld (g : Bool) (s off : Nat) (x : CX) : runO P G S ts h k (.fld g s off x) = bindO (part g s off (xv ts x)) fun v => k v h := by
  simp only [runO, isEffO, clsO, Cls.ofO]
  cases part g s off (xv ts x) <;> rfl
theorem runO_ia (s : Nat) (x i : CX) : runO P G S ts h k (.ia s x i) = bindO (idxA s (xv ts x) (xv ts i)) fun v => k v h := by
  simp only [runO, isEffO, clsO, Cls.ofO]
  cases idxA s (xv ts x) (xv ts i) <;> rfl
theorem runO_iaa (n s : Nat) (x i : CX) : runO P G S ts h k (.iaa n s x i) = bindO (idxAA n s (xv ts x) (xv ts i)) fun v => k v h := by
  simp only [runO, isEffO, clsO, Cls.ofO]
  cases idxAA n s (xv ts x) (xv ts i) <;> rfl
theorem runO_ixs (x i : CX) : runO P G S ts h k (.ixs x i) = onStr (xv ts x) fun s => onInt (xv ts i) fun _ i => must (0 ≤ i) (bindO s[i.toNat]? fun b => k (.int .u8 b.toNat) h) := by
  simp only [runO, isEffO, clsO]
  cases xv ts x <;> cases xv ts i <;> try rfl
  simp only [Cls.ofO, Bool.false_eq_true, if_false, onStr, onInt, must]
  rename_i s _ i
  by_cases h0 : 0 ≤ i
  · simp only [h0, if_true, true_and]
    cases s[i.toNat]? <;> rfl
  · simp [h0]
theorem runO_lenS (x : CX) : runO P G S ts h k (.lenS x) = bindO (slLen (xv ts x)) fun n => k (.int .i64 n) h := by
  simp only [runO, isEffO, clsO, Cls.ofO]
  cases slLen (xv ts x) <;> rfl
theorem runO_lenT (x : CX) : runO P G S ts h k (.lenT x) = bindO (strLen (xv ts x)) fun n => k (.int .i64 n) h := by
  simp only [runO, isEffO, clsO, Cls.ofO]
  cases strLen (xv ts x) <;> rfl
theorem runO_lenM (x : CX) : runO P G S ts h k (.lenM x) = match xv ts x with
    | .nilm => k (.int .i64 0) h
    | .map b => (match h.get b with | some (.map es _) => k (.int .i64 es.length) h | _ => False)
    | _ => False := by
  simp only [runO, isEffO, clsO]
  cases xv ts x <;> try rfl
  rename_i b
  simp only [Bool.false_eq_true, if_false]
  cases h.get b with
  | none => rfl
  | some o => cases o <;> rfl
theorem runO_ext (x : CX) (i : Nat) : runO P G S ts h k (.ext x i) = onTup (xv ts x) fun vs => bindO vs[i]? fun v => k v h := by
  simp only [runO, isEffO, clsO]
  cases xv ts x <;> try rfl
  rename_i vs
  simp only [Cls.ofO, Bool.false_eq_true, if_false, onTup]
  cases vs[i]? <;> rfl
theorem runO_call (f : CX) (args : List CX) : runO P G S ts h k (.call f args) = callV P DProp S (xv ts f) (args.map (xv ts)) h k := rfl
theorem runO_app (s by_ : Nat) (x y : CX) : runO P G S ts h k (.app s by_ x y) = bindO (appC s by_ (xv ts x) (xv ts y) h) fun r => k r.1 r.2 := by
  simp only [runO, isEffO, effO, if_true]
  cases appC s by_ (xv ts x) (xv ts y) h <;> rfl
theorem runO_gen (op : Op) : runO P G S ts h k (.gen op) = opF P DProp S (evT G ts) (opOf op) h k := by
  simp only [runO, isEffO, clsO, effO, opF, opOf, tagC]
  by_cases he : isEff op = true
  · simp only [he, if_true]
  · simp only [he, if_false]
    cases cls P (evT G ts) (⟨none, op, 0, "", #[], none⟩ : Oper) with
    | pure v => rfl
    | read b f =>
      simp only [Bool.false_eq_true, if_false]
      cases h.get b with
      | none => rfl
      | some x =>
        simp only [Option.bind_some]
        cases f x <;> rfl
    | alloc x g => rfl
    | none => rfl

/-- A call of a known function. -/
theorem callV_func (f : FuncId) (x y args : List AV) (hx : extOf P f = none) : callV P DProp S (.fn (.func f) x y) args h k = S.ca f (x ++ args ++ y) h k := by
  simp only [callV, hx]
theorem SM_ca (f : FuncId) (args : List AV) : (SM P).ca f args h k = ACa P f args h k := _root_.id rfl

def caM (P : Program) (f : FuncId) (args : List AV) (h : Heap) (k : AV → Heap → Prop) (_ : Fz k) : Prop := ACa P f args h k
def wcM (P : Program) (c : CC) (a : AAct) (h : Heap) (k : AExit → AAct → Heap → Prop) (_ : Fz k) : Prop := AWc P c a h k
def wpM (P : Program) (c : Code) (a : AAct) (h : Heap) (k : AExit → AAct → Heap → Prop) (_ : Fz k) : Prop := AWp P c a h k
def cvM (P : Program) (f : AV) (args : List AV) (h : Heap) (k : AV → Heap → Prop) (_ : Fz k) : Prop := callV P DProp (SM P) f args h k
def genM (P : Program) (G : Nat) (op : Op) (ts : List AV) (h : Heap) (k : AV → Heap → Prop) (_ : Fz k) : Prop := runO P G (SM P) ts h k (.gen op)
theorem ACa_eq (f : FuncId) (args : List AV) (h : Heap) (k : AV → Heap → Prop) : ACa P f args h k = caM P f args h k ⟨⟩ := _root_.id rfl
theorem AWc_eq (c : CC) (a : AAct) (h : Heap) (k : AExit → AAct → Heap → Prop) : AWc P c a h k = wcM P c a h k ⟨⟩ := _root_.id rfl
theorem AWp_eq (c : Code) (a : AAct) (h : Heap) (k : AExit → AAct → Heap → Prop) : AWp P c a h k = wpM P c a h k ⟨⟩ := _root_.id rfl
theorem callV_eq (f : AV) (args : List AV) (h : Heap) (k : AV → Heap → Prop) : callV P DProp (SM P) f args h k = cvM P f args h k ⟨⟩ := _root_.id rfl
theorem gen_eq (op : Op) (ts : List AV) (h : Heap) (k : AV → Heap → Prop) : runO P G (SM P) ts h k (.gen op) = genM P G op ts h k ⟨⟩ := _root_.id rfl
theorem caM.of {f : FuncId} {args : List AV} {h : Heap} {k : AV → Heap → Prop} {m : Fz k} (hs : ACa P f args h k) : caM P f args h k m := hs
/-- A call by its contract. -/
theorem caM.by {f : FuncId} {args : List AV} {h : Heap} {k k0 : AV → Heap → Prop} {m : Fz k} (hs : ACa P f args h k0) (hk : ∀ v h', Low h' → k0 v h' → k v h') : caM P f args h k m := hs.monoL fun v h' _ hl hv => hk v h' hl hv
theorem wcM.of {c : CC} {a : AAct} {h : Heap} {k : AExit → AAct → Heap → Prop} {m : Fz k} (hs : AWc P c a h k) : wcM P c a h k m := hs
theorem wpM.of {c : Code} {a : AAct} {h : Heap} {k : AExit → AAct → Heap → Prop} {m : Fz k} (hs : AWp P c a h k) : wpM P c a h k m := hs
theorem cvM.of {f : AV} {args : List AV} {h : Heap} {k : AV → Heap → Prop} {m : Fz k} (hs : callV P DProp (SM P) f args h k) : cvM P f args h k m := hs
theorem genM.of {op : Op} {ts : List AV} {h : Heap} {k : AV → Heap → Prop} {m : Fz k} (hs : runO P G (SM P) ts h k (.gen op)) : genM P G op ts h k m := hs

/-- A loop, with a ghost that a measure lessens. -/
theorem wcM.loop {σ : Type} {c : CC} {k : AExit → AAct → Heap → Prop} {m : Fz k} (μ : σ → Nat) (I : σ → AAct → Heap → Prop)
    (hb : ∀ s a h, Low h → I s a h → AWc P c a h fun e a' h' => match e with | .normal => ∃ s', I s' a' h' ∧ μ s' < μ s | e => k e a' h') {s : σ} {a : AAct} {h : Heap} (hi : I s a h) : wcM P (.loop c) a h k m := AWc.loopG μ I hb hi

/-- A pure function value of one argument: it answers so, whatever else has been made; new blocks alone. -/
def Pure1 (P : Program) (f : AV) (h : Heap) (x r : AV) : Prop := ∀ h', Low h' → Grow h h' → ∀ k : AV → Heap → Prop, (∀ h'', Low h'' → Grow h' h'' → k r h'') → callV P DProp (SM P) f [x] h' k
theorem Pure1.grow {f : AV} {h h' : Heap} {x r : AV} (g : Grow h h') (hp : Pure1 P f h x r) : Pure1 P f h' x r := fun h1 hl g1 => hp h1 hl (g.trans g1)

theorem resA_nil : resA P h ts [] = some [] := _root_.id rfl
theorem resA_tmp (t : Nat) (r : List ResultVar) : resA P h ts (.tmp t :: r) = (resA P h ts r).map (gt ts t :: ·) := by
  simp only [resA, gt, List.getD_eq_getElem?_getD]
theorem resA_cell {g : Bool} {s : Nat} (a t : Nat) (r : List ResultVar) (hg : aggT P t = some g) (hs : sizeT P t = some s) : resA P h ts (.cell a t :: r) = match gt ts a with
    | .ptr b o => (match rd h g s b o with | some v => (resA P h ts r).map (v :: ·) | none => none)
    | _ => none := by
  simp only [resA, gt, List.getD_eq_getElem?_getD, loadA_ldA hg hs, rd]
  cases (ts[a]?).getD .un <;> try rfl
  rename_i b o
  simp only
  cases h.get b <;> rfl

theorem endC_ret (res : List ResultVar) : endC P res k .ret a h = endC P res k .normal a h := rfl
theorem endC_tmps (res : List ResultVar) (ts : List AV) (r : Option Nat) : endC P res k .normal ⟨ts, [], r⟩ h = bindM (resA P h ts res) (fun vs => k (tupA vs) h) ⟨⟩ := by
  simp only [endC, leaveA, bindM, bindO]
  cases resA P h ts res <;> rfl
end
end Go.Am

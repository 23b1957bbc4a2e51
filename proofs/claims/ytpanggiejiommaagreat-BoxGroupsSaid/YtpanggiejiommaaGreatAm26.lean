/- The abstract machine, part 26: code laid out plainly: operands and types looked up once. Definitions alone. -/
import Derived.Test.YtpanggiejiommaaGreatAm25
namespace Go.Am
set_option autoImplicit false
set_option linter.all false
open Go

/-- Operands. -/
inductive CX where
  | t (n : Nat)
  | k (v : AV)
  deriving Inhabited

/-- Operations. -/
inductive CO where
  | mv (x : CX)
  | pick (c a b : CX)
  | alloc (cs : List AV)
  | box (x : CX)
  | build (z : List AV) (pl : List (Nat × Nat)) (ps : List (Nat × CX))
  | bsl (z : List AV) (n s : Nat) (ps : List (Nat × CX))
  | load (g : Bool) (s : Nat) (x : CX)
  | store (s : Nat) (a v : CX)
  | nilc (x : CX)
  | ib (op : BinOp) (x y : CX)
  | sh (op : BinOp) (x y : CX)
  | sb (op : BinOp) (x y : CX)
  | bb (op : BinOp) (x y : CX)
  | un (op : UnOp) (x : CX)
  | cvi (k : IntKind) (x : CX)
  | mkif (t : Nat) (x : CX)
  | mkfn (f : Fn) (a c : List CX)
  | mksl (z : List AV) (s by_ : Nat) (l c : CX)
  | fa (off : Nat) (x : CX)
  | fld (g : Bool) (s off : Nat) (x : CX)
  | ia (s : Nat) (x i : CX)
  | iaa (n s : Nat) (x i : CX)
  | ixs (x i : CX)
  | lenS (x : CX)
  | lenT (x : CX)
  | lenM (x : CX)
  | ext (x : CX) (i : Nat)
  | call (f : CX) (args : List CX)
  | app (s by_ : Nat) (x y : CX)
  | gen (op : Op)

structure COp where
  dst : Option Tmp
  op : CO
  g : Option (Tmp × Bool)

inductive CC where
  | skip
  | ops (l : List COp)
  | draw (l : List (Nat × Nat × COp))
  | seq (a b : CC)
  | cond (c : CX) (a b : CC)
  | block (id : Nat) (c : CC)
  | loop (c : CC)
  | exit (id : Nat)
  | ret
  | orig (c : Code)

section
variable (P : Program)

/-! ### How it is laid out -/

def cxO (G : Nat) : Operand → CX
  | .tmp t => .t t
  | .const v => .k (ofV 4 v)
  | .global g => .k (if g < G then .ptr g 0 else .junk)
  | .func f => .k (.fn (.func f) [] [])

def isIntT (t : TypeId) : Bool := match P.underlying t with | some (.int _) => true | _ => false
def isStrT (t : TypeId) : Bool := match P.underlying t with | some .string => true | _ => false
def isBoolT (t : TypeId) : Bool := match P.underlying t with | some .bool => true | _ => false

def copC (c : Call) (X : Operand → CX) : Option CO :=
  match c.callee, c.argTypes.toList, c.args.toList.map X with
  | .value f, _, xs => some (.call (X f) xs)
  | .builtin .len, t :: _, x :: _ => (match P.underlying t with
    | some .string => some (.lenT x)
    | some (.slice _) => some (.lenS x)
    | some (.map _ _) => some (.lenM x)
    | _ => none)
  | .builtin .append, t :: u :: _, x :: y :: _ => (match P.underlying u with
    | some (.int _) => none
    | none => none
    | some _ => match elemT P t with
      | some e => match sizeT P e, bytesT P e, zeroT P e with
        | some s, some by_, some z => if (0 < s ∧ z.cells.length = s ∧ z.cells.all AV.one = true ∧ 0 < by_) ∧ byteT P e = false then some (.app s by_ x y) else none
        | _, _, _ => none
      | none => none)
  | _, _, _ => none

def copO (X : Operand → CX) (o : Op) : Option CO :=
  match o with
  | .move x | .assign x => some (.mv (X x))
  | .pick c a b => some (.pick (X c) (X a) (X b))
  | .alloc t => if bldT P t then none else match zeroT P t with | some z => if z.cells.all AV.one then some (.alloc z.cells) else none | none => none
  | .box _ x => some (.box (X x))
  | .build t ps =>
    match zeroT P t with
    | some z => if z.cells.all AV.one then (match P.underlying t with
      | some (.struct fs) => (match placesT P fs.toList with | some pl => some (.build z.cells pl (ps.toList.map fun p => (p.1, X p.2))) | none => none)
      | _ => none) else none
    | none => none
  | .buildSlice t len ps =>
    match elemT P t with
    | none => none
    | some e => match zeroT P e, sizeT P e with
      | some z, some s => if z.cells.length = s ∧ 0 < s ∧ len * s ≤ 16777216 ∧ z.cells.all AV.one then some (.bsl (zerosA z.cells len) len s (ps.toList.map fun p => (p.1, X p.2))) else none
      | _, _ => none
  | .load t a => match aggT P t, sizeT P t with | some g, some s => some (.load g s (X a)) | _, _ => none
  | .store t a v => match sizeT P t with | some s => some (.store s (X a) (X v)) | _ => none
  | .nilCheck x => some (.nilc (X x))
  | .binOp op t x y _ =>
    if isIntT P t then some (if isShift op then .sh op (X x) (X y) else .ib op (X x) (X y))
    else if isStrT P t then some (.sb op (X x) (X y))
    else if isBoolT P t then some (.bb op (X x) (X y))
    else none
  | .unOp op _ x => some (.un op (X x))
  | .convert s d x => match P.underlying s, P.underlying d with
    | some (.int _), some (.int k) => some (.cvi k (X x))
    | _, _ => none
  | .makeInterface t x => match P.underlying t with | some (.interface _) | none => none | some _ => some (.mkif t (X x))
  | .makeFunc f a c => match f with | .func _ => some (.mkfn f (a.toList.map X) (c.toList.map X)) | _ => none
  | .makeSlice t l c =>
    match elemT P t with
    | some e => match zeroT P e, sizeT P e, bytesT P e with
      | some z, some s, some by_ => if z.cells.length = s ∧ 0 < s ∧ z.cells.all AV.one then some (.mksl z.cells s by_ (X l) (X c)) else none
      | _, _, _ => none
    | _ => none
  | .fieldAddr t x f =>
    match fieldsT P t with
    | some fs => match fs[f]? with
      | some fd => match sizeT P fd.type with | some (_ + 1) => some (.fa fd.offset (X x)) | _ => none
      | none => none
    | _ => none
  | .field t x f =>
    match fieldsT P t with
    | some fs => match fs[f]? with
      | some fd => match aggT P fd.type, sizeT P fd.type with | some g, some s => some (.fld g s fd.offset (X x)) | _, _ => none
      | none => none
    | _ => none
  | .indexAddr t x i => match P.underlying t with
    | some (.slice e) => match sizeT P e with | some s => some (.ia s (X x) (X i)) | none => none
    | some (.array n e) => match sizeT P e with | some s => some (.iaa n s (X x) (X i)) | none => none
    | _ => none
  | .index t x i => match P.underlying t with
    | some .string => some (.ixs (X x) (X i))
    | _ => none
  | .extract x i => some (.ext (X x) i)
  | .call c => copC P c X
  | _ => none

def cop (o : Op) : CO := (copO P (cxO P.globals.size) o).getD (.gen o)

def copOp (ops : Array Oper) (o : Oper) : Option COp :=
  match o.guard with
  | none => some ⟨o.dst, cop P o.op, none⟩
  | some (j, w) => match (ops[j]?).bind (·.dst) with
    | some d => some ⟨o.dst, cop P o.op, some (d, w)⟩
    | none => none

def compC : Code → CC
  | .skip => .skip
  | .label _ => .skip
  | .region i ops false => match ops.toList.mapM (copOp P ops) with
    | some l => .ops l
    | none => .orig (.region i ops false)
  | .region i ops true => if drawOk ops then (match (canon ops).mapM fun i => (copOp P ops (ops.getD i default)).map fun c => (i, (Region.before ops).getD i 0, c) with
    | some l => .draw l
    | none => .orig (.region i ops true)) else .orig (.region i ops true)
  | .seq a b => .seq (compC a) (compC b)
  | .cond c a b => .cond (cxO P.globals.size c) (compC a) (compC b)
  | .block id c => .block id (compC c)
  | .loop c => .loop (compC c)
  | .exit id => .exit id
  | .ret => .ret
  | c => .orig c

/-- A function: its temporaries, its results, its code. -/
def lookC (f : FuncId) : Option (Nat × List ResultVar × CC) :=
  match P.funcs[f]? with
  | some fn => if fn.name == "runtime.NumGoroutine" then none else fn.body.map fun c => (fn.ntmps, fn.results.toList, compC P c)
  | none => none
end

/-! ### How it runs -/

def xv (ts : List AV) : CX → AV
  | .t n => (ts[n]?).getD .un
  | .k v => v

def ldA (g : Bool) (s o : Nat) : AObj → Option AV
  | .cells cs _ => if g then (if o + s ≤ cs.length then some (.agg ((cs.drop o).take s)) else none) else cs[o]?
  | _ => none
/-- What lies at a place. -/
def rd (h : Heap) (g : Bool) (s b o : Nat) : Option AV := (h.get b).bind (ldA g s o)

def idxA (s : Nat) (v i : AV) : Option AV :=
  match v, i with
  | .sl b o n _ _, .int _ i => if 0 ≤ i ∧ i < n then some (.ptr b (o + i.toNat * s)) else none
  | _, _ => none
def idxAA (n s : Nat) (v i : AV) : Option AV :=
  match v, i with
  | .ptr b o, .int _ i => if 0 ≤ i ∧ i < n then some (.ptr b (o + i.toNat * s)) else none
  | _, _ => none
def slLen : AV → Option Nat
  | .sl _ _ n _ _ => some n
  | .nils => some 0
  | _ => none
def strLen : AV → Option Nat
  | .str s => some s.length
  | _ => none
def part (g : Bool) (s off : Nat) : AV → Option AV
  | .agg cs => if g then (if off + s ≤ cs.length then some (.agg ((cs.drop off).take s)) else none) else cs[off]?
  | _ => none

section
variable (P : Program) (G : Nat)

/-- Operations that neither change memory nor call. -/
def clsO (ts : List AV) : CO → Cls
  | .mv x => .pure (xv ts x)
  | .pick c a b => match xv ts c with | .bool t => .pure (if t then xv ts a else xv ts b) | _ => .none
  | .alloc cs => .alloc (.cells cs true) (.ptr · 0)
  | .box x => if (xv ts x).cells.all AV.one then .alloc (.cells (xv ts x).cells true) (.ptr · 0) else .none
  | .build z pl ps => .ofO ((fillA (fun i => pl[i]?) z (ps.map fun p => (p.1, xv ts p.2))).map .agg)
  | .bsl z n s ps => match fillA (fun i => some (i * s, s)) z (ps.map fun p => (p.1, xv ts p.2)) with
    | some cs => .alloc (.cells cs true) (fun b => .sl b 0 n n 0)
    | none => .none
  | .load g s x => match xv ts x with | .ptr b o => .read b (ldA g s o) | _ => .none
  | .nilc x => match xv ts x with | .ptr b o => .pure (.ptr b o) | .fn (.func f) a c => .pure (.fn (.func f) a c) | .fn (.yield f) a c => .pure (.fn (.yield f) a c) | _ => .none
  | .ib op x y => match xv ts x, xv ts y with | .int k a, .int k' b => if k = k' then .ofO (intA op k a b) else .none | _, _ => .none
  | .sh op x y => match xv ts x, xv ts y with | .int k a, .int _ b => .ofO (shiftA op k a b) | _, _ => .none
  | .sb op x y => match xv ts x, xv ts y with | .str a, .str b => .ofO (strA op a b) | _, _ => .none
  | .bb op x y => match xv ts x, xv ts y with | .bool a, .bool b => .ofO (eqOp op (some (a == b))) | _, _ => .none
  | .un op x => .ofO (unA op (xv ts x))
  | .cvi k x => match xv ts x with | .int _ n => .pure (.int k (k.wrap n)) | _ => .none
  | .mkif t x => .pure (.iface t (xv ts x))
  | .mkfn f a c => .pure (.fn f (a.map (xv ts)) (c.map (xv ts)))
  | .mksl z s by_ l c => match xv ts l, xv ts c with
    | .int .i64 l, .int .i64 c => if 0 ≤ l ∧ l ≤ c ∧ c < 9223372036854775807 ∧ by_ * c.toNat ≤ 1099511627776 then .alloc (.cells (zerosA z c.toNat) true) (fun b => .sl b 0 l.toNat c.toNat 0) else .none
    | _, _ => .none
  | .fa off x => match xv ts x with | .ptr b o => .pure (.ptr b (o + off)) | _ => .none
  | .fld g s off x => .ofO (part g s off (xv ts x))
  | .ia s x i => .ofO (idxA s (xv ts x) (xv ts i))
  | .iaa n s x i => .ofO (idxAA n s (xv ts x) (xv ts i))
  | .ixs x i => match xv ts x, xv ts i with | .str s, .int _ i => .ofO (if 0 ≤ i then (s[i.toNat]?).map fun b => .int .u8 b.toNat else none) | _, _ => .none
  | .lenS x => .ofO ((slLen (xv ts x)).map fun n => .int .i64 n)
  | .lenT x => .ofO ((strLen (xv ts x)).map fun n => .int .i64 n)
  | .lenM x => match xv ts x with
    | .nilm => .pure (.int .i64 0)
    | .map b => .read b fun | .map es _ => some (.int .i64 es.length) | _ => none
    | _ => .none
  | .ext x i => match xv ts x with | .tup vs => .ofO (vs[i]?) | _ => .none
  | .gen op => if isEff op then .none else cls P (evT G ts) ⟨none, op, 0, "", #[], none⟩
  | _ => .none

def appC (s by_ : Nat) (x y : AV) (h : Heap) : Option (AV × Heap) :=
  match srcA s h y with
  | some (m, new) =>
    match x with
    | .nils => if m = 0 then some (.nils, h) else if (2 * m + 1024) * by_ ≤ 1099511627776 then some (.sl h.n 0 m m s, h.push (.cells new true)) else none
    | .sl b o n c k =>
      if m = 0 then some (.sl b o n c k, h)
      else match h.get b with
        | some (.cells cs rw) =>
          if n + m ≤ c then
            if rw ∧ o + (n + m) * s ≤ cs.length then some (.sl b o (n + m) c k, h.set b (.cells (setL cs (o + n * s) new) true)) else none
          else if (2 * (n + m) + 1024) * by_ ≤ 1099511627776 ∧ o + n * s ≤ cs.length then
            if k = 0 then some (.sl h.n 0 (n + m) (n + m) s, h.push (.cells ((cs.drop o).take (n * s) ++ new) true))
            else if rw ∧ k = s then some (.sl h.n 0 (n + m) (n + m) s, (h.set b .gone).push (.cells ((cs.drop o).take (n * s) ++ new) true))
            else none
          else none
        | _ => none
    | _ => none
  | none => none

def isEffO : CO → Bool
  | .store _ _ _ | .call _ _ | .app _ _ _ _ => true
  | .gen op => isEff op
  | _ => false

/-- Operations that change memory, or call. -/
def effO (S : Sm Prop) (ts : List AV) (h : Heap) (k : AV → Heap → Prop) : CO → Prop
  | .store s a v => match xv ts a with
    | .ptr b o => match h.get b with
      | some (.cells cs true) => ((xv ts v).cells.length = s ∧ o + s ≤ cs.length ∧ (xv ts v).cells.all AV.one = true) ∧ k .un (h.set b (.cells (setL cs o (xv ts v).cells) true))
      | _ => False
    | _ => False
  | .call f args => callV P DProp S (xv ts f) (args.map (xv ts)) h k
  | .app s by_ x y => match appC s by_ (xv ts x) (xv ts y) h with
    | some (v, h) => k v h
    | none => False
  | .gen op => effF P DProp S (evT G ts) ⟨none, op, 0, "", #[], none⟩ h k
  | _ => False

def tagC : CO → Option TypeId
  | .gen op => tagOf P op
  | _ => none

def runO (S : Sm Prop) (ts : List AV) (h : Heap) (k : AV → Heap → Prop) (o : CO) : Prop :=
  if isEffO o then effO P G S ts h k o else
  match clsO P G ts o with
  | .pure v => k v h
  | .read b f => match (h.get b).bind f with
    | some v => k v h
    | none => False
  | .alloc x g => k (g h.n) ((h.push x).tagO h.n (tagC P o))
  | .none => match o with
    | .gen op => (match lookA' P (evT G ts) ⟨none, op, 0, "", #[], none⟩ h with
      | some (v, h) => k v h
      | none => False)
    | _ => False

/-- Is an operation wanted? -/
def wantO (a : AAct) (g : Option (Tmp × Bool)) (yes no : Prop) : Prop :=
  match g with
  | none => yes
  | some (d, w) => match a.tmps[d]? with
    | some (.bool b) => (b = w → yes) ∧ (b = (!w) → no)
    | some .junk => False
    | _ => no

def runOps (S : Sm Prop) : List COp → AAct → Heap → (AAct → Heap → Prop) → Prop
  | [], a, h, k => k a h
  | o :: r, a, h, k => wantO a o.g (runO P G S a.tmps h (fun v h => runOps S r (a.put o.dst v) h k) o.op) (runOps S r (a.put o.dst .un) h k)

def runDraw (S : Sm Prop) : List (Nat × Nat × COp) → List Foot → AAct → Heap → (AAct → Heap → Prop) → Prop
  | [], _, a, h, k => k a h
  | (i, m, o) :: r, fs, a, h, k =>
    wantO a o.g
      (if isEffO o.op then effO P G S a.tmps h (fun v h' => keptF DProp m h h' fs (runDraw S r fs (a.put o.dst v) h' k)) o.op
       else match clsO P G a.tmps o.op with
        | .pure v => runDraw S r fs (a.put o.dst v) h k
        | .read b f => match (h.get b).bind f with
          | some v => runDraw S r (.rd i b f v :: fs) (a.put o.dst v) h k
          | none => False
        | .alloc x g => runDraw S r (.al i h.n :: fs) (a.put o.dst (g h.n)) (h.push x) k
        | .none => False)
      (runDraw S r fs (a.put o.dst .un) h k)

/-- What plain code comes to: in loops, and elsewhere. -/
def AWc (c : CC) (a : AAct) (h : Heap) (k : AExit → AAct → Heap → Prop) : Prop := ∀ c', compC P c' = c → AWp P c' a h k

def runC : CC → AAct → Heap → (AExit → AAct → Heap → Prop) → Prop
  | .skip, a, h, k => k .normal a h
  | .ops l, a, h, k => runOps P G (SM P) l a h (k .normal)
  | .draw l, a, h, k => runDraw P G (SM P) l [] a h (k .normal)
  | .seq x y, a, h, k => runC x a h fun e a h => match e with
    | .normal => runC y a h k
    | e => k e a h
  | .cond c x y, a, h, k => match xv a.tmps c with
    | .bool b => (b = true → runC x a h k) ∧ (b = false → runC y a h k)
    | _ => False
  | .block id c, a, h, k => runC c a h fun e a h => match e with
    | .exit j => if j = id then k .normal a h else k (.exit j) a h
    | e => k e a h
  | .loop c, a, h, k => AWc P (.loop c) a h k
  | .exit id, a, h, k => k (.exit id) a h
  | .ret, a, h, k => k .ret a h
  | .orig c, a, h, k => AWp P c a h k

/-- The end of a function. -/
def endC (res : List ResultVar) (k : AV → Heap → Prop) (e : AExit) (a : AAct) (h : Heap) : Prop :=
  match e with
  | .normal | .ret => match leaveA a.dfs h with
    | some h => match resA P h a.tmps res with
      | some vs => k (tupA vs) h
      | none => False
    | none => False
  | _ => False
end
end Go.Am

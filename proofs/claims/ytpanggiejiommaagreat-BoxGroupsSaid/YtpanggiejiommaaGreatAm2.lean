/- The abstract machine, part 2: how code runs on it. A definition only; nothing is claimed here. -/
import Derived.Test.YtpanggiejiommaaGreatAm1
import Derived.Orders
import Derived.Lib.Bytealg
namespace Go.Am
set_option autoImplicit false
set_option linter.all false

inductive AExit where
  | normal
  | exit (id : Nat)
  | goto (l : Nat)
  | ret

/-- What the machine answers in: 'no' where it cannot go on, 'all' where anything may come next, 'sameO' and 'sameV' where two blocks, or two values, have to be the same. -/
structure Dem (R : Type) where
  no : R
  all : List R → R
  sameO : Option AObj → Option AObj → R → R
  sameV : Option AV → AV → R → R

def yieldedA (ops : Array Oper) (tmps : List AV) (j : Nat) : Option Bool :=
  match ((ops[j]?).bind (·.dst)).bind (tmps[·]?) with
  | some (.bool b) => some b
  | _ => none

/-- Is an operation wanted? None: it can't be told. -/
def wantedA (ops : Array Oper) (tmps : List AV) (o : Oper) : Option Bool :=
  match o.guard with
  | none => some true
  | some (j, want) =>
    match ((ops[j]?).bind (·.dst)).bind (tmps[·]?) with
    | some (.bool b) => some (b == want)
    | some .junk => none
    | _ => some false

/-- An order in which what does not change memory comes as early as it can; the changes in their own order. -/
def canonGo (ops : Array Oper) (b : Array Nat) : Nat → Nat → List Nat → List Nat → List Nat
  | 0, _, _, acc => acc.reverse
  | f + 1, done, todo, acc =>
    let ready := todo.filter fun i => (b.getD i 0) &&& done == b.getD i 0
    match ready.filter fun i => !isEff ((ops.getD i default).op) with
    | i :: _ => canonGo ops b f (done ||| 2 ^ i) (todo.filter (· != i)) (i :: acc)
    | [] => match ready with
      | i :: _ => canonGo ops b f (done ||| 2 ^ i) (todo.filter (· != i)) (i :: acc)
      | [] => acc.reverse
def canon (ops : Array Oper) : List Nat := canonGo ops (Region.before ops) ops.size 0 (List.range ops.size) []

def edgesIn (o : Oper) (done : Nat) : Bool := o.after.all fun e => !Region.binds .any e || done.testBit e.on

/-- The list keeps to the edges; where it comes to a change, nothing else could come. -/
def canonOk (ops : Array Oper) : Nat → List Nat → Bool
  | _, [] => true
  | done, i :: rest =>
    decide (i < ops.size) && !rest.contains i && edgesIn (ops.getD i default) done &&
    (!isEff (ops.getD i default).op || rest.all fun j => !edgesIn (ops.getD j default) done) && canonOk ops (done ||| 2 ^ i) rest

/-- What a region that draws its order has to be like. -/
def drawOk (ops : Array Oper) : Bool :=
  let b := Region.before ops
  let c := canon ops
  (List.range ops.size).all (fun i => c.contains i) && canonOk ops 0 c &&
  (List.range ops.size).all (fun j => (ops.getD j default).after.all fun e => !Region.binds .any e || decide (e.on < j)) &&
  (List.range ops.size).all (fun j => (List.range ops.size).all fun i => !(b.getD j 0).testBit i || (ops.getD j default).after.any fun e => Region.binds .any e && (e.on == i || (b.getD e.on 0).testBit i)) &&
  (List.range ops.size).all (fun j => (List.range j).all fun i => (b.getD j 0).testBit i || (ops.getD i default).apart ops (ops.getD j default))

structure Sm (R : Type) where
  ex : Code → AAct → Heap → (AExit → AAct → Heap → R) → R
  ca : FuncId → List AV → Heap → (AV → Heap → R) → R

/-- Functions without a body that answer out of their arguments alone. -/
inductive Ext where
  | indexByte
  | count
  | noEscape

def extNamed (s : String) : Option Ext :=
  if s = "internal/bytealg.IndexByteString" then some .indexByte
  else if s = "internal/bytealg.CountString" then some .count
  else if s = "internal/abi.NoEscape" then some .noEscape
  else none
def extOf (P : Program) (g : FuncId) : Option Ext :=
  match P.funcs[g]? with
  | some fn => if fn.body.isNone && (Extern.findNext fn).isNone && !(fn.name == "runtime.NumGoroutine") then extNamed fn.name else none
  | none => none

def extA : Ext → List AV → Option AV
  | .indexByte, [.str s, .int .u8 c] => some (.int .i64 (Lib.indexByte s c.toNat.toUInt8))
  | .count, [.str s, .int .u8 c] => some (.int .i64 (Lib.countByte s c.toNat.toUInt8))
  | .noEscape, [x] => some x
  | _, _ => none

section
variable {R : Type} (P : Program) (D : Dem R)

/-- One round of a range over a function. -/
def roundF (S : Sm R) (l : Nat) (args : List AV) (h : Heap) (k : AV → Heap → R) : R :=
  match h.get l with
  | some (.loop _ _ tmps params assign code _) =>
    if args.length = params.size then
      S.ex assign ⟨(params.toList.zip args).foldl (fun ts p => ts.set p.1 p.2) tmps, [], some l⟩ h fun e a h =>
        match e, h.get l with
        | .normal, some (.loop .ready pend tmps params assign body df) =>
          S.ex code a (h.set l (.loop .busy pend tmps params assign body df)) fun e _ h =>
            match h.get l with
            | some (.loop _ _ tmps params assign body df) =>
              match e with
              | .normal => k (.bool true) (h.set l (.loop .ready none tmps params assign body df))
              | .ret => k (.bool false) (h.set l (.loop .done (some .ret) tmps params assign body df))
              | .exit id => k (.bool false) (h.set l (.loop .done (some (.exit id)) tmps params assign body df))
              | .goto _ => D.no
            | _ => D.no
        | _, _ => D.no
    else D.no
  | _ => D.no

/-- A call of a value. -/
def callV (S : Sm R) (f : AV) (args : List AV) (h : Heap) (k : AV → Heap → R) : R :=
  match f with
  | .fn (.func g) first captured => match extOf P g with
    | some x => (match extA x (first ++ args ++ captured) with
      | some v => k v h
      | none => D.no)
    | none => S.ca g (first ++ args ++ captured) h k
  | .fn (.yield l) first _ => roundF D S l (first ++ args) h k
  | _ => D.no

/-- The next entry of a map: whichever comes. -/
def nextM (es : List AEntry) (clock : Nat) (r : Nat) (m : Nat) (since : Nat) (seen : List Nat) (last : Nat) (h : Heap) (k : AV → Heap → R) : R :=
  if !seen.isEmpty && !es.isEmpty && es.all (fun e => decide (last ≤ e.born)) then D.no else
  let left := es.filter fun e => !seen.contains e.born
  let old := left.filter fun e => decide (e.born < since)
  let new := left.filter fun e => decide (since ≤ e.born)
  D.all ((if old.isEmpty then [k (.tup [.bool false]) h] else []) ++
    (old ++ new).map fun e => k (.tup [.bool true, e.key, e.val]) (h.set r (.miter (some m) since (seen ++ [e.born]) clock)))

def nextF (it : AV) (isString : Bool) (h : Heap) (k : AV → Heap → R) : R :=
  match it with
  | .ptr r 0 =>
    match h.get r, isString with
    | some (.siter s pos), true =>
      if pos < s.length then
        let (c, width) := Utf8.decode ⟨s.toArray⟩ pos
        k (.tup [.bool true, .int .i64 pos, .int .i32 c]) (h.set r (.siter s (pos + width)))
      else k (.tup [.bool false]) h
    | some (.miter none _ _ _), false => k (.tup [.bool false]) h
    | some (.miter (some m) since seen last), false =>
      match h.get m with
      | some (.map es clock) => nextM D es clock r m since seen last h k
      | _ => D.no
    | _, _ => D.no
  | _ => D.no

/-- The entry at which an iterator stands. -/
def entryF (it : AV) (h : Heap) (k : AV → Heap → R) : R :=
  match it with
  | .ptr r 0 =>
    match h.get r with
    | some (.miter (some m) _ seen last) =>
      match h.get m, seen.getLast? with
      | some (.map es clock), some stamp =>
        if clock = last then
          match es.find? (fun e => decide (e.born = stamp)) with
          | some e => k (.tup [e.key, e.val]) h
          | none => D.no
        else D.no
      | _, _ => D.no
    | _ => D.no
  | _ => D.no

/-- An operation that changes memory. -/
def effF (S : Sm R) (ev : Operand → AV) (o : Oper) (h : Heap) (k : AV → Heap → R) : R :=
  match o.op with
  | .next it s => nextF D (ev it) s h k
  | .entry it => entryF D (ev it) h k
  | .call { callee := .value f, args, .. } => callV P D S (ev f) (args.toList.map ev) h k
  | _ => match effA P ev o h with
    | some (v, h) => k v h
    | none => D.no

/-- An operation. -/
def opF (S : Sm R) (ev : Operand → AV) (o : Oper) (h : Heap) (k : AV → Heap → R) : R :=
  if isEff o.op then effF P D S ev o h k else
  match cls P ev o with
  | .pure v => k v h
  | .read b f => match h.get b with
    | some x => match f x with
      | some v => k v h
      | none => D.no
    | none => D.no
  | .alloc x g => k (g h.n) ((h.push x).tagO h.n (tagOf P o.op))
  | .none => match lookA' P ev o h with
    | some (v, h) => k v h
    | none => D.no

def opsF (S : Sm R) (ops : Array Oper) : List Oper → AAct → Heap → (AAct → Heap → R) → R
  | [], a, h, k => k a h
  | o :: rest, a, h, k =>
    match wantedA ops a.tmps o with
    | some true => opF P D S (a.ev P.globals.size) o h fun v h => opsF S ops rest (a.put o.dst v) h k
    | some false => opsF S ops rest (a.put o.dst .un) h k
    | none => D.no

/-- What an operation has seen, or made, that need not have run when a later one runs. -/
inductive Foot where
  | rd (i b : Nat) (f : AObj → Option AV) (v : AV)
  | al (i b : Nat)

/-- It sees the same, or makes the same, behind the later one. -/
def keptF (b : Nat) (h h' : Heap) : List Foot → R → R
  | [], r => r
  | .rd i x f v :: rest, r => if b.testBit i then keptF b h h' rest r else D.sameV ((h'.get x).bind f) v (keptF b h h' rest r)
  | .al i x :: rest, r => if b.testBit i then keptF b h h' rest r else D.sameO (h.get x) (h'.get x) (keptF b h h' rest r)

def drawF (S : Sm R) (ops : Array Oper) : List Nat → List Foot → AAct → Heap → (AAct → Heap → R) → R
  | [], _, a, h, k => k a h
  | i :: rest, fs, a, h, k =>
    let o := ops.getD i default
    match wantedA ops a.tmps o with
    | some false => drawF S ops rest fs (a.put o.dst .un) h k
    | none => D.no
    | some true =>
      if isEff o.op then
        effF P D S (a.ev P.globals.size) o h fun v h' => keptF D ((Region.before ops).getD i 0) h h' fs (drawF S ops rest fs (a.put o.dst v) h' k)
      else
        match cls P (a.ev P.globals.size) o with
        | .pure v => drawF S ops rest fs (a.put o.dst v) h k
        | .read b f => match h.get b with
          | some x => match f x with
            | some v => drawF S ops rest (.rd i b f v :: fs) (a.put o.dst v) h k
            | none => D.no
          | none => D.no
        | .alloc x g => drawF S ops rest (.al i h.n :: fs) (a.put o.dst (g h.n)) (h.push x) k
        | .none => D.no

/-- The statement 'for .. := range g'. -/
def rangeF (S : Sm R) (g : Operand) (ps : Array Tmp) (assign body : Code) (a : AAct) (h : Heap) (k : AExit → AAct → Heap → R) : R :=
  let go (a' : AAct) (df : Nat) (h : Heap) : R :=
    let l := h.n
    match a.ev P.globals.size g with
    | .fn (.func f) first captured =>
      S.ca f (first ++ [.fn (.yield l) [] []] ++ captured) (h.push (.loop .ready none a.tmps ps assign body df)) fun _ h =>
        match h.get l with
        | some (.loop st pend tmps ps as bd df) =>
          match st with
          | .busy => D.no
          | _ =>
            let h' := h.set l (.loop .exhausted pend tmps ps as bd df)
            match pend with
            | none => k .normal a' h'
            | some .ret => k .ret a' h'
            | some (.exit id) => k (.exit id) a' h'
            | _ => D.no
        | _ => D.no
    | _ => D.no
  match a.rd with
  | none => go { a with dfs := h.n :: a.dfs } h.n (h.push .dfr)
  | some l => match h.get l with
    | some (.loop _ _ _ _ _ _ df) => go a df h
    | _ => D.no

def exF (S : Sm R) : Code → AAct → Heap → (AExit → AAct → Heap → R) → R
  | .skip, a, h, k => k .normal a h
  | .label _, a, h, k => k .normal a h
  | .region _ ops draw, a, h, k =>
    if draw then (if drawOk ops then drawF P D S ops (canon ops) [] a h (k .normal) else D.no)
    else opsF P D S ops ops.toList a h (k .normal)
  | .seq x y, a, h, k => S.ex x a h fun e a h => match e with
    | .normal => S.ex y a h k
    | e => k e a h
  | .cond c x y, a, h, k => match a.ev P.globals.size c with
    | .bool b => S.ex (if b then x else y) a h k
    | _ => D.no
  | .block id c, a, h, k => S.ex c a h fun e a h => match e with
    | .exit j => if j = id then k .normal a h else k (.exit j) a h
    | e => k e a h
  | .loop c, a, h, k => S.ex c a h fun e a h => match e with
    | .normal => S.ex (.loop c) a h k
    | e => k e a h
  | .exit id, a, h, k => k (.exit id) a h
  | .ret, a, h, k => k .ret a h
  | .rangeFunc g ps assign body, a, h, k => rangeF P D S g ps assign body a h k
  | _, _, _, _ => D.no

def leaveA : List Nat → Heap → Option Heap
  | [], h => some h
  | b :: r, h => match h.get b with
    | some .dfr => leaveA r (h.set b .gone)
    | _ => none

def resA (h : Heap) (tmps : List AV) : List ResultVar → Option (List AV)
  | [] => some []
  | .tmp t :: r => (resA h tmps r).map (tmps.getD t .un :: ·)
  | .cell a t :: r => match tmps.getD a .un with
    | .ptr b o => match h.get b with
      | some x => match loadA P t o x with
        | some v => (resA h tmps r).map (v :: ·)
        | none => none
      | none => none
    | _ => none

def tupA : List AV → AV
  | [v] => v
  | vs => .tup vs

def caF (S : Sm R) (f : FuncId) (args : List AV) (h : Heap) (k : AV → Heap → R) : R :=
  match P.funcs[f]? with
  | some fn => match fn.body with
    | some c =>
      if fn.name == "runtime.NumGoroutine" then D.no else
      S.ex c ⟨args ++ List.replicate (fn.ntmps - args.length) .un, [], none⟩ h fun e a h => match e with
      | .normal | .ret => match leaveA a.dfs h with
        | some h => match resA P h a.tmps fn.results.toList with
          | some vs => k (tupA vs) h
          | none => D.no
        | none => D.no
      | _ => D.no
    | none => D.no
  | none => D.no

def sm : Nat → Sm R
  | 0 => ⟨fun _ _ _ _ => D.no, fun _ _ _ _ => D.no⟩
  | n + 1 => ⟨exF P D (sm n), caF P D (sm n)⟩

end

def DBool : Dem Bool where
  no := false
  all := fun l => l.all id
  sameO := fun x y r => (match x, y with
    | some (.cells a p), some (.cells b q) => decide (p = q) && AV.eqbL a b
    | _, _ => false) && r
  sameV := fun x y r => (match x with
    | some x => AV.eqb x y
    | none => false) && r

end Go.Am

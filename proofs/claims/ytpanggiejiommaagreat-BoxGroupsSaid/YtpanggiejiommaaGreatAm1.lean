/- The abstract machine, part 1: its values, its memory, and what its operations do. A definition only; nothing is claimed here. -/
import Derived.RangeFuncLeaves
import Derived.OrdersIn
namespace Go.Am
set_option autoImplicit false
set_option linter.all false

/-- Values. A slice bears what is known of its capacity: 'c' places, exactly so many if 'x' is 0; else at least so many, of 'x' cells each. -/
inductive AV where
  | int (k : IntKind) (n : Int)
  | bool (b : Bool)
  | str (s : List UInt8)
  | ptr (b o : Nat)
  | nilp
  | sl (b o n c x : Nat)
  | nils
  | map (b : Nat)
  | nilm
  | fn (f : Fn) (first captured : List AV)
  | nilf
  | iface (t : Nat) (v : AV)
  | nili
  | agg (cs : List AV)
  | tup (vs : List AV)
  | junk
  deriving Inhabited

def AV.un : AV := .tup []

mutual
def AV.eqb : AV → AV → Bool
  | .int k n, .int k' n' => decide (k = k') && decide (n = n')
  | .bool a, .bool b => decide (a = b)
  | .str a, .str b => decide (a = b)
  | .ptr b o, .ptr b' o' => decide (b = b') && decide (o = o')
  | .nilp, .nilp => true
  | .sl b o n c x, .sl b' o' n' c' x' => decide (b = b') && decide (o = o') && decide (n = n') && decide (c = c') && decide (x = x')
  | .nils, .nils => true
  | .map b, .map b' => decide (b = b')
  | .nilm, .nilm => true
  | .fn f a b, .fn f' a' b' => decide (f = f') && AV.eqbL a a' && AV.eqbL b b'
  | .nilf, .nilf => true
  | .iface t v, .iface t' v' => decide (t = t') && AV.eqb v v'
  | .nili, .nili => true
  | .agg a, .agg b => AV.eqbL a b
  | .tup a, .tup b => AV.eqbL a b
  | .junk, .junk => true
  | _, _ => false
def AV.eqbL : List AV → List AV → Bool
  | [], [] => true
  | a :: as, b :: bs => AV.eqb a b && AV.eqbL as bs
  | _, _ => false
end

/-- A value of one cell. -/
def AV.one : AV → Bool
  | .agg _ | .tup _ | .junk => false
  | _ => true
/-- The cells of a value. -/
def AV.cells : AV → List AV
  | .agg cs => cs
  | v => [v]

def AV.isAgg : AV → Bool
  | .agg _ => true
  | _ => false

structure AEntry where
  key : AV
  val : AV
  born : Nat

inductive AObj where
  | cells (cs : List AV) (rw : Bool)
  | map (es : List AEntry) (clock : Nat)
  | siter (s : List UInt8) (pos : Nat)
  | miter (m : Option Nat) (since : Nat) (seen : List Nat) (last : Nat)
  | loop (st : LoopState) (pending : Option Code) (tmps : List AV) (params : Array Tmp) (assign body : Code) (defers : Nat)
  | dfr
  | gone
  deriving Inhabited

def AObj.rw : AObj → Bool
  | .cells _ rw => rw
  | .gone => false
  | _ => true
def AObj.live : AObj → Bool
  | .gone => false
  | _ => true

/-! ### Memory: a tree by the digits of a block's number -/

inductive Tr (α : Type) where
  | nil
  | node (l : Tr α) (v : Option α) (r : Tr α)
  deriving Inhabited

section
variable {α : Type}
def Tr.get : Tr α → Nat → Option α
  | .nil, _ => none
  | .node l v r, n => if n = 0 then v else if n % 2 = 1 then l.get (n / 2) else r.get (n / 2 - 1)
def Tr.setF : Nat → Tr α → Nat → α → Tr α
  | 0, t, _, _ => t
  | f + 1, .nil, n, x => if n = 0 then .node .nil (some x) .nil else if n % 2 = 1 then .node (Tr.setF f .nil (n / 2) x) none .nil else .node .nil none (Tr.setF f .nil (n / 2 - 1) x)
  | f + 1, .node l v r, n, x => if n = 0 then .node l (some x) r else if n % 2 = 1 then .node (Tr.setF f l (n / 2) x) v r else .node l v (Tr.setF f r (n / 2 - 1) x)
def Tr.set (t : Tr α) (n : Nat) (x : α) : Tr α := Tr.setF (n + 1) t n x
end

/-- Memory: its blocks, where the next one comes, and of some blocks what type their cells have (and whether nothing lies ahead of them). -/
structure Heap where
  t : Tr AObj
  n : Nat
  y : Tr (TypeId × Bool)
  deriving Inhabited

def Heap.new (n : Nat) : Heap := ⟨.nil, n, .nil⟩

def Heap.get (h : Heap) (b : Nat) : Option AObj := h.t.get b
def Heap.set (h : Heap) (b : Nat) (o : AObj) : Heap := ⟨h.t.set b o, h.n, h.y⟩
def Heap.push (h : Heap) (o : AObj) : Heap := ⟨h.t.set h.n o, h.n + 1, h.y⟩
def Heap.ty (h : Heap) (b : Nat) : Option (TypeId × Bool) := h.y.get b
def Heap.tag (h : Heap) (b : Nat) (x : TypeId × Bool) : Heap := ⟨h.t, h.n, h.y.set b x⟩

/-! ### Constants, types -/

def ofV : Nat → Value → AV
  | _, .int k n => .int k n
  | _, .bool b => .bool b
  | _, .string s => .str s.data.toList
  | _, .pointer none => .nilp
  | _, .slice none 0 0 => .nils
  | _, .map none => .nilm
  | _, .nilFunc => .nilf
  | _, .nilIface => .nili
  | d + 1, .agg cs => .agg (cs.toList.map (ofV d))
  | d + 1, .tuple cs => .tup (cs.toList.map (ofV d))
  | _, _ => .junk

structure AAct where
  tmps : List AV
  dfs : List Nat
  rd : Option Nat

def AAct.put (a : AAct) (dst : Option Tmp) (v : AV) : AAct :=
  match dst with
  | some d => { a with tmps := a.tmps.set d v }
  | none => a

def evT (G : Nat) (tmps : List AV) : Operand → AV
  | .tmp t => tmps.getD t .un
  | .const v => ofV 4 v
  | .global g => if g < G then .ptr g 0 else .junk
  | .func f => .fn (.func f) [] []

def AAct.ev (G : Nat) (a : AAct) : Operand → AV := evT G a.tmps

section
variable (P : Program)
def aggT (t : TypeId) : Option Bool :=
  match P.underlying t with
  | some (.struct _) | some (.array _ _) => some true
  | some _ => some false
  | none => none
def sizeT (t : TypeId) : Option Nat := (P.info? t).map (·.size)
def bytesT (t : TypeId) : Option Nat := (P.info? t).map (·.bytes)
def zeroT (t : TypeId) : Option AV := (P.info? t).bind fun i => i.zero.map (ofV 4)
def elemT (t : TypeId) : Option TypeId :=
  match P.underlying t with
  | some (.slice e) => some e
  | _ => none
/-- A part of an aggregate. -/
def partA (t : TypeId) (cs : List AV) (off : Nat) : Option AV :=
  match aggT P t, sizeT P t with
  | some true, some s => if off + s ≤ cs.length then some (.agg ((cs.drop off).take s)) else none
  | some false, some _ => cs[off]?
  | _, _ => none
end

/-! ### Arithmetic -/

def cmpI : BinOp → Int → Int → Option Bool
  | .eql, x, y => some (x == y)
  | .neq, x, y => some (x != y)
  | .lss, x, y => some (decide (x < y))
  | .leq, x, y => some (decide (x ≤ y))
  | .gtr, x, y => some (decide (x > y))
  | .geq, x, y => some (decide (x ≥ y))
  | _, _, _ => none

def bitsA (op : BinOp) (k : IntKind) (x y : Int) : Option Int :=
  let a := BitVec.ofInt k.bits x
  let b := BitVec.ofInt k.bits y
  match op with
  | .and => some (k.wrap (a &&& b).toNat)
  | .or => some (k.wrap (a ||| b).toNat)
  | .xor => some (k.wrap (a ^^^ b).toNat)
  | .andNot => some (k.wrap (a &&& ~~~b).toNat)
  | _ => none

def intA (op : BinOp) (k : IntKind) (x y : Int) : Option AV :=
  match op with
  | .add => some (.int k (k.wrap (x + y)))
  | .sub => some (.int k (k.wrap (x - y)))
  | .mul => some (.int k (k.wrap (x * y)))
  | .quo => if y = 0 then none else some (.int k (k.wrap (x.tdiv y)))
  | .rem => if y = 0 then none else some (.int k (x.tmod y))
  | .and | .or | .xor | .andNot => (bitsA op k x y).map (.int k)
  | .shl | .shr => none
  | _ => (cmpI op x y).map .bool

def shiftA (op : BinOp) (k : IntKind) (x y : Int) : Option AV :=
  if y < 0 then none else
  match op with
  | .shl => some (.int k (k.wrap (x * 2 ^ (min y.toNat k.bits))))
  | .shr => some (.int k (x.fdiv (2 ^ (min y.toNat k.bits))))
  | _ => none

def strA (op : BinOp) (x y : List UInt8) : Option AV :=
  match op with
  | .add => if x.length + y.length < 9223372036854775807 then some (.str (x ++ y)) else none
  | .eql => some (.bool (x == y))
  | .neq => some (.bool !(x == y))
  | .lss => some (.bool (Op.bytesLess x y))
  | .leq => some (.bool (Op.bytesLess x y || x == y))
  | .gtr => some (.bool !(Op.bytesLess x y || x == y))
  | .geq => some (.bool !(Op.bytesLess x y))
  | _ => none

/-- The kinds of cells that are compared one by one. -/
inductive Kd where
  | int (k : IntKind)
  | bool
  | str
  deriving DecidableEq

/-- The kinds of the cells of fields that lie one behind the other. -/
def kindsF (P : Program) (g : TypeId → Option (List Kd)) : Nat → List Field → Option (List Kd)
  | _, [] => some []
  | off, f :: fs =>
    if f.offset = off ∧ f.name ≠ "_" then
      match g f.type with
      | some ks => (kindsF P g (off + ks.length) fs).map (ks ++ ·)
      | none => none
    else none

def timesL {α : Type} : Nat → List α → List α
  | 0, _ => []
  | n + 1, l => l ++ timesL n l

/-- The kinds of the cells of a type whose values are compared cell by cell. -/
def kindsT (P : Program) : Nat → TypeId → Option (List Kd)
  | 0, _ => none
  | d + 1, t =>
    match (match P.underlying t with
      | some (.int k) => some [Kd.int k]
      | some .bool => some [Kd.bool]
      | some .string => some [Kd.str]
      | some (.struct fs) => if P.stoodInHeld t then none else kindsF P (kindsT P d) 0 fs.toList
      | some (.array n e) => (kindsT P d e).map (timesL n)
      | _ => none) with
    | some ks => if sizeT P t = some ks.length then some ks else none
    | none => none

/-- Two cells of one kind. -/
def eqKd : Kd → AV → AV → Option Bool
  | .int k, .int j a, .int j' b => if j = k ∧ j' = k then some (a == b) else none
  | .bool, .bool a, .bool b => some (a == b)
  | .str, .str a, .str b => some (a == b)
  | _, _, _ => none
def eqSK : List Kd → List AV → List AV → Option Bool
  | [], [], [] => some true
  | k :: ks, a :: as, b :: bs =>
    match eqKd k a b with
    | some true => eqSK ks as bs
    | some false => some false
    | none => none
  | _, _, _ => none

/-- Two values of one type, whose cells are of these kinds. -/
def eqK (ks : List Kd) : AV → AV → Option Bool
  | .agg a, .agg b => if a.length = ks.length ∧ b.length = ks.length then eqSK ks a b else none
  | .agg _, _ => none
  | _, .agg _ => none
  | a, b => match ks with
    | [k] => eqKd k a b
    | _ => none

def comparT (P : Program) (t : TypeId) : Bool := match P.info? t with | some i => i.comparable | none => false

/-- '==' of two values of a type. -/
def eqA (P : Program) (t : TypeId) (x y : AV) : Option Bool :=
  match x, y with
  | .int k a, .int k' b => if k = k' then some (a == b) else none
  | .bool a, .bool b => match P.underlying t with | some .bool => some (a == b) | _ => none
  | .str a, .str b => some (a == b)
  | .agg a, .agg b => if aggT P t = some true ∧ P.eqGuardType P.depth t = false then (match kindsT P 8 t with | some ks => eqK ks (.agg a) (.agg b) | none => none) else none
  | .nilp, .nilp => match P.underlying t with | some (.pointer _) => some true | _ => none
  | .ptr _ _, .nilp | .nilp, .ptr _ _ => match P.underlying t with | some (.pointer _) => some false | _ => none
  | .nils, .nils => match P.underlying t with | some (.slice _) => some true | _ => none
  | .sl _ _ _ _ _, .nils | .nils, .sl _ _ _ _ _ => match P.underlying t with | some (.slice _) => some false | _ => none
  | .nilm, .nilm => match P.underlying t with | some (.map _ _) => some true | _ => none
  | .map _, .nilm | .nilm, .map _ => match P.underlying t with | some (.map _ _) => some false | _ => none
  | .nilf, .nilf => match P.underlying t with | some (.func _ _ _) => some true | _ => none
  | .fn _ _ _, .nilf | .nilf, .fn _ _ _ => match P.underlying t with | some (.func _ _ _) => some false | _ => none
  | .iface _ _, .nili | .nili, .iface _ _ => match P.underlying t with | some (.interface _) => some false | _ => none
  | .ptr b o, .ptr b' o' => match P.underlying t with
    | some (.pointer u) => if b = b' ∧ o = o' ∧ (sizeT P u).isSome = true then some true else none
    | _ => none
  | .iface tx vx, .iface ty vy => match P.underlying t with
    | some (.interface _) => if tx = ty then (match vx, vy, P.underlying tx with
      | .int k a, .int k' b, some (.int _) => if k = k' ∧ comparT P tx = true then some (a == b) else none
      | _, _, _ => none) else some false
    | _ => none
  | _, _ => none

def isK : Operand → Bool
  | .const _ => true
  | _ => false

def isShift : BinOp → Bool
  | .shl | .shr => true
  | _ => false

def eqOp (op : BinOp) (r : Option Bool) : Option AV :=
  match op with
  | .eql => r.map .bool
  | .neq => r.map fun b => .bool !b
  | _ => none

/-- '==' of two nils of an interface type. -/
def nilEq (P : Program) (t : TypeId) (ox oy : Operand) : Option Bool :=
  if isK ox || isK oy then (match P.underlying t with | some (.interface _) => some true | _ => none) else none

def binA (P : Program) (op : BinOp) (t : TypeId) (ox oy : Operand) (x y : AV) : Option AV :=
  match x with
  | .int k a => match y with
    | .int k' b => if isShift op then shiftA op k a b else if k = k' then intA op k a b else none
    | _ => none
  | .str a => match y with
    | .str b => strA op a b
    | _ => none
  | .nili => match y with
    | .nili => eqOp op (nilEq P t ox oy)
    | _ => eqOp op (eqA P t x y)
  | _ => eqOp op (eqA P t x y)

def unA : UnOp → AV → Option AV
  | .neg, .int k n => some (.int k (k.wrap (0 - n)))
  | .xor, .int k n => (bitsA .xor k (if k.signed then -1 else k.max) n).map (.int k)
  | .not, .bool b => some (.bool !b)
  | _, _ => none

/-! ### What an operation is -/

inductive Cls where
  /-- A value; the memory is not looked at. -/
  | pure (v : AV)
  /-- A value that is read out of one block. -/
  | read (b : Nat) (f : AObj → Option AV)
  /-- A new block. -/
  | alloc (o : AObj) (g : Nat → AV)
  | none

def Cls.ofO : Option AV → Cls
  | some v => .pure v
  | Option.none => .none

/-- Does an operation change memory, or call? (Told by its text alone.) -/
def isEff : Op → Bool
  | .store _ _ _ | .mapUpdate _ _ _ _ | .insert _ _ _ _ | .mapEntry _ _ _ | .entryStore _ _ _ _ | .range _ _ | .next _ _ | .entry _ | .panic _ | .defer _ | .ready _ | .go _ | .send _ _ | .recv _ _ _ | .select _ _ | .makeChan _ _ => true
  | .convert _ _ _ => false
  | .call c => match c.callee with
    | .builtin .len | .builtin .cap | .builtin .min | .builtin .max => false
    | _ => true
  | _ => false

def loadA (P : Program) (t : TypeId) (o : Nat) : AObj → Option AV
  | .cells cs _ =>
    match aggT P t, sizeT P t with
    | some true, some s => if o + s ≤ cs.length then some (.agg ((cs.drop o).take s)) else none
    | some false, some _ => cs[o]?
    | _, _ => none
  | _ => none

/-- Puts parts into the cells of an aggregate. -/
def fillA (place : Nat → Option (Nat × Nat)) (cells : List AV) : List (Nat × AV) → Option (List AV)
  | [] => some cells
  | (i, v) :: rest =>
    match place i with
    | none => none
    | some (off, size) =>
      if v.cells.length = size ∧ off + size ≤ cells.length ∧ v.cells.all AV.one then
        fillA place (cells.take off ++ v.cells ++ cells.drop (off + size)) rest
      else none

def fieldsT (P : Program) (t : TypeId) : Option (List Field) :=
  match P.underlying t with
  | some (.struct fs) => some fs.toList
  | _ => none

def placesT (P : Program) (fs : List Field) : Option (List (Nat × Nat)) := fs.mapM fun f => (sizeT P f.type).map fun s => (f.offset, s)

def buildA (P : Program) (t : TypeId) (parts : List (Nat × AV)) : Option AV :=
  match zeroT P t with
  | some z =>
    if z.cells.all AV.one then
      match P.underlying t with
      | some (.struct fs) =>
        match placesT P fs.toList with
        | some pl => (fillA (fun i => pl[i]?) z.cells parts).map .agg
        | none => none
      | some (.array _ e) =>
        match sizeT P e with
        | some s => (fillA (fun i => some (i * s, s)) z.cells parts).map .agg
        | none => none
      | _ => none
    else none
  | none => none

/-- n times the cells of a zero. -/
def zerosA (z : List AV) : Nat → List AV
  | 0 => []
  | n + 1 => z ++ zerosA z n

def boundA (v : AV) (y : Nat) : Option Nat :=
  match v with
  | .int _ i => if 0 ≤ i ∧ i ≤ y then some i.toNat else none
  | _ => none
def mxA (mx : Option AV) (c : Nat) : Option Nat :=
  match mx with
  | some v => boundA v c
  | none => some c
def hiA (hi mx : Option AV) (n m : Nat) : Option Nat :=
  match hi with
  | some v => boundA v m
  | none => match mx with
    | none => some n
    | some _ => none
def loA (lo : Option AV) (h : Nat) : Option Nat :=
  match lo with
  | some v => boundA v h
  | none => some 0
def sliceBoundsA (n c : Nat) (lo hi mx : Option AV) : Option (Nat × Nat × Nat) :=
  (mxA mx c).bind fun m => (hiA hi mx n m).bind fun h => (loA lo h).map fun l => (l, h, m)

def sliceA (P : Program) (t : TypeId) (x : AV) (lo hi mx : Option AV) : Option AV :=
  match P.underlying t, x with
  | some .string, .str s =>
    match mx, sliceBoundsA s.length s.length lo hi none with
    | none, some (l, h, _) => some (.str ((s.take h).drop l))
    | _, _ => none
  | some (.slice e), .sl b o n c x =>
    match sizeT P e, sliceBoundsA n c lo hi mx with
    | some s, some (l, h, m) => if x = 0 ∨ x = s then some (.sl b (o + l * s) (h - l) (m - l) (if mx.isSome then 0 else x)) else none
    | _, _ => none
  | some (.slice e), .nils =>
    match sizeT P e, sliceBoundsA 0 0 lo hi mx with
    | some _, some _ => some .nils
    | _, _ => none
  | some (.array k e), .ptr b o =>
    match sizeT P e, sliceBoundsA k k lo hi mx with
    | some s, some (l, h, m) => some (.sl b (o + l * s) (h - l) (m - l) 0)
    | _, _ => none
  | _, _ => none

def indexAddrA (P : Program) (t : TypeId) (x i : AV) : Option AV :=
  match P.underlying t, x, i with
  | some (.slice e), .sl b o n _ _, .int _ i =>
    match sizeT P e with
    | some s => if 0 ≤ i ∧ i < n then some (.ptr b (o + i.toNat * s)) else none
    | none => none
  | some (.array k e), .ptr b o, .int _ i =>
    match sizeT P e with
    | some s => if 0 ≤ i ∧ i < k then some (.ptr b (o + i.toNat * s)) else none
    | none => none
  | _, _, _ => none

def indexA (P : Program) (t : TypeId) (x i : AV) : Option AV :=
  match P.underlying t, x, i with
  | some .string, .str s, .int _ i => if 0 ≤ i then (s[i.toNat]?).map fun b => .int .u8 b.toNat else none
  | some (.array k e), .agg cs, .int _ i =>
    match sizeT P e with
    | some s => if 0 ≤ i ∧ i < k then partA P e cs (i.toNat * s) else none
    | none => none
  | _, _, _ => none

def convA (P : Program) (src dst : TypeId) (x : AV) : Option AV :=
  match P.underlying src, P.underlying dst, x with
  | some _, some (.int k), .int _ n => some (.int k (k.wrap n))
  | some _, some .string, .int _ n => some (.str (Utf8.encode n).data.toList)
  | some _, some .string, .str s => some (.str s)
  | _, _, _ => none

def bytesOfA : List AV → Option (List UInt8)
  | [] => some []
  | .int .u8 n :: r => (bytesOfA r).map (UInt8.ofNat n.toNat :: ·)
  | _ :: _ => none

/-- Where a key lies among the entries of a map. -/
def findA (s : List Kd) (k : AV) : List AEntry → Nat → Option (Option (Nat × AEntry))
  | [], _ => some none
  | e :: es, i =>
    match eqK s k e.key with
    | some true => some (some (i, e))
    | some false => findA s k es (i + 1)
    | none => none

/-- Is a value a key of a flat type? The kinds of its cells. -/
def keyOk (P : Program) (kt : TypeId) (k : AV) : Option (List Kd) :=
  match kindsT P 8 kt with
  | some ks => if aggT P kt = some k.isAgg ∧ eqK ks k k = some true then some ks else none
  | none => none

def lookA (P : Program) (kt e : TypeId) (k : AV) (ok : Bool) (es : List AEntry) : Option AV :=
  match keyOk P kt k with
  | some s => match findA s k es 0, zeroT P e with
    | some (some (_, x)), some _ => some (if ok then .tup [x.val, .bool true] else x.val)
    | some none, some z => some (if ok then .tup [z, .bool false] else z)
    | _, _ => none
  | none => none

def minA (l : Bool) : AV → List AV → Option AV
  | x, [] => some x
  | .int k x, .int _ y :: r => minA l (.int k (if l then (if y < x then y else x) else (if y > x then y else x))) r
  | _, _ => none

def lenA (P : Program) (t : TypeId) (x : AV) : Cls :=
  match P.underlying t, x with
  | some .string, .str s => .pure (.int .i64 s.length)
  | some (.array n _), _ => .pure (.int .i64 n)
  | some (.slice _), .sl _ _ n _ _ => .pure (.int .i64 n)
  | some (.slice _), .nils => .pure (.int .i64 0)
  | some (.map _ _), .nilm => .pure (.int .i64 0)
  | some (.map _ _), .map b => .read b fun | .map es _ => some (.int .i64 es.length) | _ => none
  | _, _ => .none

def capA (P : Program) (t : TypeId) (x : AV) : Cls :=
  match P.underlying t, x with
  | some (.array n _), _ => .pure (.int .i64 n)
  | some (.slice _), .sl _ _ _ c 0 => .pure (.int .i64 c)
  | some (.slice _), .nils => .pure (.int .i64 0)
  | _, _ => .none

/-- What an operation is that neither changes what is there, nor calls. -/
def cls (P : Program) (ev : Operand → AV) (o : Oper) : Cls :=
  match o.op with
  | .move x | .assign x => .pure (ev x)
  | .pick c a b => match ev c with | .bool t => .pure (if t then ev a else ev b) | _ => .none
  | .alloc t => match zeroT P t with | some z => if z.cells.all AV.one then .alloc (.cells z.cells true) (.ptr · 0) else .none | none => .none
  | .box _ x => if (ev x).cells.all AV.one then .alloc (.cells (ev x).cells true) (.ptr · 0) else .none
  | .build t ps => .ofO (buildA P t (ps.toList.map fun p => (p.1, ev p.2)))
  | .buildSlice t len ps =>
    match elemT P t with
    | none => .none
    | some e => match zeroT P e, sizeT P e with
      | some z, some s =>
        if z.cells.length = s ∧ 0 < s ∧ len * s ≤ 16777216 ∧ z.cells.all AV.one then
          match fillA (fun i => some (i * s, s)) (zerosA z.cells len) (ps.toList.map fun p => (p.1, ev p.2)) with
          | some cs => .alloc (.cells cs true) (fun b => .sl b 0 len len 0)
          | none => .none
        else .none
      | _, _ => .none
  | .load t a => match ev a with | .ptr b o => .read b (loadA P t o) | _ => .none
  | .nilCheck x => match ev x with | .ptr b o => .pure (.ptr b o) | .fn (.func f) a c => .pure (.fn (.func f) a c) | .fn (.yield f) a c => .pure (.fn (.yield f) a c) | _ => .none
  | .binOp op t x y _ => .ofO (binA P op t x y (ev x) (ev y))
  | .unOp op _ x => .ofO (unA op (ev x))
  | .convert s d x =>
    match P.underlying s, P.underlying d, ev x with
    | some (.slice e), some .string, .nils => match P.underlying e with | some (.int .u8) => .pure (.str []) | _ => .none
    | some (.slice e), some .string, .sl b o n _ _ => match P.underlying e with
      | some (.int .u8) => if n = 0 then .pure (.str []) else .read b fun | .cells cs _ => if o + n ≤ cs.length then (bytesOfA ((cs.drop o).take n)).map .str else none | _ => none
      | _ => .none
    | _, _, v => .ofO (convA P s d v)
  | .makeInterface t x => match P.underlying t with | some (.interface _) | none => .none | some _ => .pure (.iface t (ev x))
  | .makeFunc f a c => match f with | .func _ => .pure (.fn f (a.toList.map ev) (c.toList.map ev)) | _ => .none
  | .makeMap t r => match P.underlying t, r.map ev with | some (.map _ _), none | some (.map _ _), some (.int _ _) => .alloc (.map [] 0) .map | _, _ => .none
  | .makeSlice t l c =>
    match elemT P t, ev l, ev c with
    | some e, .int .i64 l, .int .i64 c => match zeroT P e, sizeT P e, bytesT P e with
      | some z, some s, some by_ =>
        if 0 ≤ l ∧ l ≤ c ∧ c < 9223372036854775807 ∧ by_ * c.toNat ≤ 1099511627776 ∧ z.cells.length = s ∧ 0 < s ∧ z.cells.all AV.one then
          .alloc (.cells (zerosA z.cells c.toNat) true) (fun b => .sl b 0 l.toNat c.toNat 0)
        else .none
      | _, _, _ => .none
    | _, _, _ => .none
  | .slice t x lo hi mx => .ofO (sliceA P t (ev x) (lo.map ev) (hi.map ev) (mx.map ev))
  | .fieldAddr t x f =>
    match fieldsT P t, ev x with
    | some fs, .ptr b o => match fs[f]? with
      | some fd => match sizeT P fd.type with | some (_ + 1) => .pure (.ptr b (o + fd.offset)) | _ => .none
      | none => .none
    | _, _ => .none
  | .field t x f =>
    match fieldsT P t, ev x with
    | some fs, .agg cs => match fs[f]? with | some fd => .ofO (partA P fd.type cs fd.offset) | none => .none
    | _, _ => .none
  | .indexAddr t x i => .ofO (indexAddrA P t (ev x) (ev i))
  | .index t x i => .ofO (indexA P t (ev x) (ev i))
  | .lookup t x i ok =>
    match P.underlying t, ev x with
    | some (.map k e), .nilm => .ofO (lookA P k e (ev i) ok [])
    | some (.map k e), .map b => .read b fun | .map es _ => lookA P k e (ev i) ok es | _ => none
    | _, _ => .none
  | .extract x i => match ev x with | .tup vs => .ofO (vs[i]?) | _ => .none
  | .call c =>
    match c.callee, c.argTypes.toList, c.args.toList.map ev with
    | .builtin .len, t :: _, x :: _ => lenA P t x
    | .builtin .cap, t :: _, x :: _ => capA P t x
    | .builtin .min, _, x :: r => .ofO (minA true x r)
    | .builtin .max, _, x :: r => .ofO (minA false x r)
    | _, _, _ => .none
  | _ => .none

/-! ### Operations that change memory -/

def setL (cs : List AV) (o : Nat) (vs : List AV) : List AV := cs.take o ++ vs ++ cs.drop (o + vs.length)

def storeA (P : Program) (t : TypeId) (p v : AV) (h : Heap) : Option Heap :=
  match p, sizeT P t with
  | .ptr b o, some s =>
    match h.get b with
    | some (.cells cs true) => if v.cells.length = s ∧ o + s ≤ cs.length ∧ v.cells.all AV.one then some (h.set b (.cells (setL cs o v.cells) true)) else none
    | _ => none
  | _, _ => none

/-- The cells of n elements of a slice, or the bytes of a string. -/
def srcA (s : Nat) (h : Heap) : AV → Option (Nat × List AV)
  | .nils => some (0, [])
  | .str l => if s = 1 then some (l.length, l.map fun b => .int .u8 b.toNat) else none
  | .sl b o n _ _ => match h.get b with
    | some (.cells cs _) => if o + n * s ≤ cs.length then some (n, (cs.drop o).take (n * s)) else none
    | _ => none
  | _ => none

def appendA (P : Program) (t : TypeId) (x y : AV) (h : Heap) : Option (AV × Heap) :=
  match elemT P t with
  | none => none
  | some e => match sizeT P e, bytesT P e, zeroT P e, srcA ((sizeT P e).getD 0) h y with
    | some s, some by_, some z, some (m, new) =>
      if 0 < s ∧ z.cells.length = s ∧ z.cells.all AV.one ∧ 0 < by_ then
        match x with
        | .nils => if m = 0 then some (.nils, h) else if (2 * m + 1024) * by_ ≤ 1099511627776 then some (.sl h.n 0 m m s, h.push (.cells new true)) else none
        | .sl b o n c k =>
          if m = 0 then some (.sl b o n c k, h)
          else match h.get b with
            | some (.cells cs rw) =>
              if n + m ≤ c then
                if rw ∧ o + (n + m) * s ≤ cs.length then some (.sl b o (n + m) c k, h.set b (.cells (setL cs (o + n * s) new) true)) else none
              else if (2 * (n + m) + 1024) * by_ ≤ 1099511627776 ∧ o + n * s ≤ cs.length then
                if k = 0 then some (.sl h.n 0 (n + m) (n + m) s, h.push (.cells ((cs.drop o).take (n * s) ++ new) true))
                else if rw ∧ k = s then some (.sl h.n 0 (n + m) (n + m) s, (h.set b .gone).push (.cells ((cs.drop o).take (n * s) ++ new) true))
                else none
              else none
            | _ => none
        | _ => none
      else none
    | _, _, _, _ => none

def copyA (P : Program) (t : TypeId) (x y : AV) (h : Heap) : Option (AV × Heap) :=
  match elemT P t with
  | none => none
  | some e => match sizeT P e with
    | some s => match srcA s h y, x with
      | some (m, src), .sl b o n _ _ =>
        match h.get b with
        | some (.cells cs true) =>
          let k := min m n
          if 0 < s ∧ o + k * s ≤ cs.length then some (.int .i64 k, h.set b (.cells (setL cs o (src.take (k * s))) true)) else none
        | _ => none
      | some _, .nils => some (.int .i64 0, h)
      | _, _ => none
    | none => none

def clearA (P : Program) (t : TypeId) (x : AV) (h : Heap) : Option (AV × Heap) :=
  match elemT P t, x with
  | some _, .nils => some (.un, h)
  | some e, .sl b o n _ _ => match sizeT P e, zeroT P e, h.get b with
    | some s, some z, some (.cells cs true) =>
      if 0 < s ∧ z.cells.length = s ∧ o + n * s ≤ cs.length ∧ z.cells.all AV.one then some (.un, h.set b (.cells (setL cs o (zerosA z.cells n)) true)) else none
    | _, _, _ => none
  | _, _ => none

def updA (P : Program) (t : TypeId) (m k v : AV) (h : Heap) : Option Heap :=
  match P.underlying t, m with
  | some (.map kt _), .map b =>
    match h.get b with
    | some (.map es clock) =>
      match keyOk P kt k with
      | some s =>
        match findA s k es 0 with
        | some (some (i, e)) => some (h.set b (.map (es.set i { e with key := k, val := v }) clock))
        | some none => some (h.set b (.map (es ++ [{ key := k, val := v, born := clock }]) (clock + 1)))
        | none => none
      | none => none
    | _ => none
  | _, _ => none

def entryA (P : Program) (t : TypeId) (m k : AV) (h : Heap) : Option (AV × Heap) :=
  match P.underlying t, m with
  | some (.map kt el), .map b =>
    match h.get b, zeroT P el with
    | some (.map es clock), some z =>
      match keyOk P kt k with
      | some s =>
        match findA s k es 0 with
        | some (some (i, e)) => some (.tup [e.val, .int .i64 e.born], h.set b (.map (es.set i { e with key := k }) clock))
        | some none => some (.tup [z, .int .i64 clock], h.set b (.map (es ++ [{ key := k, val := z, born := clock }]) (clock + 1)))
        | none => none
      | none => none
    | _, _ => none
  | _, _ => none

def stampA (born : Nat) : List AEntry → AV → Option (List AEntry)
  | [], _ => none
  | e :: es, v => if e.born = born then some ({ e with val := v } :: es) else (stampA born es v).map (e :: ·)

def entryStoreA (m s v : AV) (h : Heap) : Option Heap :=
  match m, s with
  | .map b, .int _ n =>
    match h.get b with
    | some (.map es clock) => if 0 ≤ n then (stampA n.toNat es v).map fun es' => h.set b (.map es' clock) else none
    | _ => none
  | _, _ => none

def delA (P : Program) (t : TypeId) (m k : AV) (h : Heap) : Option (AV × Heap) :=
  match P.underlying t, m with
  | some (.map kt _), .map b =>
    match h.get b with
    | some (.map es clock) =>
      match keyOk P kt k with
      | some s =>
        match findA s k es 0 with
        | some (some (i, _)) => some (.un, h.set b (.map (es.eraseIdx i) clock))
        | some none => some (.un, h)
        | none => none
      | none => none
    | _ => none
  | _, _ => none

def rangeA (P : Program) (t : TypeId) (x : AV) (h : Heap) : Option (AV × Heap) :=
  match P.underlying t, x with
  | some .string, .str s => some (.ptr h.n 0, h.push (.siter s 0))
  | some (.map _ _), .nilm => some (.ptr h.n 0, h.push (.miter none 0 [] 0))
  | some (.map _ _), .map b => match h.get b with
    | some (.map _ clock) => some (.ptr h.n 0, h.push (.miter (some b) clock [] clock))
    | _ => none
  | _, _ => none

/-- Is it the type of a byte? -/
def byteT (P : Program) (e : TypeId) : Bool := match P.underlying e with | some (.int .u8) => true | _ => false

/-- A new array of bytes bears its type. -/
def tagAp (P : Program) (t : TypeId) (x : AV) (h : Heap) (v : AV) (h' : Heap) : Heap :=
  match elemT P t, v with
  | some e, .sl b _ _ _ _ => if byteT P e then (match x with
    | .nils => h'.tag b (e, false)
    | .sl b0 _ _ _ _ => (match h.ty b0 with
      | some (e0, _) => if e0 = e then h'.tag b (e, false) else h'
      | none => h')
    | _ => h') else h'
  | _, _ => h'

/-- The type that a pointer type points to. -/
def ptrT (P : Program) (t : TypeId) : Option TypeId := match P.underlying t with | some (.pointer e) => some e | _ => none

/-- unsafe.SliceData -/
def sldA : AV → Option AV
  | .nils => some .nilp
  | .sl b o _ c _ => if c = 0 then none else some (.ptr b o)
  | _ => none

/-- unsafe.String: the bytes may not be written any more. -/
def ustrA (P : Program) (t : TypeId) (p n : AV) (h : Heap) : Option (AV × Heap) :=
  match p, n with
  | .nilp, .int _ n => if n = 0 then some (.str [], h) else none
  | .ptr b o, .int _ n =>
    if n = 0 then some (.str [], h) else
    if n < 0 ∨ 9223372036854775807 < n then none else
    match h.get b, h.ty b, ptrT P t with
    | some (.cells cs true), some (e, _), some u =>
      if e = u ∧ sizeT P e = some 1 ∧ o + n.toNat ≤ cs.length then
        match bytesOfA ((cs.drop o).take n.toNat) with
        | some s => some (.str s, h.set b (.cells cs false))
        | none => none
      else none
    | _, _, _ => none
  | _, _ => none

/-- What looks at more than one block's cells, or draws. -/
def lookA' (P : Program) (ev : Operand → AV) (o : Oper) (h : Heap) : Option (AV × Heap) :=
  match o.op with
  | .convert s d x =>
    match P.underlying s, P.underlying d, ev x with
    | some (.pointer t), some .unsafePointer, .ptr b o =>
      (match h.get b with
      | some (.cells cs _) => if o < cs.length ∧ (sizeT P t).isSome ∧ sizeT P t ≠ some 0 then some (.ptr b o, h) else none
      | _ => none)
    | some .unsafePointer, some (.pointer u), .ptr b 0 =>
      (match h.get b, h.ty b, sizeT P u with
      | some (.cells cs _), some (e, true), some (s + 1) => if e = u ∧ s + 1 ≤ cs.length then some (.ptr b 0, h) else none
      | _, _, _ => none)
    | some .string, some (.slice e), .str s => if byteT P e then some (.sl h.n 0 s.length s.length 1, h.push (.cells (s.map fun b => .int .u8 b.toNat) false)) else none
    | _, _, _ => none
  | _ => none

/-- Types whose variables bear their type. -/
def bldT (P : Program) (t : TypeId) : Bool := match P.info? t with | some i => i.str == "strings.Builder" | none => false
def tagOf (P : Program) (o : Op) : Option TypeId :=
  match o with
  | .alloc t => if bldT P t then some t else none
  | _ => none
def Heap.tagO (h : Heap) (b : Nat) : Option TypeId → Heap
  | some t => h.tag b (t, true)
  | none => h

/-- The operations that change memory, come to one end, and are no call of a function. -/
def effA (P : Program) (ev : Operand → AV) (o : Oper) (h : Heap) : Option (AV × Heap) :=
  match o.op with
  | .store t a x => (storeA P t (ev a) (ev x) h).map (AV.un, ·)
  | .mapUpdate t m k x | .insert t m k x => (updA P t (ev m) (ev k) (ev x) h).map (AV.un, ·)
  | .mapEntry t m k => entryA P t (ev m) (ev k) h
  | .entryStore _ m s x => (entryStoreA (ev m) (ev s) (ev x) h).map (AV.un, ·)
  | .range t x => rangeA P t (ev x) h
  | .call c =>
    match c.callee, c.argTypes.toList, c.args.toList.map ev with
    | .builtin .append, t :: u :: _, x :: y :: _ => (match P.underlying u with | some (.int _) | none => none | some _ => (appendA P t x y h).map fun r => (r.1, tagAp P t x h r.1 r.2))
    | .builtin .unsafeSliceData, _, x :: [] => (sldA x).map (·, h)
    | .builtin .unsafeString, t :: _, x :: y :: [] => ustrA P t x y h
    | .builtin .copy, t :: _, x :: y :: _ => copyA P t x y h
    | .builtin .clear, t :: _, x :: _ => clearA P t x h
    | .builtin .delete, t :: _, x :: y :: _ => delA P t x y h
    | _, _, _ => none
  | _ => none

end Go.Am

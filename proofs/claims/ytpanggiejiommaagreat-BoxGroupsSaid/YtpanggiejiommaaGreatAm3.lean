/- The abstract machine, part 3: how its values and its memory stand to the model's. Plain lemmas. -/
import Derived.Test.YtpanggiejiommaaGreatAm2
import Derived.Laws.AppendOwn
import Derived.Laws.MakeOwn
import Derived.Laws.Slices
import Derived.Laws.StructEq
import Derived.Laws.Build
namespace Go.Am
set_option autoImplicit false
set_option linter.all false

/-- Where the blocks of the abstract machine lie in the model's memory: in which block, how far from its head; and how many cells the model's blocks have. -/
structure Ren where
  m : Nat → Option (Nat × Nat)
  sz : Nat → Nat
instance : CoeFun Ren (fun _ => Nat → Option (Nat × Nat)) := ⟨Ren.m⟩
def Ren.no : Ren := ⟨fun _ => none, fun _ => 0⟩

inductive FR (ρ : Ren) : Fn → Fn → Prop
  | func (f : FuncId) : FR ρ (.func f) (.func f)
  | yield (l cl : Nat) (h : ρ l = some (cl, 0)) : FR ρ (.yield l) (.yield cl)

mutual
inductive VR (ρ : Ren) : AV → Value → Prop
  | junk (v : Value) : VR ρ .junk v
  | int (k : IntKind) (n : Int) : VR ρ (.int k n) (.int k n)
  | bool (b : Bool) : VR ρ (.bool b) (.bool b)
  | str (s : ByteArray) : VR ρ (.str s.data.toList) (.string s)
  | ptr (b o cb d : Nat) (h : ρ b = some (cb, d)) : VR ρ (.ptr b o) (.pointer (some ⟨cb, o + d, none⟩))
  | nilp : VR ρ .nilp (.pointer none)
  | sl (b o n c x : Nat) (cb d c' : Nat) (h : ρ b = some (cb, d)) (hn : n ≤ c) (hc : c ≤ c') (hx : x = 0 → c = c') (hk : x ≠ 0 → o + d + c' * x ≤ ρ.sz cb) : VR ρ (.sl b o n c x) (.slice (some ⟨cb, o + d, none⟩) n c')
  | sl0 (b o x : Nat) (a : Addr) : VR ρ (.sl b o 0 0 x) (.slice (some a) 0 0)
  | nils : VR ρ .nils (.slice none 0 0)
  | map (b cb d : Nat) (h : ρ b = some (cb, d)) : VR ρ (.map b) (.map (some cb))
  | nilm : VR ρ .nilm (.map none)
  | fn (f f' : Fn) (fs cs : List AV) (vs ws : Array Value) (hf : FR ρ f f') (h1 : VRL ρ fs vs.toList) (h2 : VRL ρ cs ws.toList) : VR ρ (.fn f fs cs) (.func f' vs ws)
  | nilf : VR ρ .nilf .nilFunc
  | iface (t : Nat) (a : AV) (v : Value) (h : VR ρ a v) : VR ρ (.iface t a) (.iface t v)
  | nili : VR ρ .nili .nilIface
  | agg (cs : List AV) (vs : Array Value) (h : VRL ρ cs vs.toList) : VR ρ (.agg cs) (.agg vs)
  | tup (cs : List AV) (vs : Array Value) (h : VRL ρ cs vs.toList) : VR ρ (.tup cs) (.tuple vs)
inductive VRL (ρ : Ren) : List AV → List Value → Prop
  | nil : VRL ρ [] []
  | cons (a : AV) (v : Value) (as : List AV) (vs : List Value) (h : VR ρ a v) (t : VRL ρ as vs) : VRL ρ (a :: as) (v :: vs)
end

structure Sub (ρ ρ' : Ren) : Prop where
  m : ∀ b x, ρ b = some x → ρ' b = some x
  sz : ∀ b cb d, ρ b = some (cb, d) → ρ'.sz cb = ρ.sz cb
theorem Sub.refl (ρ : Ren) : Sub ρ ρ := ⟨fun _ _ h => h, fun _ _ _ _ => rfl⟩
theorem Sub.trans {ρ ρ' ρ'' : Ren} (h : Sub ρ ρ') (h' : Sub ρ' ρ'') : Sub ρ ρ'' := ⟨fun b x hb => h'.m b x (h.m b x hb), fun b cb d hb => (h'.sz b cb d (h.m b _ hb)).trans (h.sz b cb d hb)⟩

theorem FR.mono {ρ ρ' : Ren} (hs : Sub ρ ρ') {f f' : Fn} (h : FR ρ f f') : FR ρ' f f' := by
  cases h with
  | func f => exact .func f
  | yield l cl h => exact .yield l cl (hs.m _ _ h)

mutual
theorem VR.mono {ρ ρ' : Ren} (hs : Sub ρ ρ') : ∀ {a : AV} {v : Value}, VR ρ a v → VR ρ' a v
  | _, _, .junk v => .junk v
  | _, _, .int k n => .int k n
  | _, _, .bool b => .bool b
  | _, _, .str s => .str s
  | _, _, .ptr b o cb d h => .ptr b o cb d (hs.m _ _ h)
  | _, _, .nilp => .nilp
  | _, _, .sl b o n c x cb d c' h hn hc hx hk => .sl b o n c x cb d c' (hs.m _ _ h) hn hc hx (fun h0 => by rw [hs.sz b cb d h]; exact hk h0)
  | _, _, .sl0 b o x a => .sl0 b o x a
  | _, _, .nils => .nils
  | _, _, .map b cb d h => .map b cb d (hs.m _ _ h)
  | _, _, .nilm => .nilm
  | _, _, .fn f f' fs cs vs ws hf h1 h2 => .fn f f' fs cs vs ws (hf.mono hs) (VRL.mono hs h1) (VRL.mono hs h2)
  | _, _, .nilf => .nilf
  | _, _, .iface t a v h => .iface t a v (VR.mono hs h)
  | _, _, .nili => .nili
  | _, _, .agg cs vs h => .agg cs vs (VRL.mono hs h)
  | _, _, .tup cs vs h => .tup cs vs (VRL.mono hs h)
theorem VRL.mono {ρ ρ' : Ren} (hs : Sub ρ ρ') : ∀ {as : List AV} {vs : List Value}, VRL ρ as vs → VRL ρ' as vs
  | _, _, .nil => .nil
  | _, _, .cons a v as vs h t => .cons a v as vs (VR.mono hs h) (VRL.mono hs t)
end

section lists
variable {ρ : Ren}

theorem VRL.length {as : List AV} {vs : List Value} (h : VRL ρ as vs) : as.length = vs.length := by
  induction as generalizing vs with
  | nil => cases h; rfl
  | cons a as ih => cases h with | cons _ v _ vs h t => simp [ih t]

theorem VRL.get {as : List AV} {vs : List Value} (h : VRL ρ as vs) {i : Nat} {a : AV} (ha : as[i]? = some a) : ∃ v, vs[i]? = some v ∧ VR ρ a v := by
  induction as generalizing vs i with
  | nil => simp at ha
  | cons x as ih =>
    cases h with
    | cons _ v _ vs h t =>
      cases i with
      | zero => simp at ha; subst ha; exact ⟨v, rfl, h⟩
      | succ i => simpa using ih t (by simpa using ha)

theorem VRL.of_get {as : List AV} {vs : List Value} (hl : as.length = vs.length) (h : ∀ (i : Nat) (a : AV) (v : Value), as[i]? = some a → vs[i]? = some v → VR ρ a v) : VRL ρ as vs := by
  induction as generalizing vs with
  | nil => cases vs with | nil => exact .nil | cons v vs => simp at hl
  | cons a as ih =>
    cases vs with
    | nil => simp at hl
    | cons v vs => exact .cons a v as vs (h 0 a v rfl rfl) (ih (by simpa using hl) fun i a v h1 h2 => h (i + 1) a v (by simpa using h1) (by simpa using h2))

theorem VRL.append {as bs : List AV} {vs ws : List Value} (h : VRL ρ as vs) (h' : VRL ρ bs ws) : VRL ρ (as ++ bs) (vs ++ ws) := by
  induction as generalizing vs with
  | nil => cases h; exact h'
  | cons a as ih => cases h with | cons _ v _ vs h t => exact .cons a v _ _ h (ih t)

theorem VRL.drop {as : List AV} {vs : List Value} (h : VRL ρ as vs) (n : Nat) : VRL ρ (as.drop n) (vs.drop n) := by
  induction n generalizing as vs with
  | zero => simpa using h
  | succ n ih => cases h with
    | nil => simpa using VRL.nil
    | cons _ _ _ _ h t => simpa using ih t

theorem VRL.take {as : List AV} {vs : List Value} (h : VRL ρ as vs) (n : Nat) : VRL ρ (as.take n) (vs.take n) := by
  induction n generalizing as vs with
  | zero => simpa using VRL.nil
  | succ n ih => cases h with
    | nil => simpa using VRL.nil
    | cons a v _ _ h t => simpa using .cons a v _ _ h (ih t)

theorem VRL.set {as : List AV} {vs : List Value} (h : VRL ρ as vs) (i : Nat) {a : AV} {v : Value} (hv : VR ρ a v) : VRL ρ (as.set i a) (vs.set i v) := by
  induction as generalizing vs i with
  | nil => cases h; simpa using VRL.nil
  | cons x as ih => cases h with
    | cons _ y _ ys h t => cases i with
      | zero => exact .cons a v as ys hv t
      | succ i => exact .cons x y _ _ h (ih t i)

theorem VRL.replicate (n : Nat) {a : AV} {v : Value} (h : VR ρ a v) : VRL ρ (List.replicate n a) (List.replicate n v) := by
  induction n with
  | zero => exact .nil
  | succ n ih => exact .cons a v _ _ h ih

theorem VRL.map {α : Type} (l : List α) (f : α → AV) (g : α → Value) (h : ∀ x ∈ l, VR ρ (f x) (g x)) : VRL ρ (l.map f) (l.map g) := by
  induction l with
  | nil => exact .nil
  | cons x l ih => exact .cons _ _ _ _ (h x (by simp)) (ih fun y hy => h y (by simp [hy]))

theorem VR.un : VR ρ .un undef := .tup [] #[] .nil

/-- The cells of related values are related, and as many. -/
theorem VR.cells {a : AV} {v : Value} (h : VR ρ a v) (h1 : a.cells.all AV.one = true) : VRL ρ a.cells v.cells.toList := by
  cases h <;> first | (simp [AV.cells, AV.one] at h1; done) | exact .cons _ _ _ _ (by constructor <;> assumption) .nil | assumption | skip

theorem VR.one {a : AV} {v : Value} (h : VR ρ a v) (h1 : a.one = true) : v.oneCell' = true := by
  cases h <;> first | rfl | (simp [AV.one] at h1)

theorem ofV_rel : ∀ (d : Nat) (v : Value), VR ρ (ofV d v) v := by
  intro d
  induction d with
  | zero =>
    intro v
    cases v with
    | int k n => exact .int k n
    | bool b => exact .bool b
    | string s => exact .str s
    | pointer a => cases a <;> first | exact .nilp | exact .junk _
    | slice a n c => cases a with
      | none => cases n <;> cases c <;> first | exact .nils | exact .junk _
      | some a => exact .junk _
    | map r => cases r <;> first | exact .nilm | exact .junk _
    | nilFunc => exact .nilf
    | nilIface => exact .nili
    | _ => exact .junk _
  | succ d ih =>
    intro v
    cases v with
    | int k n => exact .int k n
    | bool b => exact .bool b
    | string s => exact .str s
    | pointer a => cases a <;> first | exact .nilp | exact .junk _
    | slice a n c => cases a with
      | none => cases n <;> cases c <;> first | exact .nils | exact .junk _
      | some a => exact .junk _
    | map r => cases r <;> first | exact .nilm | exact .junk _
    | nilFunc => exact .nilf
    | nilIface => exact .nili
    | agg cs =>
      refine .agg _ _ ?_
      have := VRL.map (ρ := ρ) cs.toList (ofV d) id (fun x _ => ih x)
      simpa using this
    | tuple cs =>
      refine .tup _ _ ?_
      have := VRL.map (ρ := ρ) cs.toList (ofV d) id (fun x _ => ih x)
      simpa using this
    | _ => exact .junk _

end lists

/-! ### The tree -/

section tree
variable {α : Type}
theorem Tr.get_setF (f : Nat) : ∀ (t : Tr α) (n m : Nat) (x : α), n < f → (Tr.setF f t n x).get m = if m = n then some x else t.get m := by
  induction f with
  | zero => intro t n m x h; omega
  | succ f ih =>
    intro t n m x h
    cases t with
    | nil =>
      simp only [Tr.setF]
      by_cases h0 : n = 0
      · subst h0; simp only [if_true, Tr.get]; split <;> rename_i hm <;> simp [hm, Tr.get]
      · simp only [if_neg h0]
        by_cases ho : n % 2 = 1
        · simp only [if_pos ho, Tr.get]
          by_cases hm0 : m = 0
          · rw [if_pos hm0, if_neg (by omega)]
          · rw [if_neg hm0]
            by_cases hmo : m % 2 = 1
            · rw [if_pos hmo, ih _ _ _ _ (by omega)]
              by_cases hmn : m = n
              · subst hmn; simp
              · rw [if_neg (by omega), if_neg hmn]; rfl
            · rw [if_neg hmo, if_neg (by omega)]
        · simp only [if_neg ho, Tr.get]
          by_cases hm0 : m = 0
          · rw [if_pos hm0, if_neg (by omega)]
          · rw [if_neg hm0]
            by_cases hmo : m % 2 = 1
            · rw [if_pos hmo, if_neg (by omega)]
            · rw [if_neg hmo, ih _ _ _ _ (by omega)]
              by_cases hmn : m = n
              · subst hmn; simp
              · rw [if_neg (by omega), if_neg hmn]; rfl
    | node l v r =>
      simp only [Tr.setF]
      by_cases h0 : n = 0
      · subst h0; simp only [if_true, Tr.get]; split <;> rename_i hm <;> simp
      · simp only [if_neg h0]
        by_cases ho : n % 2 = 1
        · simp only [if_pos ho, Tr.get]
          by_cases hm0 : m = 0
          · rw [if_pos hm0, if_neg (by omega), if_pos hm0]
          · rw [if_neg hm0, if_neg hm0]
            by_cases hmo : m % 2 = 1
            · rw [if_pos hmo, if_pos hmo, ih _ _ _ _ (by omega)]
              by_cases hmn : m = n
              · subst hmn; simp
              · rw [if_neg (by omega), if_neg hmn]
            · rw [if_neg hmo, if_neg hmo, if_neg (by omega)]
        · simp only [if_neg ho, Tr.get]
          by_cases hm0 : m = 0
          · rw [if_pos hm0, if_neg (by omega), if_pos hm0]
          · rw [if_neg hm0, if_neg hm0]
            by_cases hmo : m % 2 = 1
            · rw [if_pos hmo, if_pos hmo, if_neg (by omega)]
            · rw [if_neg hmo, if_neg hmo, ih _ _ _ _ (by omega)]
              by_cases hmn : m = n
              · subst hmn; simp
              · rw [if_neg (by omega), if_neg hmn]
theorem Tr.get_set (t : Tr α) (n m : Nat) (x : α) : (t.set n x).get m = if m = n then some x else t.get m := Tr.get_setF _ _ _ _ _ (by omega)
end tree

theorem Heap.get_set (h : Heap) (b c : Nat) (o : AObj) : (h.set b o).get c = if c = b then some o else h.get c := Tr.get_set _ _ _ _
theorem Heap.get_push (h : Heap) (c : Nat) (o : AObj) : (h.push o).get c = if c = h.n then some o else h.get c := Tr.get_set _ _ _ _
@[simp] theorem Heap.n_set (h : Heap) (b : Nat) (o : AObj) : (h.set b o).n = h.n := rfl
@[simp] theorem Heap.n_push (h : Heap) (o : AObj) : (h.push o).n = h.n + 1 := rfl
@[simp] theorem Heap.ty_set (h : Heap) (b c : Nat) (o : AObj) : (h.set b o).ty c = h.ty c := rfl
@[simp] theorem Heap.ty_push (h : Heap) (c : Nat) (o : AObj) : (h.push o).ty c = h.ty c := rfl
@[simp] theorem Heap.get_tag (h : Heap) (b c : Nat) (x : TypeId × Bool) : (h.tag b x).get c = h.get c := rfl
@[simp] theorem Heap.tag_n (h : Heap) (b : Nat) (x : TypeId × Bool) : (h.tag b x).n = h.n := rfl
theorem Heap.ty_tag (h : Heap) (b c : Nat) (x : TypeId × Bool) : (h.tag b x).ty c = if c = b then some x else h.ty c := Tr.get_set _ _ _ _
@[simp] theorem Heap.get_tagO (h : Heap) (b c : Nat) (x : Option TypeId) : (h.tagO b x).get c = h.get c := by cases x <;> rfl
@[simp] theorem Heap.tagO_n (h : Heap) (b : Nat) (x : Option TypeId) : (h.tagO b x).n = h.n := by cases x <;> rfl
theorem Heap.get_set_same (h : Heap) (b : Nat) (o : AObj) : (h.set b o).get b = some o := by rw [Heap.get_set, if_pos rfl]
theorem Heap.get_set_ne (h : Heap) {b c : Nat} (o : AObj) (hn : c ≠ b) : (h.set b o).get c = h.get c := by rw [Heap.get_set, if_neg hn]
theorem Heap.get_push_new (h : Heap) (o : AObj) : (h.push o).get h.n = some o := by rw [Heap.get_push, if_pos rfl]
theorem Heap.get_push_old (h : Heap) {c : Nat} (o : AObj) (hn : c ≠ h.n) : (h.push o).get c = h.get c := by rw [Heap.get_push, if_neg hn]

/-! ### Objects and memory -/

structure ER (ρ : Ren) (e : AEntry) (e' : MapEntry) : Prop where
  key : VR ρ e.key e'.key
  val : VR ρ e.val e'.val
  born : e.born = e'.born
inductive ERL (ρ : Ren) : List AEntry → List MapEntry → Prop
  | nil : ERL ρ [] []
  | cons (e : AEntry) (e' : MapEntry) (es : List AEntry) (es' : List MapEntry) (h : ER ρ e e') (t : ERL ρ es es') : ERL ρ (e :: es) (e' :: es')

/-- The model's object and the abstract one; 'd' is how far the abstract one's first cell lies in it; it has N cells. -/
def OR (ρ : Ren) (N : Nat) (x : Option Obj) (d : Nat) : AObj → Prop
  | .cells cs rw => ∃ c e fz, x = some (.cells c e fz) ∧ (c.size = N ∧ d + cs.length ≤ N) ∧ (∀ i v, cs[i]? = some v → ∃ v', c[d + i]? = some v' ∧ VR ρ v v' ∧ v.one = true) ∧
      (rw = true → fz = (0, 0))
  | .map es clock => ∃ es' : Array MapEntry, x = some (.map es' clock) ∧ ERL ρ es es'.toList
  | .siter s pos => ∃ ba : ByteArray, x = some (.stringIter ba pos) ∧ ba.data.toList = s ∧ d = 0
  | .miter m since seen last => ∃ m' seen', x = some (.mapIter m' since seen' last) ∧ seen'.toList = seen ∧ d = 0 ∧
      (match m, m' with | none, none => True | some b, some cb => ∃ d', ρ b = some (cb, d') | _, _ => False)
  | .loop st pend tmps ps as bd df => ∃ L : Loop, x = some (.loop L) ∧ L.state = st ∧ L.pending = pend ∧ VRL ρ tmps L.tmps.toList ∧ L.params = ps ∧ L.assign = as ∧ L.body = bd ∧
      (∃ d', ρ df = some (L.defers, d')) ∧ d = 0
  | .dfr => x = some (.deferred (some [])) ∧ d = 0
  | .gone => True

theorem ER.mono {ρ ρ' : Ren} (hs : Sub ρ ρ') {e : AEntry} {e' : MapEntry} (h : ER ρ e e') : ER ρ' e e' := ⟨h.key.mono hs, h.val.mono hs, h.born⟩
theorem ERL.mono {ρ ρ' : Ren} (hs : Sub ρ ρ') {es : List AEntry} {es' : List MapEntry} (h : ERL ρ es es') : ERL ρ' es es' := by
  induction h with
  | nil => exact .nil
  | cons e e' es es' h _ ih => exact .cons e e' es es' (h.mono hs) ih

theorem OR.mono {ρ ρ' : Ren} (hs : Sub ρ ρ') {N : Nat} {x : Option Obj} {d : Nat} {o : AObj} (h : OR ρ N x d o) : OR ρ' N x d o := by
  cases o with
  | cells cs rw =>
    obtain ⟨c, e, fz, h1, h0, h2, h3⟩ := h
    exact ⟨c, e, fz, h1, h0, fun i v hv => let ⟨v', a, b, c⟩ := h2 i v hv; ⟨v', a, b.mono hs, c⟩, h3⟩
  | map es clock => obtain ⟨es', h1, h2⟩ := h; exact ⟨es', h1, h2.mono hs⟩
  | siter s pos => exact h
  | miter m since seen last =>
    obtain ⟨m', seen', h1, h2, h3, h4⟩ := h
    refine ⟨m', seen', h1, h2, h3, ?_⟩
    cases m <;> cases m' <;> simp only at h4 ⊢
    obtain ⟨d', h4⟩ := h4
    exact ⟨d', hs.m _ _ h4⟩
  | loop st pend tmps ps as bd df =>
    obtain ⟨L, h1, h2, h3, h4, h5, h6, h7, ⟨d', h8⟩, h9⟩ := h
    exact ⟨L, h1, h2, h3, h4.mono hs, h5, h6, h7, ⟨d', hs.m _ _ h8⟩, h9⟩
  | dfr => exact h
  | gone => trivial

theorem OR.some {ρ : Ren} {N : Nat} {x : Option Obj} {d : Nat} {o : AObj} (h : OR ρ N x d o) (hl : o.live = true) : ∃ y, x = Option.some y := by
  cases o with
  | cells cs rw => obtain ⟨c, e, fz, h1, _⟩ := h; exact ⟨_, h1⟩
  | map es clock => obtain ⟨es', h1, _⟩ := h; exact ⟨_, h1⟩
  | siter s pos => obtain ⟨ba, h1, _⟩ := h; exact ⟨_, h1⟩
  | miter m since seen last => obtain ⟨m', seen', h1, _⟩ := h; exact ⟨_, h1⟩
  | loop st pend tmps ps as bd df => obtain ⟨L, h1, _⟩ := h; exact ⟨_, h1⟩
  | dfr => exact ⟨_, h.1⟩
  | gone => cases hl

structure HR (G : Nat) (K : Nat → Prop) (w0 : World) (ρ : Ren) (h : Heap) (w : World) : Prop where
  os : w.os = w0.os
  tape : w.tape = w0.tape
  output : w.output = w0.output
  keep : ∀ i, K i → i < w.heap.size ∧ w.heap[i]? = w0.heap[i]?
  top : ∀ b, h.n ≤ b → h.get b = none ∧ ρ b = none
  gn : G ≤ h.n
  glob : ∀ g, g < G → ρ g = some (g, 0)
  obj : ∀ b o cb d, h.get b = some o → ρ b = some (cb, d) → OR ρ (ρ.sz cb) (w.heap[cb]?) d o
  rng : ∀ b cb d, ρ b = some (cb, d) → cb < w.heap.size
  own : ∀ b o cb d, h.get b = some o → o.rw = true → ρ b = some (cb, d) → ¬ K cb ∧ ∀ b' o' d', h.get b' = some o' → o'.live = true → ρ b' = some (cb, d') → b' = b
  typ : ∀ b e q, h.ty b = some (e, q) → ∃ cb d c fz, ρ b = some (cb, d) ∧ w.heap[cb]? = some (.cells c e fz) ∧ (q = true → d = 0)

theorem AObj.live_of_rw {o : AObj} (h : o.rw = true) : o.live = true := by cases o <;> first | rfl | cases h

/-- One more block, of N cells. -/
def Ren.put (ρ : Ren) (b : Nat) (x : Nat × Nat) (N : Nat) : Ren := ⟨fun c => if c = b then some x else ρ c, fun c => if c = x.1 then N else ρ.sz c⟩

theorem Ren.sub_put {ρ : Ren} {b : Nat} {x : Nat × Nat} {N : Nat} (h : ρ b = none) (hN : ∀ c d, ρ c = some (x.1, d) → ρ.sz x.1 = N) : Sub ρ (ρ.put b x N) := by
  refine ⟨fun c y hc => ?_, fun c cb d hc => ?_⟩
  · show (if c = b then some x else ρ c) = some y
    by_cases hcb : c = b
    · subst hcb; rw [h] at hc; cases hc
    · rw [if_neg hcb]; exact hc
  · show (if cb = x.1 then N else ρ.sz cb) = ρ.sz cb
    by_cases hcx : cb = x.1
    · rw [if_pos hcx, hcx]; exact (hN c d (hcx ▸ hc)).symm
    · rw [if_neg hcx]
theorem Ren.put_same (ρ : Ren) (b : Nat) (x : Nat × Nat) (N : Nat) : ρ.put b x N b = some x := by show (if b = b then some x else ρ b) = some x; simp
theorem Ren.put_ne (ρ : Ren) {b c : Nat} (x : Nat × Nat) (N : Nat) (h : c ≠ b) : ρ.put b x N c = ρ c := by show (if c = b then some x else ρ c) = ρ c; simp [h]
theorem Ren.put_sz (ρ : Ren) (b : Nat) (x : Nat × Nat) (N : Nat) : (ρ.put b x N).sz x.1 = N := by show (if x.1 = x.1 then N else ρ.sz x.1) = N; simp
theorem Ren.put_sz_ne (ρ : Ren) (b : Nat) (x : Nat × Nat) (N : Nat) {c : Nat} (h : c ≠ x.1) : (ρ.put b x N).sz c = ρ.sz c := by show (if c = x.1 then N else ρ.sz c) = ρ.sz c; simp [h]

section
variable {G : Nat} {K : Nat → Prop} {w0 : World} {ρ : Ren} {h : Heap} {w : World}

theorem HR.lt (H : HR G K w0 ρ h w) {b : Nat} {o : AObj} (hb : h.get b = some o) : b < h.n := by
  rcases Nat.lt_or_ge b h.n with hl | hl
  · exact hl
  · rw [(H.top b hl).1] at hb; cases hb

theorem HR.clt (H : HR G K w0 ρ h w) {b cb d : Nat} {o : AObj} (hb : h.get b = some o) (hl : o.live = true) (hρ : ρ b = some (cb, d)) : cb < w.heap.size := by
  obtain ⟨y, hy⟩ := (H.obj b o cb d hb hρ).some hl
  rcases Nat.lt_or_ge cb w.heap.size with hlt | hge
  · exact hlt
  · rw [Array.getElem?_eq_none hge] at hy; cases hy

/-- The abstract machine makes a block; the model has made one, or it lies in one that nobody else owns. -/
theorem HR.push (H : HR G K w0 ρ h w) {w' : World} (o : AObj) (cb d N : Nat)
    (e1 : w'.os = w.os) (e2 : w'.tape = w.tape) (e3 : w'.output = w.output) (hsz : w.heap.size ≤ w'.heap.size)
    (hold : ∀ i, i < w.heap.size → w'.heap[i]? = w.heap[i]?) (hcb : w.heap.size ≤ cb) (hcb' : cb < w'.heap.size)
    (hor : OR (ρ.put h.n (cb, d) N) N (w'.heap[cb]?) d o) : HR G K w0 (ρ.put h.n (cb, d) N) (h.push o) w' := by
  have hnew : ρ h.n = none := (H.top h.n (Nat.le_refl _)).2
  have hG := H.gn
  have hsub : Sub ρ (ρ.put h.n (cb, d) N) := Ren.sub_put hnew fun c d' hc => by have := H.rng c _ d' hc; dsimp only at this; omega
  refine ⟨e1.trans H.os, e2.trans H.tape, e3.trans H.output, fun i hi => ?_, fun b hb => ?_, by rw [Heap.n_push]; omega, fun g hg => ?_, fun b x cb' d' hb hρ => ?_, fun b cb' d' hρ => ?_, fun b x cb' d' hb hrw hρ => ?_, fun b e q hb => ?_⟩
  rotate_right
  · obtain ⟨cb', d', c, fz, t1, t2, t3⟩ := H.typ b e q hb
    refine ⟨cb', d', c, fz, hsub.m _ _ t1, ?_, t3⟩
    rw [hold cb' (H.rng b cb' d' t1)]; exact t2
  · obtain ⟨k1, k2⟩ := H.keep i hi
    exact ⟨Nat.lt_of_lt_of_le k1 hsz, (hold i k1).trans k2⟩
  · rw [Heap.n_push] at hb
    rw [Heap.get_push_old _ _ (by omega), Ren.put_ne _ _ _ (by omega)]
    exact H.top b (by omega)
  · rw [Ren.put_ne _ _ _ (by omega)]; exact H.glob g hg
  · by_cases hbn : b = h.n
    · subst hbn
      rw [Heap.get_push_new] at hb
      rw [Ren.put_same] at hρ
      cases hb; cases hρ
      rw [Ren.put_sz]
      exact hor
    · rw [Heap.get_push_old _ _ hbn] at hb
      rw [Ren.put_ne _ _ _ hbn] at hρ
      have := H.obj b x cb' d' hb hρ
      rw [hsub.sz b cb' d' hρ, hold cb' (H.rng b cb' d' hρ)]
      exact this.mono hsub
  · by_cases hbn : b = h.n
    · subst hbn; rw [Ren.put_same] at hρ; cases hρ; exact hcb'
    · rw [Ren.put_ne _ _ _ hbn] at hρ; have := H.rng b cb' d' hρ; omega
  · by_cases hbn : b = h.n
    · subst hbn
      rw [Heap.get_push_new] at hb
      rw [Ren.put_same] at hρ
      cases hb; cases hρ
      refine ⟨fun hk => ?_, fun b' o' d'' hb' hl' hρ' => ?_⟩
      · have := (H.keep _ hk).1; omega
      · by_cases hbn' : b' = h.n
        · exact hbn'
        · rw [Heap.get_push_old _ _ hbn'] at hb'
          rw [Ren.put_ne _ _ _ hbn'] at hρ'
          have := H.clt hb' hl' hρ'; omega
    · rw [Heap.get_push_old _ _ hbn] at hb
      rw [Ren.put_ne _ _ _ hbn] at hρ
      obtain ⟨k1, k2⟩ := H.own b x cb' d' hb hrw hρ
      refine ⟨k1, fun b' o' d'' hb' hl' hρ' => ?_⟩
      by_cases hbn' : b' = h.n
      · subst hbn'
        rw [Ren.put_same] at hρ'
        cases hρ'
        have := H.clt hb (AObj.live_of_rw hrw) hρ; omega
      · rw [Heap.get_push_old _ _ hbn'] at hb'
        rw [Ren.put_ne _ _ _ hbn'] at hρ'
        exact k2 b' o' d'' hb' hl' hρ'

/-- A block of one's own changes. -/
theorem HR.set (H : HR G K w0 ρ h w) {w' : World} {b cb d : Nat} {x : AObj} (o : AObj) (hb : h.get b = some x) (hrw : x.rw = true) (hρ : ρ b = some (cb, d))
    (e1 : w'.os = w.os) (e2 : w'.tape = w.tape) (e3 : w'.output = w.output) (hsz : w.heap.size ≤ w'.heap.size)
    (hold : ∀ i, i < w.heap.size → i ≠ cb → w'.heap[i]? = w.heap[i]?) (hor : OR ρ (ρ.sz cb) (w'.heap[cb]?) d o)
    (hty : ∀ c e fz, w.heap[cb]? = some (.cells c e fz) → ∃ c' fz', w'.heap[cb]? = some (.cells c' e fz')) : HR G K w0 ρ (h.set b o) w' := by
  obtain ⟨k1, k2⟩ := H.own b x cb d hb hrw hρ
  refine ⟨e1.trans H.os, e2.trans H.tape, e3.trans H.output, fun i hi => ?_, fun c hc => ?_, H.gn, H.glob, fun c y cb' d' hc hρ' => ?_, fun c cb' d' hρ' => Nat.lt_of_lt_of_le (H.rng c cb' d' hρ') hsz, fun c y cb' d' hc hrw' hρ' => ?_, fun c e q hc => ?_⟩
  rotate_right
  · obtain ⟨cb', d', c', fz, t1, t2, t3⟩ := H.typ c e q hc
    by_cases hcc : cb' = cb
    · subst hcc
      obtain ⟨c'', fz', t4⟩ := hty _ _ _ t2
      exact ⟨cb', d', c'', fz', t1, t4, t3⟩
    · exact ⟨cb', d', c', fz, t1, (hold cb' (H.rng c cb' d' t1) hcc).trans t2, t3⟩
  · obtain ⟨j1, j2⟩ := H.keep i hi
    exact ⟨Nat.lt_of_lt_of_le j1 hsz, (hold i j1 (fun he => k1 (he ▸ hi))).trans j2⟩
  · rw [Heap.n_set] at hc
    have := H.lt hb
    rw [Heap.get_set_ne _ _ (by omega)]
    exact H.top c hc
  · by_cases hcb : c = b
    · subst hcb
      rw [Heap.get_set_same] at hc
      rw [hρ] at hρ'
      cases hc; cases hρ'
      exact hor
    · rw [Heap.get_set_ne _ _ hcb] at hc
      have hor' := H.obj c y cb' d' hc hρ'
      cases hlv : y.live with
      | false => cases y <;> first | trivial | cases hlv
      | true =>
        have hne : cb' ≠ cb := fun he => hcb (k2 c y d' hc hlv (he ▸ hρ'))
        rw [hold cb' (H.clt hc hlv hρ') hne]; exact hor'
  · by_cases hcb : c = b
    · subst hcb
      rw [hρ] at hρ'
      cases hρ'
      refine ⟨k1, fun b' o' d'' hb' hl' hρ'' => ?_⟩
      by_cases hbc : b' = c
      · exact hbc
      · rw [Heap.get_set_ne _ _ hbc] at hb'
        exact k2 b' o' d'' hb' hl' hρ''
    · rw [Heap.get_set_ne _ _ hcb] at hc
      obtain ⟨j1, j2⟩ := H.own c y cb' d' hc hrw' hρ'
      refine ⟨j1, fun b' o' d'' hb' hl' hρ'' => ?_⟩
      by_cases hbc : b' = b
      · subst hbc
        exact j2 b' x d'' hb (AObj.live_of_rw hrw) hρ''
      · rw [Heap.get_set_ne _ _ hbc] at hb'
        exact j2 b' o' d'' hb' hl' hρ''

theorem HR.congr (H : HR G K w0 ρ h w) {h' : Heap} (hn : h'.n = h.n) (hg : ∀ b, h'.get b = h.get b) (hy : ∀ b, h'.ty b = h.ty b := by intro b; rfl) : HR G K w0 ρ h' w :=
  ⟨H.os, H.tape, H.output, H.keep, fun b hb => by rw [hg]; exact H.top b (hn ▸ hb), hn ▸ H.gn, H.glob, fun b o cb d hb hρ => H.obj b o cb d (hg b ▸ hb) hρ, H.rng,
    fun b o cb d hb hr hρ => let ⟨k1, k2⟩ := H.own b o cb d (hg b ▸ hb) hr hρ; ⟨k1, fun b' o' d' hb' => k2 b' o' d' (hg b' ▸ hb')⟩, fun b e q hb => H.typ b e q (hy b ▸ hb)⟩

/-- A block's type is told. -/
theorem HR.tag (H : HR G K w0 ρ h w) {b : Nat} {e : TypeId} {q : Bool} (hb : ∃ cb d c fz, ρ b = some (cb, d) ∧ w.heap[cb]? = some (.cells c e fz) ∧ (q = true → d = 0)) : HR G K w0 ρ (h.tag b (e, q)) w :=
  ⟨H.os, H.tape, H.output, H.keep, H.top, H.gn, H.glob, H.obj, H.rng, H.own, fun c e' q' hc => by
    rw [Heap.ty_tag] at hc
    split at hc
    · rename_i he; subst he; cases hc; exact hb
    · exact H.typ c e' q' hc⟩

theorem HR.set_self (H : HR G K w0 ρ h w) {b : Nat} {o : AObj} (hb : h.get b = some o) : HR G K w0 ρ (h.set b o) w :=
  H.congr rfl fun c => by
    by_cases hc : c = b
    · subst hc; rw [Heap.get_set_same, hb]
    · rw [Heap.get_set_ne _ _ hc]

/-- A block is given up. -/
theorem HR.kill (H : HR G K w0 ρ h w) {b : Nat} (hb : b < h.n) : HR G K w0 ρ (h.set b .gone) w := by
  refine ⟨H.os, H.tape, H.output, H.keep, fun c hc => ?_, H.gn, H.glob, fun c o cb d hc hρ => ?_, H.rng, fun c o cb d hc hr hρ => ?_, H.typ⟩
  · rw [Heap.n_set] at hc
    rw [Heap.get_set_ne _ _ (by omega)]; exact H.top c hc
  · by_cases hcb : c = b
    · subst hcb; rw [Heap.get_set_same] at hc; cases hc; trivial
    · rw [Heap.get_set_ne _ _ hcb] at hc; exact H.obj c o cb d hc hρ
  · by_cases hcb : c = b
    · subst hcb; rw [Heap.get_set_same] at hc; cases hc; cases hr
    · rw [Heap.get_set_ne _ _ hcb] at hc
      obtain ⟨k1, k2⟩ := H.own c o cb d hc hr hρ
      refine ⟨k1, fun b' o' d' hb' hl' hρ' => ?_⟩
      by_cases hbb : b' = b
      · subst hbb; rw [Heap.get_set_same] at hb'; cases hb'; cases hl'
      · rw [Heap.get_set_ne _ _ hbb] at hb'; exact k2 b' o' d' hb' hl' hρ'

/-- A draw. -/
theorem HR.drew (H : HR G K w0 ρ h w) : HR G K w0 ρ h w.drew := ⟨H.os, H.tape, H.output, H.keep, H.top, H.gn, H.glob, H.obj, H.rng, H.own, H.typ⟩

/-- A block's writer gives it up, and a new block lies where it lay. -/
theorem HR.move (H : HR G K w0 ρ h w) {w' : World} {b cb d d' : Nat} {x : AObj} (o : AObj) (hb : h.get b = some x) (hrw : x.rw = true) (hρ : ρ b = some (cb, d))
    (e1 : w'.os = w.os) (e2 : w'.tape = w.tape) (e3 : w'.output = w.output) (hsz : w.heap.size ≤ w'.heap.size)
    (hold : ∀ i, i < w.heap.size → i ≠ cb → w'.heap[i]? = w.heap[i]?) (hor : OR (ρ.put h.n (cb, d') (ρ.sz cb)) (ρ.sz cb) (w'.heap[cb]?) d' o)
    (hty : ∀ c e fz, w.heap[cb]? = some (.cells c e fz) → ∃ c' fz', w'.heap[cb]? = some (.cells c' e fz')) :
    HR G K w0 (ρ.put h.n (cb, d') (ρ.sz cb)) ((h.set b .gone).push o) w' := by
  obtain ⟨k1, k2⟩ := H.own b x cb d hb hrw hρ
  have hbn : b ≠ h.n := by have := H.lt hb; omega
  have hnew : ρ h.n = none := (H.top h.n (Nat.le_refl _)).2
  have n1 : (h.set b .gone).n = h.n := rfl
  have hG := H.gn
  have hsub : Sub ρ (ρ.put h.n (cb, d') (ρ.sz cb)) := Ren.sub_put hnew fun _ _ _ => rfl
  refine ⟨e1.trans H.os, e2.trans H.tape, e3.trans H.output, fun i hi => ?_, fun c hc => ?_, by rw [Heap.n_push, n1]; omega, fun g hg => ?_, fun c y cb' d'' hc hρ' => ?_, fun c cb' d'' hρ' => ?_, fun c y cb' d'' hc hrw' hρ' => ?_, fun c e q hc => ?_⟩
  rotate_right
  · obtain ⟨cb', d'', c', fz, t1, t2, t3⟩ := H.typ c e q hc
    by_cases hcc : cb' = cb
    · subst hcc
      obtain ⟨c'', fz', t4⟩ := hty _ _ _ t2
      exact ⟨cb', d'', c'', fz', hsub.m _ _ t1, t4, t3⟩
    · exact ⟨cb', d'', c', fz, hsub.m _ _ t1, (hold cb' (H.rng c cb' d'' t1) hcc).trans t2, t3⟩
  · obtain ⟨j1, j2⟩ := H.keep i hi
    exact ⟨Nat.lt_of_lt_of_le j1 hsz, (hold i j1 (fun he => k1 (he ▸ hi))).trans j2⟩
  · rw [Heap.n_push, n1] at hc
    have := H.lt hb
    rw [Heap.get_push_old _ _ (by rw [n1]; omega), Heap.get_set_ne _ _ (by omega), Ren.put_ne _ _ _ (by omega)]
    exact H.top c (by omega)
  · rw [Ren.put_ne _ _ _ (by omega)]; exact H.glob g hg
  · by_cases hcn : c = h.n
    · subst hcn
      rw [← n1, Heap.get_push_new] at hc
      rw [Ren.put_same] at hρ'
      cases hc; cases hρ'
      rw [Ren.put_sz]
      exact hor
    · rw [Heap.get_push_old _ _ (by rw [n1]; exact hcn)] at hc
      rw [Ren.put_ne _ _ _ hcn] at hρ'
      by_cases hcb : c = b
      · subst hcb
        rw [Heap.get_set_same] at hc
        cases hc; trivial
      · rw [Heap.get_set_ne _ _ hcb] at hc
        have hor' := H.obj c y cb' d'' hc hρ'
        cases hlv : y.live with
        | false => cases y <;> first | trivial | cases hlv
        | true =>
          have hne : cb' ≠ cb := fun he => hcb (k2 c y d'' hc hlv (he ▸ hρ'))
          rw [hsub.sz c cb' d'' hρ', hold cb' (H.rng c cb' d'' hρ') hne]; exact hor'.mono hsub
  · by_cases hcn : c = h.n
    · subst hcn; rw [Ren.put_same] at hρ'; cases hρ'; exact Nat.lt_of_lt_of_le (H.rng b cb d hρ) hsz
    · rw [Ren.put_ne _ _ _ hcn] at hρ'; exact Nat.lt_of_lt_of_le (H.rng c cb' d'' hρ') hsz
  · by_cases hcn : c = h.n
    · subst hcn
      rw [Ren.put_same] at hρ'
      cases hρ'
      refine ⟨k1, fun b' o' d3 hb' hl' hρ'' => ?_⟩
      by_cases hbn' : b' = h.n
      · exact hbn'
      · rw [Heap.get_push_old _ _ (by rw [n1]; exact hbn')] at hb'
        rw [Ren.put_ne _ _ _ hbn'] at hρ''
        by_cases hbb : b' = b
        · subst hbb; rw [Heap.get_set_same] at hb'; cases hb'; cases hl'
        · rw [Heap.get_set_ne _ _ hbb] at hb'
          exact absurd (k2 b' o' d3 hb' hl' hρ'') hbb
    · rw [Heap.get_push_old _ _ (by rw [n1]; exact hcn)] at hc
      rw [Ren.put_ne _ _ _ hcn] at hρ'
      by_cases hcb : c = b
      · subst hcb; rw [Heap.get_set_same] at hc; cases hc; cases hrw'
      · rw [Heap.get_set_ne _ _ hcb] at hc
        obtain ⟨j1, j2⟩ := H.own c y cb' d'' hc hrw' hρ'
        refine ⟨j1, fun b' o' d3 hb' hl' hρ'' => ?_⟩
        by_cases hbn' : b' = h.n
        · subst hbn'
          rw [Ren.put_same] at hρ''
          cases hρ''
          exact absurd (j2 b x d hb (AObj.live_of_rw hrw) hρ).symm hcb
        · rw [Heap.get_push_old _ _ (by rw [n1]; exact hbn')] at hb'
          rw [Ren.put_ne _ _ _ hbn'] at hρ''
          by_cases hbb : b' = b
          · subst hbb; rw [Heap.get_set_same] at hb'; cases hb'; cases hl'
          · rw [Heap.get_set_ne _ _ hbb] at hb'
            exact j2 b' o' d3 hb' hl' hρ''
/-- One goes on: the memory grows; what was there keeps its place. -/
structure Nx (ρ : Ren) (h : Heap) (ρ' : Ren) (h' : Heap) : Prop where
  sub : Sub ρ ρ'
  n : h.n ≤ h'.n
  old : ∀ b, b < h.n → ρ' b = ρ b
theorem Nx.same {ρ : Ren} {h h' : Heap} (hn : h.n ≤ h'.n) : Nx ρ h ρ h' := ⟨Sub.refl _, hn, fun _ _ => rfl⟩
theorem Nx.refl (ρ : Ren) (h : Heap) : Nx ρ h ρ h := .same (Nat.le_refl _)
theorem Nx.trans {ρ ρ' ρ'' : Ren} {h h' h'' : Heap} (x : Nx ρ h ρ' h') (y : Nx ρ' h' ρ'' h'') : Nx ρ h ρ'' h'' :=
  ⟨x.sub.trans y.sub, Nat.le_trans x.n y.n, fun b hb => (y.old b (Nat.lt_of_lt_of_le hb x.n)).trans (x.old b hb)⟩
theorem Nx.put {ρ : Ren} {h h' : Heap} {x : Nat × Nat} {N : Nat} (hs : Sub ρ (ρ.put h.n x N)) (hn : h.n ≤ h'.n) : Nx ρ h (ρ.put h.n x N) h' :=
  ⟨hs, hn, fun _ hb => Ren.put_ne _ _ _ (Nat.ne_of_lt hb)⟩

end

end Go.Am

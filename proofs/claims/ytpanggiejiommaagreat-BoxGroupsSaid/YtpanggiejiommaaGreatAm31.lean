/- The abstract machine, part 31: plain code run step by step: the code that is left, and what stands behind, are held fast by marks. -/
import Derived.Test.YtpanggiejiommaaGreatAm30
namespace Go.Am
set_option autoImplicit false
set_option linter.all false
open Go

section
variable {P : Program} {G : Nat} {ts : List AV} {a : AAct} {h : Heap} {k : AV → Heap → Prop} {ke : AExit → AAct → Heap → Prop} {ka : AAct → Heap → Prop} {kd : AV → Heap → List Foot → Prop} {fs : List Foot}

def RC (P : Program) (G : Nat) (c : CC) (ke : AExit → AAct → Heap → Prop) (_ : Fz (c, ke)) (a : AAct) (h : Heap) : Prop := runC P G c a h ke
def RO (P : Program) (G : Nat) (l : List COp) (ka : AAct → Heap → Prop) (_ : Fz (l, ka)) (a : AAct) (h : Heap) : Prop := runOps P G (SM P) l a h ka
def R1 (P : Program) (G : Nat) (o : CO) (k : AV → Heap → Prop) (_ : Fz (o, k)) (ts : List AV) (h : Heap) : Prop := runO P G (SM P) ts h k o
def RD (P : Program) (G : Nat) (l : List (Nat × Nat × COp)) (ka : AAct → Heap → Prop) (_ : Fz (l, ka)) (fs : List Foot) (a : AAct) (h : Heap) : Prop := runDraw P G (SM P) l fs a h ka
def D1 (P : Program) (G : Nat) (o : CO) (kd : AV → Heap → List Foot → Prop) (_ : Fz (o, kd)) (i m : Nat) (ts : List AV) (h : Heap) (fs : List Foot) : Prop := runDO P G (SM P) ts h fs i m kd o
def KF (b : Nat) (r : Prop) (_ : Fz r) (h h' : Heap) (fs : List Foot) : Prop := keptF DProp b h h' fs r

theorem RC_skip (m : Fz (CC.skip, ke)) : RC P G .skip ke m a h = ke .normal a h := _root_.id rfl
theorem RC_ops (l : List COp) (m : Fz (CC.ops l, ke)) : RC P G (.ops l) ke m a h = RO P G l (ke .normal) ⟨⟩ a h := _root_.id rfl
theorem RC_draw (l : List (Nat × Nat × COp)) (m : Fz (CC.draw l, ke)) : RC P G (.draw l) ke m a h = RD P G l (ke .normal) ⟨⟩ [] a h := _root_.id rfl
theorem RC_seq (x y : CC) (m : Fz (CC.seq x y, ke)) : RC P G (.seq x y) ke m a h = RC P G x (fun e a h => match e with
    | .normal => RC P G y ke ⟨⟩ a h
    | e => ke e a h) ⟨⟩ a h := _root_.id rfl
theorem RC_cond (c : CX) (x y : CC) (m : Fz (CC.cond c x y, ke)) : RC P G (.cond c x y) ke m a h = boolM (xv a.tmps c) (fun b => BrM b (RC P G x ke ⟨⟩ a h) (RC P G y ke ⟨⟩ a h) ⟨⟩ ⟨⟩) ⟨⟩ := _root_.id rfl
theorem RC_block (id : Nat) (c : CC) (m : Fz (CC.block id c, ke)) : RC P G (.block id c) ke m a h = RC P G c (fun e a h => match e with
    | .exit j => if j = id then ke .normal a h else ke (.exit j) a h
    | e => ke e a h) ⟨⟩ a h := _root_.id rfl
theorem RC_loop (c : CC) (m : Fz (CC.loop c, ke)) : RC P G (.loop c) ke m a h = wcM P (.loop c) a h ke ⟨⟩ := _root_.id rfl
theorem RC_exit (id : Nat) (m : Fz (CC.exit id, ke)) : RC P G (.exit id) ke m a h = ke (.exit id) a h := _root_.id rfl
theorem RC_ret (m : Fz (CC.ret, ke)) : RC P G .ret ke m a h = ke .ret a h := _root_.id rfl
theorem RC_orig (c : Code) (m : Fz (CC.orig c, ke)) : RC P G (.orig c) ke m a h = wpM P c a h ke ⟨⟩ := _root_.id rfl

theorem RO_nil (m : Fz (([] : List COp), ka)) : RO P G [] ka m a h = ka a h := _root_.id rfl
theorem RO_cons (d : Option Tmp) (o : CO) (r : List COp) (m : Fz ((⟨d, o, none⟩ : COp) :: r, ka)) : RO P G (⟨d, o, none⟩ :: r) ka m a h = R1 P G o (fun v h => RO P G r ka ⟨⟩ (a.put d v) h) ⟨⟩ a.tmps h := _root_.id rfl
theorem RO_guard (d : Option Tmp) (o : CO) (t : Nat) (w : Bool) (r : List COp) (m : Fz ((⟨d, o, some (t, w)⟩ : COp) :: r, ka)) (ts : List AV) (f : List Nat) (rr : Option Nat) : RO P G (⟨d, o, some (t, w)⟩ :: r) ka m ⟨ts, f, rr⟩ h =
    gdM (gt ts t) w (R1 P G o (fun v h => RO P G r ka ⟨⟩ (AAct.put ⟨ts.set t (.bool w), f, rr⟩ d v) h) ⟨⟩ (ts.set t (.bool w)) h) (RO P G r ka ⟨⟩ (AAct.put ⟨ts.set t (match gt ts t with | .bool _ => .bool (!w) | v => v), f, rr⟩ d .un) h) ⟨⟩ ⟨⟩ := _root_.id (runOps_guard d o t w r ts f rr)
theorem R1_mv (x : CX) (m : Fz (((.mv x) : CO), k)) : R1 P G (.mv x) k m ts h = k (xv ts x) h := _root_.id (runO_mv (S := SM P) x)
theorem R1_pick (c x y : CX) (m : Fz (((.pick c x y) : CO), k)) : R1 P G (.pick c x y) k m ts h = boolM (xv ts c) (fun t => k (if t then xv ts x else xv ts y) h) ⟨⟩ := _root_.id (runO_pick (S := SM P) c x y)
theorem R1_alloc (cs : List AV) (m : Fz (((.alloc cs) : CO), k)) : R1 P G (.alloc cs) k m ts h = k (.ptr h.n 0) (h.push (.cells cs true)) := _root_.id (runO_alloc (S := SM P) cs)
theorem R1_box (x : CX) (m : Fz (((.box x) : CO), k)) : R1 P G (.box x) k m ts h = mustM ((xv ts x).cells.all AV.one = true) (k (.ptr h.n 0) (h.push (.cells (xv ts x).cells true))) ⟨⟩ := _root_.id (runO_box (S := SM P) x)
theorem R1_build (z : List AV) (pl : List (Nat × Nat)) (ps : List (Nat × CX)) (m : Fz (((.build z pl ps) : CO), k)) : R1 P G (.build z pl ps) k m ts h = bindM (fillA (fun i => pl[i]?) z (ps.map fun p => (p.1, xv ts p.2))) (fun cs => k (.agg cs) h) ⟨⟩ := _root_.id (runO_build (S := SM P) z pl ps)
theorem R1_bsl (z : List AV) (n s : Nat) (ps : List (Nat × CX)) (m : Fz (((.bsl z n s ps) : CO), k)) : R1 P G (.bsl z n s ps) k m ts h = bindM (fillA (fun i => some (i * s, s)) z (ps.map fun p => (p.1, xv ts p.2))) (fun cs => k (.sl h.n 0 n n 0) (h.push (.cells cs true))) ⟨⟩ := _root_.id (runO_bsl (S := SM P) z n s ps)
theorem R1_load (g : Bool) (s : Nat) (x : CX) (m : Fz (((.load g s x) : CO), k)) : R1 P G (.load g s x) k m ts h = ptrM (xv ts x) (fun b o => bindM (rd h g s b o) (fun v => k v h) ⟨⟩) ⟨⟩ := _root_.id (runO_load (S := SM P) g s x)
theorem R1_store (s : Nat) (x y : CX) (m : Fz (((.store s x y) : CO), k)) : R1 P G (.store s x y) k m ts h = ptrM (xv ts x) (fun b o => cellsM (h.get b) (fun cs => mustM ((xv ts y).cells.length = s ∧ o + s ≤ cs.length ∧ (xv ts y).cells.all AV.one = true) (k .un (h.set b (.cells (setL cs o (xv ts y).cells) true))) ⟨⟩) ⟨⟩) ⟨⟩ := _root_.id (runO_store (S := SM P) s x y)
theorem R1_nilc (x : CX) (m : Fz (((.nilc x) : CO), k)) : R1 P G (.nilc x) k m ts h = match xv ts x with
    | .ptr b o => k (.ptr b o) h
    | .fn (.func f) a c => k (.fn (.func f) a c) h
    | .fn (.yield f) a c => k (.fn (.yield f) a c) h
    | _ => False := _root_.id (runO_nilc (S := SM P) x)
theorem R1_ib (op : BinOp) (x y : CX) (m : Fz (((.ib op x y) : CO), k)) : R1 P G (.ib op x y) k m ts h = intM (xv ts x) (fun j a => intM (xv ts y) (fun j' b => mustM (j = j') (bindM (intA op j a b) (fun v => k v h) ⟨⟩) ⟨⟩) ⟨⟩) ⟨⟩ := _root_.id (runO_ib (S := SM P) op x y)
theorem R1_sh (op : BinOp) (x y : CX) (m : Fz (((.sh op x y) : CO), k)) : R1 P G (.sh op x y) k m ts h = intM (xv ts x) (fun j a => intM (xv ts y) (fun _ b => bindM (shiftA op j a b) (fun v => k v h) ⟨⟩) ⟨⟩) ⟨⟩ := _root_.id (runO_sh (S := SM P) op x y)
theorem R1_sb (op : BinOp) (x y : CX) (m : Fz (((.sb op x y) : CO), k)) : R1 P G (.sb op x y) k m ts h = strM (xv ts x) (fun a => strM (xv ts y) (fun b => bindM (strA op a b) (fun v => k v h) ⟨⟩) ⟨⟩) ⟨⟩ := _root_.id (runO_sb (S := SM P) op x y)
theorem R1_bb (op : BinOp) (x y : CX) (m : Fz (((.bb op x y) : CO), k)) : R1 P G (.bb op x y) k m ts h = boolM (xv ts x) (fun a => boolM (xv ts y) (fun b => bindM (eqOp op (some (a == b))) (fun v => k v h) ⟨⟩) ⟨⟩) ⟨⟩ := _root_.id (runO_bb (S := SM P) op x y)
theorem R1_un (op : UnOp) (x : CX) (m : Fz (((.un op x) : CO), k)) : R1 P G (.un op x) k m ts h = bindM (unA op (xv ts x)) (fun v => k v h) ⟨⟩ := _root_.id (runO_un (S := SM P) op x)
theorem R1_cvi (j : IntKind) (x : CX) (m : Fz (((.cvi j x) : CO), k)) : R1 P G (.cvi j x) k m ts h = intM (xv ts x) (fun _ n => k (.int j (j.wrap n)) h) ⟨⟩ := _root_.id (runO_cvi (S := SM P) j x)
theorem R1_mkif (t : Nat) (x : CX) (m : Fz (((.mkif t x) : CO), k)) : R1 P G (.mkif t x) k m ts h = k (.iface t (xv ts x)) h := _root_.id (runO_mkif (S := SM P) t x)
theorem R1_mkfn (f : Fn) (x y : List CX) (m : Fz (((.mkfn f x y) : CO), k)) : R1 P G (.mkfn f x y) k m ts h = k (.fn f (x.map (xv ts)) (y.map (xv ts))) h := _root_.id (runO_mkfn (S := SM P) f x y)
theorem R1_mksl (z : List AV) (s by_ : Nat) (l c : CX) (m : Fz (((.mksl z s by_ l c) : CO), k)) : R1 P G (.mksl z s by_ l c) k m ts h = intM (xv ts l) (fun j l => intM (xv ts c) (fun j' c => mustM (j = .i64 ∧ j' = .i64 ∧ 0 ≤ l ∧ l ≤ c ∧ c < 9223372036854775807 ∧ by_ * c.toNat ≤ 1099511627776) (k (.sl h.n 0 l.toNat c.toNat 0) (h.push (.cells (zerosA z c.toNat) true))) ⟨⟩) ⟨⟩) ⟨⟩ := _root_.id (runO_mksl (S := SM P) z s by_ l c)
theorem R1_fa (off : Nat) (x : CX) (m : Fz (((.fa off x) : CO), k)) : R1 P G (.fa off x) k m ts h = ptrM (xv ts x) (fun b o => k (.ptr b (o + off)) h) ⟨⟩ := _root_.id (runO_fa (S := SM P) off x)
theorem R1_fld (g : Bool) (s off : Nat) (x : CX) (m : Fz (((.fld g s off x) : CO), k)) : R1 P G (.fld g s off x) k m ts h = bindM (part g s off (xv ts x)) (fun v => k v h) ⟨⟩ := _root_.id (runO_fld (S := SM P) g s off x)
theorem R1_ia (s : Nat) (x i : CX) (m : Fz (((.ia s x i) : CO), k)) : R1 P G (.ia s x i) k m ts h = bindM (idxA s (xv ts x) (xv ts i)) (fun v => k v h) ⟨⟩ := _root_.id (runO_ia (S := SM P) s x i)
theorem R1_iaa (n s : Nat) (x i : CX) (m : Fz (((.iaa n s x i) : CO), k)) : R1 P G (.iaa n s x i) k m ts h = bindM (idxAA n s (xv ts x) (xv ts i)) (fun v => k v h) ⟨⟩ := _root_.id (runO_iaa (S := SM P) n s x i)
theorem R1_ixs (x i : CX) (m : Fz (((.ixs x i) : CO), k)) : R1 P G (.ixs x i) k m ts h = strM (xv ts x) (fun s => intM (xv ts i) (fun _ i => mustM (0 ≤ i) (bindM s[i.toNat]? (fun b => k (.int .u8 b.toNat) h) ⟨⟩) ⟨⟩) ⟨⟩) ⟨⟩ := _root_.id (runO_ixs (S := SM P) x i)
theorem R1_lenS (x : CX) (m : Fz (((.lenS x) : CO), k)) : R1 P G (.lenS x) k m ts h = bindM (slLen (xv ts x)) (fun n => k (.int .i64 n) h) ⟨⟩ := _root_.id (runO_lenS (S := SM P) x)
theorem R1_lenT (x : CX) (m : Fz (((.lenT x) : CO), k)) : R1 P G (.lenT x) k m ts h = bindM (strLen (xv ts x)) (fun n => k (.int .i64 n) h) ⟨⟩ := _root_.id (runO_lenT (S := SM P) x)
theorem R1_lenM (x : CX) (m : Fz (((.lenM x) : CO), k)) : R1 P G (.lenM x) k m ts h = match xv ts x with
    | .nilm => k (.int .i64 0) h
    | .map b => (match h.get b with | some (.map es _) => k (.int .i64 es.length) h | _ => False)
    | _ => False := _root_.id (runO_lenM (S := SM P) x)
theorem R1_ext (x : CX) (i : Nat) (m : Fz (((.ext x i) : CO), k)) : R1 P G (.ext x i) k m ts h = tupM (xv ts x) (fun vs => bindM vs[i]? (fun v => k v h) ⟨⟩) ⟨⟩ := _root_.id (runO_ext (S := SM P) x i)
theorem R1_call (f : CX) (args : List CX) (m : Fz (((.call f args) : CO), k)) : R1 P G (.call f args) k m ts h = cvM P (xv ts f) (args.map (xv ts)) h k ⟨⟩ := _root_.id (runO_call (S := SM P) f args)
theorem R1_app (s by_ : Nat) (x y : CX) (m : Fz (((.app s by_ x y) : CO), k)) : R1 P G (.app s by_ x y) k m ts h = bindM (appC s by_ (xv ts x) (xv ts y) h) (fun r => k r.1 r.2) ⟨⟩ := _root_.id (runO_app (S := SM P) s by_ x y)
theorem R1_gen (op : Op) (m : Fz (CO.gen op, k)) : R1 P G (.gen op) k m ts h = genM P G op ts h k ⟨⟩ := _root_.id rfl

theorem RD_nil (m : Fz (([] : List (Nat × Nat × COp)), ka)) : RD P G [] ka m fs a h = ka a h := _root_.id rfl
theorem RD_cons (i m : Nat) (d : Option Tmp) (o : CO) (r : List (Nat × Nat × COp)) (mm : Fz ((i, m, (⟨d, o, none⟩ : COp)) :: r, ka)) : RD P G ((i, m, ⟨d, o, none⟩) :: r) ka mm fs a h = D1 P G o (fun v h fs => RD P G r ka ⟨⟩ fs (a.put d v) h) ⟨⟩ i m a.tmps h fs := _root_.id (runDraw_cons i m d o r)
theorem RD_guard (i m : Nat) (d : Option Tmp) (o : CO) (t : Nat) (w : Bool) (r : List (Nat × Nat × COp)) (mm : Fz ((i, m, (⟨d, o, some (t, w)⟩ : COp)) :: r, ka)) (ts : List AV) (f : List Nat) (rr : Option Nat) : RD P G ((i, m, ⟨d, o, some (t, w)⟩) :: r) ka mm fs ⟨ts, f, rr⟩ h =
    gdM (gt ts t) w (D1 P G o (fun v h fs => RD P G r ka ⟨⟩ fs (AAct.put ⟨ts.set t (.bool w), f, rr⟩ d v) h) ⟨⟩ i m (ts.set t (.bool w)) h fs) (RD P G r ka ⟨⟩ fs (AAct.put ⟨ts.set t (match gt ts t with | .bool _ => .bool (!w) | v => v), f, rr⟩ d .un) h) ⟨⟩ ⟨⟩ := _root_.id (runDraw_guard i m d o t w r ts f rr)
theorem D1_pure (i m : Nat) {o : CO} (mm : Fz (o, kd)) (ho : isPureO o = true) : D1 P G o kd mm i m ts h fs = R1 P G o (fun v h => kd v h fs) ⟨⟩ ts h := _root_.id (runDO_pure i m ho)
theorem D1_load (i m : Nat) (g : Bool) (s : Nat) (x : CX) (mm : Fz (CO.load g s x, kd)) : D1 P G (.load g s x) kd mm i m ts h fs = ptrM (xv ts x) (fun b o => bindM (rd h g s b o) (fun v => kd v h (.rd i b (ldA g s o) v :: fs)) ⟨⟩) ⟨⟩ := _root_.id (runDO_load i m g s x)
theorem D1_alloc (i m : Nat) (cs : List AV) (mm : Fz (CO.alloc cs, kd)) : D1 P G (.alloc cs) kd mm i m ts h fs = kd (.ptr h.n 0) (h.push (.cells cs true)) (.al i h.n :: fs) := _root_.id rfl
theorem D1_box (i m : Nat) (x : CX) (mm : Fz (CO.box x, kd)) : D1 P G (.box x) kd mm i m ts h fs = mustM ((xv ts x).cells.all AV.one = true) (kd (.ptr h.n 0) (h.push (.cells (xv ts x).cells true)) (.al i h.n :: fs)) ⟨⟩ := _root_.id (runDO_box i m x)
theorem D1_bsl (i m : Nat) (z : List AV) (n s : Nat) (ps : List (Nat × CX)) (mm : Fz (CO.bsl z n s ps, kd)) : D1 P G (.bsl z n s ps) kd mm i m ts h fs = bindM (fillA (fun i => some (i * s, s)) z (ps.map fun p => (p.1, xv ts p.2))) (fun cs => kd (.sl h.n 0 n n 0) (h.push (.cells cs true)) (.al i h.n :: fs)) ⟨⟩ := _root_.id (runDO_bsl i m z n s ps)
theorem D1_store (i m : Nat) (s : Nat) (x y : CX) (mm : Fz (CO.store s x y, kd)) : D1 P G (.store s x y) kd mm i m ts h fs = ptrM (xv ts x) (fun b o => cellsM (h.get b) (fun cs => mustM ((xv ts y).cells.length = s ∧ o + s ≤ cs.length ∧ (xv ts y).cells.all AV.one = true) (KF m (kd .un (h.set b (.cells (setL cs o (xv ts y).cells) true)) fs) ⟨⟩ h (h.set b (.cells (setL cs o (xv ts y).cells) true)) fs) ⟨⟩) ⟨⟩) ⟨⟩ := _root_.id rfl
theorem D1_call (i m : Nat) (f : CX) (args : List CX) (mm : Fz (CO.call f args, kd)) : D1 P G (.call f args) kd mm i m ts h fs = cvM P (xv ts f) (args.map (xv ts)) h (fun v h' => KF m (kd v h' fs) ⟨⟩ h h' fs) ⟨⟩ := _root_.id rfl
theorem D1_app (i m : Nat) (s by_ : Nat) (x y : CX) (mm : Fz (CO.app s by_ x y, kd)) : D1 P G (.app s by_ x y) kd mm i m ts h fs = bindM (appC s by_ (xv ts x) (xv ts y) h) (fun r => KF m (kd r.1 r.2 fs) ⟨⟩ h r.2 fs) ⟨⟩ := _root_.id (runDO_app i m s by_ x y)
theorem KF_nil (b : Nat) (h h' : Heap) (r : Prop) (m : Fz r) : KF b r m h h' [] = r := _root_.id rfl
theorem KF_in (b : Nat) (h h' : Heap) (r : Prop) (m : Fz r) (i x : Nat) (f : AObj → Option AV) (v : AV) (hb : b.testBit i = true) : KF b r m h h' (.rd i x f v :: fs) = KF b r ⟨⟩ h h' fs := _root_.id (keptF_in b h h' r i x f v hb)
theorem KF_out (b : Nat) (h h' : Heap) (r : Prop) (m : Fz r) (i x : Nat) (f : AObj → Option AV) (v : AV) (hb : b.testBit i = false) : KF b r m h h' (.rd i x f v :: fs) = mustM ((h'.get x).bind f = some v) (KF b r ⟨⟩ h h' fs) ⟨⟩ := _root_.id (keptF_out b h h' r i x f v hb)
theorem KF_ain (b : Nat) (h h' : Heap) (r : Prop) (m : Fz r) (i x : Nat) (hb : b.testBit i = true) : KF b r m h h' (.al i x :: fs) = KF b r ⟨⟩ h h' fs := _root_.id (keptF_ain b h h' r i x hb)
theorem KF_aout (b : Nat) (h h' : Heap) (r : Prop) (m : Fz r) (i x : Nat) (hb : b.testBit i = false) : KF b r m h h' (.al i x :: fs) = mustM (∃ u v p, h.get x = some (.cells u p) ∧ h'.get x = some (.cells v p) ∧ u = v) (KF b r ⟨⟩ h h' fs) ⟨⟩ := _root_.id (keptF_aout b h h' r i x hb)

/-- A function, laid out plainly. -/
theorem ACa.introR (hm : P.follows .mixedOrders = true) {f : FuncId} {n : Nat} {res : List ResultVar} {c : CC} (hf : lookC P f = some (n, res, c)) {args : List AV} {h : Heap} {k : AV → Heap → Prop}
    (hs : Low h → RC P P.globals.size c (endC P res k) ⟨⟩ ⟨args ++ List.replicate (n - args.length) .un, [], none⟩ h) : ACa P f args h k := ACa.introC hm hf hs
theorem AWc.runR (hm : P.follows .mixedOrders = true) {c : CC} {a : AAct} {h : Heap} {k : AExit → AAct → Heap → Prop} (hs : RC P P.globals.size c k ⟨⟩ a h) : AWc P c a h k := AWc.run hm hs
/-- A part of the original code, laid out plainly. -/
theorem AWp.runR (hm : P.follows .mixedOrders = true) {c' : Code} {c : CC} (hc : compC P c' = c) {a : AAct} {h : Heap} {k : AExit → AAct → Heap → Prop} (hs : RC P P.globals.size c k ⟨⟩ a h) : AWp P c' a h k := by
  subst hc
  exact runC_sound hm c' a h k hs
end
end Go.Am

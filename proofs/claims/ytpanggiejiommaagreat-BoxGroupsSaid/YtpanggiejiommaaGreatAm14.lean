/- The abstract machine, part 14: one operation, calls and rounds among them, given that what is called is sound. -/
import Derived.Test.YtpanggiejiommaaGreatAm13
namespace Go.Am
set_option autoImplicit false
set_option linter.all false
open Go

def XE : AExit → Exit
  | .normal => .normal
  | .exit id => .exit id
  | .goto l => .goto l
  | .ret => .ret

section
variable {P : Program} {R : Type} {D : Dem R} {sat : R → Prop}

/-- What the machine says is so of the model. -/
structure Snd (P : Program) (sat : R → Prop) (S : Sm R) : Prop where
  ex : ∀ (c : Code) (a : AAct) (h : Heap) (k : AExit → AAct → Heap → R) (K : Nat → Prop) (w0 : World) (ρ : Ren) (w : World) (rc : Option Nat) (ca : Act) (Q : Exit → Act → World → Prop),
    sat (S.ex c a h k) → HR P.globals.size K w0 ρ h w → AR ρ rc a ca →
    (∀ ρ' e a' h' ca' w', sat (k e a' h') → Nx ρ h ρ' h' → HR P.globals.size K w0 ρ' h' w' → AR ρ' rc a' ca' → Q (XE e) ca' w') → c.wpIn (FF rc) 0 P Q ca w
  ca : ∀ (f : FuncId) (args : List AV) (h : Heap) (k : AV → Heap → R) (K : Nat → Prop) (w0 : World) (ρ : Ren) (w : World) (cargs : Array Value) (Q : Ending → World → Prop),
    sat (S.ca f args h k) → HR P.globals.size K w0 ρ h w → VRL ρ args cargs.toList →
    (∀ ρ' v h' cv w', sat (k v h') → Nx ρ h ρ' h' → HR P.globals.size K w0 ρ' h' w' → VR ρ' v cv → Q (.returned cv) w') → CallsIn Fence.wide 0 P f cargs w Q
  fn : ∀ (f : FuncId) (args : List AV) (h : Heap) (k : AV → Heap → R), sat (S.ca f args h k) → ∃ fn c, P.funcs[f]? = some fn ∧ fn.body = some c ∧ (fn.name == "runtime.NumGoroutine") = false

variable {K : Nat → Prop} {w0 w : World} {ρ : Ren} {h : Heap} {S : Sm R}

theorem run_callFunc {f : FuncId} {fn : Func} {c : Code} (hf : P.funcs[f]? = some fn) (hb : fn.body = some c) (hn : (fn.name == "runtime.NumGoroutine") = false) (args : Array Value) (w : World) :
    (callFunc f args).run P w = .ok (.enter f args) w := by
  have hn' : ¬ fn.name = "runtime.NumGoroutine" := by simpa using hn
  simp [callFunc, program, Sem.run, hf, hb, hn']

theorem VRL.zipFold : ∀ {ps : List Tmp} {args : List AV} {cargs : List Value}, VRL ρ args cargs → ∀ {ts : List AV} {cts : Array Value}, VRL ρ ts cts.toList →
    VRL ρ ((ps.zip args).foldl (fun ts p => ts.set p.1 p.2) ts) ((ps.zip cargs).foldl (fun (tmps : Array Value) p => tmps.setIfInBounds p.1 p.2) cts).toList
  | [], _, _, _, _, _, ht => by simpa using ht
  | p :: ps, [], _, .nil, _, _, ht => by simpa using ht
  | p :: ps, a :: as, _, .cons _ v _ vs h t, _, _, ht => by
    simp only [List.zip_cons_cons, List.foldl_cons]
    exact VRL.zipFold (ps := ps) t (by simpa using ht.set p h)

theorem loop_of (H : HR P.globals.size K w0 ρ h w) {l cl d : Nat} {st : LoopState} {pend : Option Code} {tmps : List AV} {ps : Array Tmp} {as bd : Code} {df : Nat} (hl : h.get l = some (.loop st pend tmps ps as bd df)) (hρ : ρ l = some (cl, d)) :
    d = 0 ∧ ∃ L : Loop, (Instr.getLoop cl).run P w = .ok L w ∧ w.heap[cl]? = some (.loop L) ∧ L.state = st ∧ L.pending = pend ∧ VRL ρ tmps L.tmps.toList ∧ L.params = ps ∧ L.assign = as ∧ L.body = bd ∧ (∃ d', ρ df = some (L.defers, d')) := by
  obtain ⟨L, h1, h2, h3, h4, h5, h6, h7, h8, h9⟩ := H.obj l _ cl d hl hρ
  exact ⟨h9, L, by simp [Instr.getLoop, getObj, Sem.run, h1], h1, h2, h3, h4, h5, h6, h7, h8⟩

theorem setLoop (H : HR P.globals.size K w0 ρ h w) {l cl d : Nat} {x : AObj} {L : Loop} (hl : h.get l = some x) (hx : x.rw = true) (hρ : ρ l = some (cl, d)) (h1 : w.heap[cl]? = some (.loop L)) (L' : Loop) {o : AObj} (ho : OR ρ (ρ.sz cl) (some (.loop L')) d o) :
    (setObj cl (.loop L')).run P w = .ok () { w with heap := w.heap.setIfInBounds cl (.loop L') } ∧ HR P.globals.size K w0 ρ (h.set l o) { w with heap := w.heap.setIfInBounds cl (.loop L') } :=
  ⟨setMap h1 (fun _ _ _ h => by cases h), H.setObjN hl hx hρ ho (fun c e fz he => by rw [h1] at he; cases he)⟩

/-- One round. -/
theorem round_sound (hD : Sat D sat) (hS : Snd P sat S) (H : HR P.globals.size K w0 ρ h w) {l cl d : Nat} {args : List AV} {cargs : Array Value} {k : AV → Heap → R} (hs : sat (roundF D S l args h k)) (hρ : ρ l = some (cl, d)) (ha : VRL ρ args cargs.toList)
    {Q : Ending → World → Prop} (hk : ∀ ρ' v h' cv w', sat (k v h') → Nx ρ h ρ' h' → HR P.globals.size K w0 ρ' h' w' → VR ρ' v cv → Q (.returned cv) w') :
    ∃ f tmps as bd, (Instr.yield cl cargs).run P w = .ok (.round cl f tmps as bd) w ∧ RoundIn Fence.wide 0 P cl f tmps as bd w Q := by
  unfold roundF at hs
  split at hs
  · rename_i st pend tmps ps as bd df hl
    obtain ⟨hd, L, g1, g2, g3, g4, g5, g6, g7, g8, g9⟩ := loop_of H hl hρ
    subst hd
    split at hs
    · rename_i hlen
      have hsz : cargs.size = L.params.size := by rw [g6, ← hlen, ha.length]; simp
      refine ⟨L.fn, (L.params.zip cargs).foldl (fun tmps (t, a) => tmps.setIfInBounds t a) L.tmps, L.assign, L.body, by simp [Instr.yield, g1, hsz], ?_⟩
      have ht : VRL ρ ((ps.toList.zip args).foldl (fun ts p => ts.set p.1 p.2) tmps) ((L.params.zip cargs).foldl (fun tmps (t, a) => tmps.setIfInBounds t a) L.tmps).toList := by
        have := VRL.zipFold (ps := ps.toList) ha g5
        rw [← Array.foldl_toList, Array.toList_zip, g6]
        exact this
      refine roundIn_of_wpIn trivial ?_
      rw [g7, g8]
      refine hS.ex as _ h _ K w0 ρ w (some cl) _ _ hs H ⟨ht, rfl, fun i b hb => by simp at hb, hρ⟩ ?_
      intro ρ1 e a1 h1 ca1 w1 hs1 N1 H1 A1
      cases e <;> try exact (hD.no hs1).elim
      split at hs1
      · rename_i pend1 tmps1 ps1 as1 bd1 df1 _ hl1
        obtain ⟨_, L1, k1, k2, k3, k4, k5, k6, k7, k8, k9⟩ := loop_of H1 hl1 (N1.sub.m _ _ hρ)
        obtain ⟨s1, s2⟩ := setLoop H1 hl1 rfl (N1.sub.m _ _ hρ) k2 { L1 with state := .busy } (o := .loop .busy pend1 tmps1 ps1 as1 bd1 df1) ⟨_, rfl, rfl, k4, k5, k6, k7, k8, k9, rfl⟩
        refine ⟨{ w1 with heap := w1.heap.setIfInBounds cl (.loop { L1 with state := .busy }) }, ?_, ?_⟩
        · simp only [Instr.beginRound, Sem.run_bind, k1, Result.andThen_ok, s1, k3, Sem.run_pure]
        · refine hS.ex bd a1 _ _ K w0 ρ1 _ (some cl) ca1 _ hs1 s2 A1 ?_
          intro ρ2 e2 a2 h2 ca2 w2 hs2 N2 H2 A2
          have hρ2 := N2.sub.m _ _ (N1.sub.m _ _ hρ)
          split at hs2
          · rename_i st2 pend2 tmps2 ps2 as2 bd2 df2 hl2
            obtain ⟨_, L2, m1, m2, m3, m4, m5, m6, m7, m8, m9⟩ := loop_of H2 hl2 hρ2
            have fin : ∀ (jump : Option Code) (st' : LoopState), st' = (if jump.isNone then .ready else .done) → sat (k (.bool jump.isNone) (h2.set l (.loop st' jump tmps2 ps2 as2 bd2 df2))) →
                ∃ v w', (Instr.endRound cl jump).run P w2 = .ok v w' ∧ Q (.returned v) w' := by
              intro jump st' hst hsat
              obtain ⟨s1, s2⟩ := setLoop H2 hl2 rfl hρ2 m2 { L2 with state := if jump.isNone then .ready else .done, pending := jump } (o := .loop st' jump tmps2 ps2 as2 bd2 df2) ⟨_, rfl, hst.symm, rfl, m5, m6, m7, m8, m9, rfl⟩
              refine ⟨.bool jump.isNone, _, ?_, hk ρ2 _ _ _ _ hsat ((N1.trans (show Nx ρ1 h1 ρ2 h2 from ⟨N2.sub, N2.n, N2.old⟩)).trans (Nx.same (Nat.le_refl _))) s2 (.bool _)⟩
              simp only [Instr.endRound, Sem.run_bind, m1, Result.andThen_ok, s1, Sem.run_pure]
            cases e2 with
            | normal => exact fin none .ready rfl hs2
            | ret => exact fin (some .ret) .done rfl hs2
            | exit id => exact fin (some (.exit id)) .done rfl hs2
            | goto _ => exact (hD.no hs2).elim
          · exact (hD.no hs2).elim
      · exact (hD.no hs1).elim
    · exact (hD.no hs).elim
  · exact (hD.no hs).elim


theorem execOp_call (ρ : Operand → Value) (o : Oper) (c : Call) (hop : o.op = .call c) : execOp ρ o = (do let d ← resolve ρ c o.type; invoke d.target d.args) := by simp [execOp, hop]

theorem OR.size {ρ ρ' : Ren} {N N' : Nat} {x : Option Obj} {d : Nat} {o : AObj} (h1 : OR ρ N x d o) (h2 : OR ρ' N' x d o) : OR ρ' N x d o := by
  cases o with
  | cells cs rw =>
    obtain ⟨c, e, fz, k1, ⟨k2, _⟩, _, _⟩ := h1
    obtain ⟨c', e', fz', j1, ⟨j2, j3⟩, j4, j5⟩ := h2
    rw [k1] at j1
    cases j1
    have : N = N' := by omega
    subst this
    exact ⟨c, e, fz, k1, ⟨j2, j3⟩, j4, j5⟩
  | _ => exact h2

theorem effA_noDefer {ev : Operand → AV} {o : Oper} {x : AV × Heap} (hs : effA P ev o h = some x) (c : Call) : o.op ≠ .defer c := by
  intro hop; simp [effA, hop] at hs
theorem cls_noDefer {o : Oper} (c : Call) (hop : o.op = .defer c) : isEff o.op = true := by simp [isEff, hop]

/-- One end of an operation goes on. -/
theorem upon_of {o : Oper} {rc : Option Nat} {ca : Act} {next : Act → World → Prop} {Q : Exit → Act → World → Prop} {w' : World} {v' : Value} (hd : ∀ c, o.op ≠ .defer c)
    (hr : (execOp ca.eval o).run P w = .ok (.value v') w' ∨ ((execOp ca.eval o).run P w = .ok .skip w' ∧ v' = undef)) (hn : next (ca.put o.dst v') w') : o.wpIn (FF rc) 0 P ca w next Q := by
  refine ⟨fun _ _ => trivial, ?_⟩
  rw [Oper.semAt_eq _ _ _ hd]
  rcases hr with hr | ⟨hr, rfl⟩ <;> rw [hr] <;> exact hn

theorem find_indexByte (fn : Func) (h : fn.name = "internal/bytealg.IndexByteString") : Extern.find fn = some Extern.BytealgIndexByte.indexByte := by
  unfold Extern.find
  simp only [h]
  kernel_rfl
theorem find_count (fn : Func) (h : fn.name = "internal/bytealg.CountString") : Extern.find fn = some Extern.BytealgCount.count := by
  unfold Extern.find
  simp only [h]
  kernel_rfl
theorem find_noEscape (fn : Func) (h : fn.name = "internal/abi.NoEscape") : Extern.find fn = some Extern.AbiNoEscape.same := by
  unfold Extern.find
  simp only [h]
  kernel_rfl

theorem extA_ib {args : List AV} {v : AV} (h : extA .indexByte args = some v) : ∃ s c, args = [.str s, .int .u8 c] ∧ v = .int .i64 (Lib.indexByte s c.toNat.toUInt8) := by
  unfold extA at h
  split at h <;> first | (cases h; exact ⟨_, _, rfl, rfl⟩) | simp_all
theorem extA_ct {args : List AV} {v : AV} (h : extA .count args = some v) : ∃ s c, args = [.str s, .int .u8 c] ∧ v = .int .i64 (Lib.countByte s c.toNat.toUInt8) := by
  unfold extA at h
  split at h <;> first | (cases h; exact ⟨_, _, rfl, rfl⟩) | simp_all
theorem extA_ne {args : List AV} {v : AV} (h : extA .noEscape args = some v) : args = [v] := by
  unfold extA at h
  split at h <;> simp_all

/-- A function without a body. -/
theorem ext_run {g : FuncId} {x : Ext} (hx : extOf P g = some x) {args : List AV} {cargs : Array Value} {v : AV} (hv : extA x args = some v) (ha : VRL ρ args cargs.toList) (w : World) :
    ∃ v', (callFunc g cargs).run P w = .ok (.value v') w ∧ VR ρ v v' := by
  unfold extOf at hx
  split at hx
  case h_2 => cases hx
  rename_i fn hf
  split at hx
  case isFalse => cases hx
  rename_i hc
  simp only [Bool.and_eq_true, Bool.not_eq_true'] at hc
  obtain ⟨⟨hb, hn⟩, hng⟩ := hc
  have hn' : Extern.findNext fn = none := by simpa using hn
  have hng' : ¬ fn.name = "runtime.NumGoroutine" := by simpa using hng
  have hb' : fn.body = none := by simpa using hb
  have key : ∀ (e : Array Value → Sem Value) (v' : Value), Extern.find fn = some e → (e cargs).run P w = .ok v' w → (callFunc g cargs).run P w = .ok (.value v') w := by
    intro e v' he hr
    simp [callFunc, program, mark, Sem.run, hf, hng', hb', hn', he, hr]
  unfold extNamed at hx
  split at hx
  · rename_i hname
    cases hx
    obtain ⟨s, c, rfl, rfl⟩ := extA_ib hv
    generalize hcl : cargs.toList = l at ha
    cases ha with
    | cons _ v1 _ l1 h1 h2 =>
      cases h2 with
      | cons _ v2 _ l2 h3 h4 =>
        cases h4
        cases h1 with
        | str ba =>
          cases h3
          have hca : cargs = #[.string ba, .int .u8 c] := by apply Array.ext'; rw [hcl]
          subst hca
          exact ⟨_, key _ _ (find_indexByte fn hname) (Lib.run_indexByteString ba c w), .int _ _⟩
  · split at hx
    · rename_i hname
      cases hx
      obtain ⟨s, c, rfl, rfl⟩ := extA_ct hv
      generalize hcl : cargs.toList = l at ha
      cases ha with
      | cons _ v1 _ l1 h1 h2 =>
        cases h2 with
        | cons _ v2 _ l2 h3 h4 =>
          cases h4
          cases h1 with
          | str ba =>
            cases h3
            have hca : cargs = #[.string ba, .int .u8 c] := by apply Array.ext'; rw [hcl]
            subst hca
            exact ⟨_, key _ _ (find_count fn hname) (Lib.run_countString ba c w), .int _ _⟩
    · split at hx
      · rename_i hname
        cases hx
        have := extA_ne hv
        subst this
        generalize hcl : cargs.toList = l at ha
        cases ha with
        | cons _ v1 _ l1 h1 h2 =>
          cases h2
          have hca : cargs = #[v1] := by apply Array.ext'; rw [hcl]
          subst hca
          exact ⟨_, key _ _ (find_noEscape fn hname) (show (pure v1 : Sem Value).run P w = _ from by simp), h1⟩
      · cases hx

set_option maxHeartbeats 1000000 in
/-- A call of a value. -/
theorem callV_sound (hD : Sat D sat) (hS : Snd P sat S) (H : HR P.globals.size K w0 ρ h w) {o : Oper} {c : Call} {f : Operand} {fa : AV} {args : List AV} {rc : Option Nat} {ca : Act} {k : AV → Heap → R} (hop : o.op = .call c) (hcal : c.callee = .value f)
    (hs : sat (callV P D S fa args h k)) (hf : VR ρ fa (ca.eval f)) (ha : VRL ρ args (c.args.map ca.eval).toList) {next : Act → World → Prop} {Q : Exit → Act → World → Prop}
    (hk : ∀ ρ' v h' cv w', sat (k v h') → Nx ρ h ρ' h' → HR P.globals.size K w0 ρ' h' w' → VR ρ' v cv → next (ca.put o.dst cv) w') : o.wpIn (FF rc) 0 P ca w next Q := by
  have hd : ∀ c', o.op ≠ .defer c' := fun c' h => by rw [hop] at h; cases h
  unfold callV at hs
  generalize hcv : ca.eval f = fv at hf
  split at hs
  · rename_i g first captured
    cases hf with
    | fn _ _ _ _ vs ws hfr h1 h2 =>
      cases hfr
      split at hs
      · rename_i x hx
        split at hs
        · rename_i v hv
          obtain ⟨v', r1, r2⟩ := ext_run hx hv (cargs := (vs ++ c.args.map ca.eval) ++ ws) (by rw [Array.toList_append, Array.toList_append]; exact (h1.append ha).append h2) w
          exact upon_of hd (.inl (by rw [execOp_call _ _ _ hop]; simpa [resolve, hcal, hcv, Deferred.ofValue, invoke] using r1)) (hk ρ v h v' w hs (Nx.refl _ _) H r2)
        · exact (hD.no hs).elim
      obtain ⟨fn, code, f1, f2, f3⟩ := hS.fn _ _ _ _ hs
      have hrun : (execOp ca.eval o).run P w = .ok (.enter g ((vs ++ c.args.map ca.eval) ++ ws)) w := by
        rw [execOp_call _ _ _ hop]
        simp [resolve, hcal, hcv, Deferred.ofValue, invoke, run_callFunc f1 f2 f3]
      refine ⟨fun _ _ => trivial, ?_⟩
      rw [Oper.semAt_eq _ _ _ hd, hrun]
      refine ⟨nodepth rc 0, callsIn_FF (hS.ca g _ h k K w0 ρ w _ _ hs H ?_ fun ρ' v h' cv w' a1 a2 a3 a4 => hk ρ' v h' cv w' a1 a2 a3 a4)⟩
      rw [Array.toList_append, Array.toList_append]
      exact (h1.append ha).append h2
  · rename_i l first captured
    cases hf with
    | fn _ _ _ _ vs ws hfr h1 h2 =>
      cases hfr with
      | yield _ cl hρ =>
        obtain ⟨f', tmps, as, bd, r1, r2⟩ := round_sound hD hS H (cargs := vs ++ c.args.map ca.eval) hs hρ (by rw [Array.toList_append]; exact h1.append ha)
          (Q := fun
            | .returned v, w'' => next (ca.put o.dst v) w''
            | .panicked chain, w'' => Q (.panic chain) ca w''
            | .outgrown, _ => LetsOut Q) (fun ρ' v h' cv w' a1 a2 a3 a4 => hk ρ' v h' cv w' a1 a2 a3 a4)
        have hrun : (execOp ca.eval o).run P w = .ok (.round cl f' tmps as bd) w := by
          rw [execOp_call _ _ _ hop]
          simp [resolve, hcal, hcv, Deferred.ofValue, invoke, r1]
        refine ⟨fun _ _ => trivial, ?_⟩
        rw [Oper.semAt_eq _ _ _ hd, hrun]
        exact ⟨nodepth rc 0, roundIn_FF r2⟩
  · exact (hD.no hs).elim

set_option maxHeartbeats 1000000 in
/-- One operation that changes memory. -/
theorem effF_sound (hD : Sat D sat) (hS : Snd P sat S) (H : HR P.globals.size K w0 ρ h w) {o : Oper} {ev : Operand → AV} {rc : Option Nat} {ca : Act} {k : AV → Heap → R} (hs : sat (effF P D S ev o h k)) (hev : ∀ x, VR ρ (ev x) (ca.eval x))
    {next : Act → World → Prop} {Q : Exit → Act → World → Prop}
    (hk : ∀ ρ' v h' cv w', sat (k v h') → Nx ρ h ρ' h' → HR P.globals.size K w0 ρ' h' w' → VR ρ' v cv → next (ca.put o.dst cv) w') : o.wpIn (FF rc) 0 P ca w next Q := by
  unfold effF at hs
  split at hs
  · rename_i it s hop
    obtain ⟨ρ', v, h', v', w', a1, a2, a3, a4, a5⟩ := nextF_sound (P := P) (ty := o.type) hD H hs (hev it)
    exact upon_of (fun c h => by rw [hop] at h; cases h) (.inl (by simp [execOp, hop, a2])) (hk ρ' v h' v' w' a1 a3 a5 a4)
  · rename_i it hop
    obtain ⟨ρ', v, h', v', w', a1, a2, a3, a4, a5⟩ := entryF_sound (P := P) hD H hs (hev it)
    exact upon_of (fun c h => by rw [hop] at h; cases h) (.inl (by simp [execOp, hop, a2])) (hk ρ' v h' v' w' a1 a3 a5 a4)
  · rename_i f args _ hop
    exact callV_sound hD hS H hop rfl hs (hev f) (by simpa using args_rel hev args.toList) hk
  · split at hs
    · rename_i v h' heff
      obtain ⟨ρ', v', w', a1, a2, a3, a4⟩ := effA_run heff H hev
      exact upon_of (effA_noDefer heff) a1 (hk ρ' v h' v' w' hs a2 a4 a3)
    · exact (hD.no hs).elim

theorem HR.alloc (H : HR P.globals.size K w0 ρ h w) {ox : Obj} {x : AObj} (hor : ∀ (ρ' : Ren) (b cb : Nat), Sub ρ ρ' → ρ' b = some (cb, 0) → ∃ N, OR ρ' N (some ox) 0 x) :
    ∃ N, Nx ρ h (ρ.put h.n (w.heap.size, 0) N) (h.push x) ∧ HR P.globals.size K w0 (ρ.put h.n (w.heap.size, 0) N) (h.push x) (w.alloc ox) := by
  have hnew : ρ h.n = none := (H.top h.n (Nat.le_refl _)).2
  have sub : ∀ N, Sub ρ (ρ.put h.n (w.heap.size, 0) N) := fun N => Ren.sub_put hnew fun c d' hc => by have := H.rng c _ d' hc; dsimp only at this; omega
  obtain ⟨N, hN⟩ := hor (ρ.put h.n (w.heap.size, 0) 0) h.n w.heap.size (sub 0) (Ren.put_same _ _ _ _)
  refine ⟨N, Nx.put (sub N) (Nat.le_succ _), H.push x w.heap.size 0 N rfl rfl rfl (by simp) (fun i hi => ?_) (Nat.le_refl _) (by simp) ?_⟩
  · show (w.heap.push ox)[i]? = _
    rw [Array.getElem?_push, if_neg (by omega)]
  · have : (w.alloc ox).heap[w.heap.size]? = some ox := by show (w.heap.push ox)[w.heap.size]? = _; simp
    rw [this]
    obtain ⟨N', hN'⟩ := hor (ρ.put h.n (w.heap.size, 0) N) h.n w.heap.size (sub N) (Ren.put_same _ _ _ _)
    exact hN.size hN'

/-- What type a new variable has. -/
theorem alloc_type {o : Oper} {t : TypeId} (hop : o.op = .alloc t) {x : AObj} {g : Nat → AV} {ev : Operand → AV} {cev : Operand → Value} (hc : cls P ev o = .alloc x g) {w : World} {v' : Value} {ox : Obj} (h : Runs P cev o v' w (w.alloc ox)) : ∃ c, ox = .cells c t (0, 0) := by
  unfold cls at hc
  rw [hop] at hc
  simp only at hc
  split at hc
  · rename_i z hz
    obtain ⟨z', hz1, -⟩ := zero_of (ρ := Ren.no) hz
    unfold Runs at h
    simp [execOp, hop, Instr.alloc, hz1 w, newVar, newRow] at h
    have h2 : w.heap.push (.cells z'.cells t) = w.heap.push ox := congrArg World.heap h.2
    exact ⟨_, (Array.push_inj_right.1 h2).symm⟩
  · cases hc

theorem tagOf_alloc {o : Op} {t : TypeId} (h : tagOf P o = some t) : o = .alloc t := by
  unfold tagOf at h
  split at h
  · split at h
    · cases h; rfl
    · cases h
  · cases h

/-- One operation. -/
theorem opF_sound (hD : Sat D sat) (hS : Snd P sat S) (H : HR P.globals.size K w0 ρ h w) {o : Oper} {ev : Operand → AV} {rc : Option Nat} {ca : Act} {k : AV → Heap → R} (hs : sat (opF P D S ev o h k)) (hev : ∀ x, VR ρ (ev x) (ca.eval x))
    {next : Act → World → Prop} {Q : Exit → Act → World → Prop}
    (hk : ∀ ρ' v h' cv w', sat (k v h') → Nx ρ h ρ' h' → HR P.globals.size K w0 ρ' h' w' → VR ρ' v cv → next (ca.put o.dst cv) w') : o.wpIn (FF rc) 0 P ca w next Q := by
  unfold opF at hs
  split at hs
  · exact effF_sound hD hS H hs hev hk
  · rename_i hne
    have hd : ∀ c, o.op ≠ .defer c := fun c hop => hne (cls_noDefer c hop)
    split at hs
    · rename_i v hc
      obtain ⟨v', r1, r2⟩ := cls_pure hc hev
      exact upon_of hd (.inl (r1 w)) (hk ρ v h v' w hs (Nx.refl _ _) H r2)
    · rename_i b f hc
      obtain ⟨cb, d, hρ, r⟩ := cls_read hc hev
      split at hs
      · rename_i x hb
        split at hs
        · rename_i v hv
          obtain ⟨v', r1, r2⟩ := r ρ w (ρ.sz cb) x v (Sub.refl _) (H.obj b x cb d hb hρ) hv
          exact upon_of hd (.inl r1) (hk ρ v h v' w hs (Nx.refl _ _) H r2)
        · exact (hD.no hs).elim
      · exact (hD.no hs).elim
    · rename_i x g hc
      obtain ⟨ox, v', r1, r2⟩ := cls_alloc hc hev
      obtain ⟨N, n1, n2⟩ := H.alloc (x := x) (ox := ox) (fun ρ' b cb hs hb => (r2 ρ' b cb hs hb).2)
      have n3 : HR P.globals.size K w0 (ρ.put h.n (w.heap.size, 0) N) ((h.push x).tagO h.n (tagOf P o.op)) (w.alloc ox) := by
        cases ht : tagOf P o.op with
        | none => exact n2
        | some t =>
          obtain ⟨c, hox⟩ := alloc_type (tagOf_alloc ht) hc (r1 w)
          exact n2.tag ⟨w.heap.size, 0, c, (0, 0), Ren.put_same _ _ _ _, by rw [← hox]; show (w.heap.push ox)[w.heap.size]? = _; simp, fun _ => rfl⟩
      exact upon_of hd (.inl (r1 w)) (hk _ (g h.n) _ _ _ hs ⟨n1.sub, by rw [Heap.tagO_n]; exact n1.n, n1.old⟩ n3 (r2 _ h.n w.heap.size n1.sub (Ren.put_same _ _ _ _)).1)
    · split at hs
      · rename_i v h' hv
        obtain ⟨ρ', v', w', r1, r2, r3, r4⟩ := lookA'_run H hv hev
        exact upon_of hd (.inl r1) (hk ρ' v h' v' w' hs r2 r4 r3)
      · exact (hD.no hs).elim

end
end Go.Am

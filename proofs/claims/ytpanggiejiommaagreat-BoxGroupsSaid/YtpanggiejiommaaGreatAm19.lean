/- The abstract machine, part 19: what it says is so. -/
import Derived.Test.YtpanggiejiommaaGreatAm18
import Derived.TacticsIn
namespace Go.Am
set_option autoImplicit false
set_option linter.all false
open Go

section
variable {P : Program} {R : Type} {D : Dem R} {sat : R → Prop} {S : Sm R} {K : Nat → Prop} {w0 : World}

theorem opsF_sound (hD : Sat D sat) (hS : Snd P sat S) {ops : Array Oper} {rc : Option Nat} {ρ0 : Ren} {h0 : Heap} {k : AAct → Heap → R} {Q : Exit → Act → World → Prop}
    (hk : ∀ ρ' a' h' ca' w', sat (k a' h') → Nx ρ0 h0 ρ' h' → HR P.globals.size K w0 ρ' h' w' → AR ρ' rc a' ca' → Q .normal ca' w') : ∀ (l : List Oper) (a : AAct) (h : Heap) (ca : Act) (w : World) (ρ : Ren),
    sat (opsF P D S ops l a h k) → Nx ρ0 h0 ρ h → HR P.globals.size K w0 ρ h w → AR ρ rc a ca → wpListIn (FF rc) 0 P ops Q l ca w := by
  intro l
  induction l with
  | nil => exact fun a h ca w ρ hs N H A => hk ρ a h ca w hs N H A
  | cons o l ih =>
    intro a h ca w ρ hs N H A
    simp only [opsF] at hs
    unfold wpListIn
    split at hs
    · rename_i hw
      rw [if_pos (A.yielded ops hw)]
      exact opF_sound hD hS H hs (fun x => A.ev H x) fun ρ' v h' cv w' a1 a2 a3 a4 => ih _ _ _ _ _ a1 (N.trans a2) a3 ((A.mono a2.sub).put _ a4)
    · rename_i hw
      rw [if_neg (by rw [A.yielded ops hw]; simp)]
      exact ⟨fun _ _ => trivial, ih _ _ _ _ _ hs N H (A.put _ VR.un)⟩
    · exact (hD.no hs).elim

/-- A loop, from where its body begins. -/
def LoopWp (rc : Option Nat) (P : Program) (c : Code) (Q : Exit → Act → World → Prop) (a : Act) (w : World) : Prop :=
  ∀ (b : Frame) (k : List Item) (cs : List Frame), b.roundOf = (FF rc).round → ∃ e a' w', Q e a' w' ∧ ArrivesIn (Machine.fenced P (FF rc)) P (lone (b.atR a (.code c :: .inLoop c :: k)) cs w) b k cs e a' w'

theorem room_FF (rc : Option Nat) (n : Nat) : (FF rc).room n := fun _ h => by simp [FF, Fence.wide] at h

theorem LoopWp.wp {rc : Option Nat} {c : Code} {Q : Exit → Act → World → Prop} {a : Act} {w : World} (h : LoopWp rc P c Q a w) : (Code.loop c).wpIn (FF rc) 0 P Q a w := by
  intro b k cs hro hb hr
  obtain ⟨e, a', w', hq, harr⟩ := h b k cs hro
  exact ⟨e, a', w', hq, .of_steps (.one (fenced_calm hb hr rfl) stepR_loop) harr⟩

theorem LoopWp.of_body {rc : Option Nat} {c : Code} {Q : Exit → Act → World → Prop} {a : Act} {w : World} (h : c.wpIn (FF rc) 0 P (Exit.then (LoopWp rc P c Q) Q) a w) : LoopWp rc P c Q a w := by
  intro b k cs hro
  have hb : (FF rc).fn b.fn := trivial
  have hr := room_FF rc (cs.length + 1 + 0)
  obtain ⟨e, a₁, w₁, hq, harr⟩ := h b (.inLoop c :: k) cs hro hb hr
  cases e with
  | normal =>
    obtain ⟨e₂, a₂, w₂, hq₂, harr₂⟩ := hq b k cs hro
    exact ⟨e₂, a₂, w₂, hq₂, .of_steps (StepsIn.trans harr (.one (fenced_calm hb hr rfl) stepR_inLoop)) harr₂⟩
  | exit id => exact ⟨_, a₁, w₁, hq, .pass (x := .inLoop c) rfl (fun _ _ => .inl (by simp)) harr⟩
  | goto l => exact ⟨_, a₁, w₁, hq, .pass (x := .inLoop c) rfl (fun _ _ => .inl (by simp)) harr⟩
  | ret => exact ⟨_, a₁, w₁, hq, .pass (x := .inLoop c) rfl (fun _ _ => .inl (by simp)) harr⟩
  | panic ch => exact ⟨_, a₁, w₁, hq, .pass (x := .inLoop c) rfl (fun _ _ => .inl (by simp)) harr⟩
  | outgrown => exact ⟨_, a₁, w₁, hq, .pass (x := .inLoop c) rfl (fun _ _ => .inl (by simp)) harr⟩

def LSnd (P : Program) (sat : R → Prop) (S : Sm R) : Prop :=
  ∀ (c : Code) (a : AAct) (h : Heap) (k : AExit → AAct → Heap → R) (K : Nat → Prop) (w0 : World) (ρ : Ren) (w : World) (rc : Option Nat) (ca : Act) (Q : Exit → Act → World → Prop),
    sat (S.ex (.loop c) a h k) → HR P.globals.size K w0 ρ h w → AR ρ rc a ca →
    (∀ ρ' e a' h' ca' w', sat (k e a' h') → Nx ρ h ρ' h' → HR P.globals.size K w0 ρ' h' w' → AR ρ' rc a' ca' → Q (XE e) ca' w') → LoopWp rc P c Q ca w

theorem loop_sound (hS : Snd P sat S) (hL : LSnd P sat S) : LSnd P sat ⟨exF P D S, caF P D S⟩ := by
  intro c a h k K w0 ρ w rc ca Q hs H A hk
  refine LoopWp.of_body (hS.ex c a h _ K w0 ρ w rc ca _ hs H A ?_)
  intro ρ1 e a1 h1 ca1 w1 hs1 N1 H1 A1
  cases e with
  | normal => exact hL c a1 h1 k K w0 ρ1 w1 rc ca1 Q hs1 H1 A1 fun ρ' e a' h' ca' w' b1 b2 b3 b4 => hk ρ' e a' h' ca' w' b1 (N1.trans b2) b3 b4
  | exit id => exact hk ρ1 _ a1 h1 ca1 w1 hs1 N1 H1 A1
  | goto l => exact hk ρ1 _ a1 h1 ca1 w1 hs1 N1 H1 A1
  | ret => exact hk ρ1 _ a1 h1 ca1 w1 hs1 N1 H1 A1

theorem run_newObj (o : Obj) (w : World) : (newObj o).run P w = .ok w.heap.size (w.alloc o) := rfl

set_option maxHeartbeats 1000000 in
theorem rangeF_sound (hD : Sat D sat) (hS : Snd P sat S) {g : Operand} {ps : Array Tmp} {as body : Code} {a : AAct} {h : Heap} {k : AExit → AAct → Heap → R} {ρ : Ren} {w : World} {rc : Option Nat} {ca : Act} {Q : Exit → Act → World → Prop}
    (hs : sat (rangeF P D S g ps as body a h k)) (H : HR P.globals.size K w0 ρ h w) (A : AR ρ rc a ca)
    (hk : ∀ ρ' e a' h' ca' w', sat (k e a' h') → Nx ρ h ρ' h' → HR P.globals.size K w0 ρ' h' w' → AR ρ' rc a' ca' → Q (XE e) ca' w') : (Code.rangeFunc g ps as body).wpIn (FF rc) 0 P Q ca w := by
  refine wpIn_rangeFunc fun fn _ => ?_
  -- the common part
  have go : ∀ (a' : AAct) (df : Nat) (h1 : Heap) (ρ1 : Ren) (w1 : World) (mark : List Deferred) (cdf d' : Nat), a'.tmps = a.tmps → a'.rd = a.rd → Nx ρ h ρ1 h1 → HR P.globals.size K w0 ρ1 h1 w1 → AR ρ1 rc a' { ca with defers := mark ++ ca.defers } → ρ1 df = some (cdf, d') →
      (Instr.enterLoop fn ca.tmps ps as body rc).run P w = .ok (w1.heap.size, mark) (w1.alloc (.loop { state := .ready, pending := none, fn, tmps := ca.tmps, params := ps, assign := as, body, defers := cdf })) →
      sat (match a'.ev P.globals.size g with
        | .fn (.func f) first captured =>
          S.ca f (first ++ [.fn (.yield h1.n) [] []] ++ captured) (h1.push (.loop .ready none a'.tmps ps as body df)) fun _ h =>
            match h.get h1.n with
            | some (.loop st pend tmps ps as bd df) =>
              match st with
              | .busy => D.no
              | _ =>
                let h' := h.set h1.n (.loop .exhausted pend tmps ps as bd df)
                match pend with
                | none => k .normal a' h'
                | some .ret => k .ret a' h'
                | some (.exit id) => k (.exit id) a' h'
                | _ => D.no
            | _ => D.no
        | _ => D.no) →
      ∃ (l : Nat) (mark : List Deferred) (w₁ : World) (d : Deferred) (w₁' : World) (f : FuncId) (args : Array Value) (w₂ : World),
      (Instr.enterLoop fn ca.tmps ps as body (FF rc).round).run P w = .ok (l, mark) w₁ ∧
      (resolve ca.eval (rangeCall g l) 0).run P w₁ = .ok d w₁' ∧
      (∀ f', Target.leads P w₁' d.target d.args = some f' → (FF rc).fn f') ∧
      (invoke d.target d.args).run P w₁' = .ok (.enter f args) w₂ ∧
      ((FF rc).depth.isSome = true → 1 ≤ 0) ∧
      CallsIn (FF rc) (0 - 1) P f args w₂ (rangePost (FF rc) 0 P l Q { ca with defers := mark ++ ca.defers }) := by
    intro a' df h1 ρ1 w1 mark cdf d' ht hrd N1 H1 A1 hdf hrun hs
    have hev := A1.ev H1 g
    have hcev : ({ ca with defers := mark ++ ca.defers } : Act).eval g = ca.eval g := by cases g <;> rfl
    rw [hcev] at hev
    split at hs
    · rename_i f first captured hag
      rw [hag] at hev
      generalize hcv : ca.eval g = gv at hev
      cases hev with
      | fn _ _ _ _ vs ws hfr q1 q2 =>
        cases hfr
        obtain ⟨fn', code, f1, f2, f3⟩ := hS.fn _ _ _ _ hs
        obtain ⟨N, n1, n2⟩ := H1.alloc (x := .loop .ready none a'.tmps ps as body df) (ox := .loop { state := .ready, pending := none, fn, tmps := ca.tmps, params := ps, assign := as, body, defers := cdf })
          (fun ρ' b cb hsb hb => ⟨0, _, rfl, rfl, rfl, A1.tmps.mono hsb, rfl, rfl, rfl, ⟨d', hsb.m _ _ hdf⟩, rfl⟩)
        refine ⟨w1.heap.size, mark, _, { target := .fn (.func f) ws, args := vs ++ #[.func (.yield w1.heap.size) #[] #[]] }, w1.alloc (.loop { state := .ready, pending := none, fn, tmps := ca.tmps, params := ps, assign := as, body, defers := cdf }), f, (vs ++ #[.func (.yield w1.heap.size) #[] #[]]) ++ ws, _, hrun, ?_, fun _ _ => trivial, ?_, nodepth rc 0, callsIn_FF (hS.ca f _ _ _ K w0 _ _ _ _ hs n2 ?_ ?_)⟩
        · show (Deferred.ofValue (ca.eval g) _).run P _ = _
          have hm : (rangeCall g w1.heap.size).args.map ca.eval = #[.func (.yield w1.heap.size) #[] #[]] := by simp [rangeCall, Act.eval]
          rw [hcv, hm]; rfl
        · simp only [invoke]; exact run_callFunc f1 f2 f3 _ _
        · rw [Array.toList_append, Array.toList_append]
          refine ((q1.mono n1.sub).append (.cons _ _ _ _ (.fn _ _ _ _ _ _ (.yield _ _ (Ren.put_same _ _ _ _)) .nil .nil) .nil)).append (q2.mono n1.sub)
        · intro ρ2 v h2 cv w2 hs2 N2 H2 _
          have hρ2 : ρ2 h1.n = some (w1.heap.size, 0) := N2.sub.m _ _ (Ren.put_same _ _ _ _)
          split at hs2
          · rename_i st pend tmps2 ps2 as2 bd2 df2 hl2
            obtain ⟨_, L2, m1, m2, m3, m4, m5, m6, m7, m8, m9⟩ := loop_of H2 hl2 hρ2
            obtain ⟨s1, s2⟩ := setLoop H2 hl2 rfl hρ2 m2 { L2 with state := .exhausted } (o := .loop .exhausted pend tmps2 ps2 as2 bd2 df2) ⟨_, rfl, rfl, m4, m5, m6, m7, m8, m9, rfl⟩
            have hend : L2.state ≠ .busy → (Instr.endLoop w1.heap.size).run P w2 = .ok pend { w2 with heap := w2.heap.setIfInBounds w1.heap.size (.loop { L2 with state := .exhausted }) } := by
              intro hb
              have hb' : (L2.state == .busy) = false := by cases hst : L2.state <;> first | rfl | exact absurd hst hb
              simp only [Instr.endLoop, Sem.run_bind, m1, Result.andThen_ok, hb', Bool.false_eq_true, if_false, Sem.run_pure, s1]
              exact congrArg (fun j => Result.ok j _) m4
            have NN : Nx ρ h ρ2 (h2.set h1.n (.loop .exhausted pend tmps2 ps2 as2 bd2 df2)) := (N1.trans (n1.trans N2)).trans (Nx.same (Nat.le_refl _))
            have AA : AR ρ2 rc a' { ca with defers := mark ++ ca.defers } := A1.mono (n1.sub.trans N2.sub)
            split at hs2
            · exact (hD.no hs2).elim
            · rename_i hnb
              dsimp only at hs2
              refine ⟨pend, _, hend (by rw [m3]; exact hnb), ?_⟩
              split at hs2
              · exact hk ρ2 _ a' _ _ _ hs2 NN s2 AA
              · exact wpIn_ret (hk ρ2 _ a' _ _ _ hs2 NN s2 AA)
              · exact wpIn_exit (hk ρ2 _ a' _ _ _ hs2 NN s2 AA)
              · exact (hD.no hs2).elim
          · exact (hD.no hs2).elim
    · exact (hD.no hs).elim
  unfold rangeF at hs
  have hrd := A.rd
  dsimp only at hs
  split at hs
  · rename_i hr
    rw [hr] at hrd
    cases rc with
    | some _ => exact hrd.elim
    | none =>
      obtain ⟨N, n1, n2⟩ := H.alloc (x := .dfr) (ox := .deferred (some [])) (fun ρ' b cb _ _ => ⟨0, rfl, rfl⟩)
      refine go { a with dfs := h.n :: a.dfs } h.n (h.push .dfr) _ (w.alloc (.deferred (some []))) [{ target := .collected w.heap.size, args := #[] }] w.heap.size 0 rfl rfl n1 n2 ?_ (Ren.put_same _ _ _ _) ?_ hs
      · have A' := A.mono n1.sub
        refine ⟨A'.tmps, by simp [A'.len], fun i b hb => ?_, A'.rd⟩
        cases i with
        | zero => simp at hb; subst hb; exact ⟨_, Ren.put_same _ _ _ _, rfl⟩
        | succ i => simpa using A'.dfs i b (by simpa using hb)
      · simp [Instr.enterLoop, run_newObj]
  · rename_i l hr
    rw [hr] at hrd
    cases rc with
    | none => exact hrd.elim
    | some cl =>
      split at hs
      · rename_i st pend tmps2 ps2 as2 bd2 df hl
        obtain ⟨_, L, m1, m2, m3, m4, m5, m6, m7, m8, d', m9⟩ := loop_of H hl hrd
        refine go a df h ρ w [] L.defers d' rfl rfl (Nx.refl _ _) H A m9 ?_ hs
        simp [Instr.enterLoop, run_newObj, m1]
      · exact (hD.no hs).elim


set_option maxHeartbeats 1000000 in
theorem exF_sound_noloop (hD : Sat D sat) (hS : Snd P sat S) (hm : P.follows .mixedOrders = true) (c : Code) (hc : ∀ c', c ≠ .loop c') (a : AAct) (h : Heap) (k : AExit → AAct → Heap → R) (K : Nat → Prop) (w0 : World) (ρ : Ren) (w : World) (rc : Option Nat) (ca : Act) (Q : Exit → Act → World → Prop)
    (hs : sat (exF P D S c a h k)) (H : HR P.globals.size K w0 ρ h w) (A : AR ρ rc a ca)
    (hk : ∀ ρ' e a' h' ca' w', sat (k e a' h') → Nx ρ h ρ' h' → HR P.globals.size K w0 ρ' h' w' → AR ρ' rc a' ca' → Q (XE e) ca' w') : c.wpIn (FF rc) 0 P Q ca w := by
  cases c with
  | skip => exact wpIn_skip (hk ρ _ a h ca w hs (Nx.refl _ _) H A)
  | label l => exact wpIn_label (hk ρ _ a h ca w hs (Nx.refl _ _) H A)
  | region id ops draw =>
    simp only [exF] at hs
    cases draw with
    | true =>
      rw [if_pos rfl] at hs
      split at hs
      · rename_i hd
        exact draw_sound hD hS hm hd hs H A fun ρ' a' h' ca' w' b1 b2 b3 b4 => hk ρ' _ a' h' ca' w' b1 b2 b3 b4
      · exact (hD.no hs).elim
    | false =>
      rw [if_neg (by simp)] at hs
      exact wpIn_region_list (opsF_sound hD hS (fun ρ' a' h' ca' w' b1 b2 b3 b4 => hk ρ' _ a' h' ca' w' b1 b2 b3 b4) ops.toList a h ca w ρ hs (Nx.refl _ _) H A)
  | seq x y =>
    refine wpIn_seq (hS.ex x a h _ K w0 ρ w rc ca _ hs H A ?_)
    intro ρ1 e a1 h1 ca1 w1 hs1 N1 H1 A1
    cases e with
    | normal => exact hS.ex y a1 h1 k K w0 ρ1 w1 rc ca1 Q hs1 H1 A1 fun ρ' e a' h' ca' w' b1 b2 b3 b4 => hk ρ' e a' h' ca' w' b1 (N1.trans b2) b3 b4
    | exit id => exact hk ρ1 _ a1 h1 ca1 w1 hs1 N1 H1 A1
    | goto l => exact hk ρ1 _ a1 h1 ca1 w1 hs1 N1 H1 A1
    | ret => exact hk ρ1 _ a1 h1 ca1 w1 hs1 N1 H1 A1
  | cond c x y =>
    simp only [exF] at hs
    have hv := A.ev H c
    split at hs
    · rename_i b hb
      rw [hb] at hv
      generalize hcv : ca.eval c = cv at hv
      cases hv
      exact wpIn_cond hcv (hS.ex _ a h k K w0 ρ w rc ca Q hs H A hk)
    · exact (hD.no hs).elim
  | block id c =>
    refine wpIn_block (hS.ex c a h _ K w0 ρ w rc ca _ hs H A ?_)
    intro ρ1 e a1 h1 ca1 w1 hs1 N1 H1 A1
    cases e with
    | normal => exact hk ρ1 _ a1 h1 ca1 w1 hs1 N1 H1 A1
    | exit j =>
      dsimp only at hs1
      show Exit.inBlock id Q (.exit j) ca1 w1
      simp only [Exit.inBlock]
      split at hs1
      · rename_i hj; rw [if_pos hj]; exact hk ρ1 _ a1 h1 ca1 w1 hs1 N1 H1 A1
      · rename_i hj; rw [if_neg hj]; exact hk ρ1 _ a1 h1 ca1 w1 hs1 N1 H1 A1
    | goto l => exact hk ρ1 _ a1 h1 ca1 w1 hs1 N1 H1 A1
    | ret => exact hk ρ1 _ a1 h1 ca1 w1 hs1 N1 H1 A1
  | loop c => exact absurd rfl (hc c)
  | exit id => exact wpIn_exit (hk ρ _ a h ca w hs (Nx.refl _ _) H A)
  | ret => exact wpIn_ret (hk ρ _ a h ca w hs (Nx.refl _ _) H A)
  | rangeFunc g ps as body => exact rangeF_sound hD hS hs H A hk
  | _ => exact (hD.no hs).elim


theorem exF_sound (hD : Sat D sat) (hS : Snd P sat S) (hL : LSnd P sat S) (hm : P.follows .mixedOrders = true) (c : Code) (a : AAct) (h : Heap) (k : AExit → AAct → Heap → R) (K : Nat → Prop) (w0 : World) (ρ : Ren) (w : World) (rc : Option Nat) (ca : Act) (Q : Exit → Act → World → Prop)
    (hs : sat (exF P D S c a h k)) (H : HR P.globals.size K w0 ρ h w) (A : AR ρ rc a ca)
    (hk : ∀ ρ' e a' h' ca' w', sat (k e a' h') → Nx ρ h ρ' h' → HR P.globals.size K w0 ρ' h' w' → AR ρ' rc a' ca' → Q (XE e) ca' w') : c.wpIn (FF rc) 0 P Q ca w := by
  by_cases hc : ∃ c', c = .loop c'
  · obtain ⟨c', rfl⟩ := hc
    exact (loop_sound (D := D) hS hL c' a h k K w0 ρ w rc ca Q hs H A hk).wp
  · exact exF_sound_noloop hD hS hm c (fun c' e => hc ⟨c', e⟩) a h k K w0 ρ w rc ca Q hs H A hk

end
end Go.Am

/- The abstract machine, part 6: the operations that only compute, as the model has them. -/
import Derived.Test.YtpanggiejiommaaGreatAm5
namespace Go.Am
set_option autoImplicit false
set_option linter.all false

section
variable {P : Program} {ρ : Ren}

def sV : AV → Value
  | .int k n => .int k n
  | .bool b => .bool b
  | _ => undef

theorem intA_run {op : BinOp} {k : IntKind} {x y : Int} {r : AV} (h : intA op k x y = some r) (t : TypeId) (ox oy : Operand) :
    ∃ r', (∀ w, (do eqGuard op t ox oy (.int k x) (.int k y); binOp op t (.int k x) (.int k y) : Sem Value).run P w = .ok r' w) ∧ VR ρ r r' := by
  refine ⟨sV r, fun w => ?_, ?_⟩
  · cases op <;> simp only [intA, cmpI, bitsA, Option.map_some, Option.some.injEq, reduceCtorEq] at h <;>
      first
        | (subst h; simp [eqGuard, binOp, Op.intArith, Op.intCmp, Op.intBits, sV]; done)
        | (by_cases hy : y = 0
           · simp [hy] at h
           · simp only [hy, if_false, Option.some.injEq] at h
             subst h
             simp [eqGuard, binOp, Op.intDiv, sV, hy])
  · cases op <;> simp only [intA, cmpI, bitsA, Option.map_some, Option.some.injEq, reduceCtorEq] at h <;>
      first
        | (subst h; constructor; done)
        | (by_cases hy : y = 0
           · simp [hy] at h
           · simp only [hy, if_false, Option.some.injEq] at h
             subst h
             constructor)

theorem shiftA_run {op : BinOp} {k yk : IntKind} {x y : Int} {r : AV} (h : shiftA op k x y = some r) (t : TypeId) (ox oy : Operand) :
    ∃ r', (∀ w, (do eqGuard op t ox oy (.int k x) (.int yk y); binOp op t (.int k x) (.int yk y) : Sem Value).run P w = .ok r' w) ∧ VR ρ r r' := by
  unfold shiftA at h
  by_cases hy : y < 0
  · simp [hy] at h
  · simp only [hy, if_false] at h
    refine ⟨sV r, fun w => ?_, ?_⟩ <;> cases op <;> simp only [Option.some.injEq, reduceCtorEq] at h <;> subst h
    · simp [eqGuard, binOp, Op.shift, sV, hy]
    · simp [eqGuard, binOp, Op.shift, sV, hy]
    · constructor
    · constructor

theorem strA_run {op : BinOp} {x y : ByteArray} {r : AV} (h : strA op x.data.toList y.data.toList = some r) (t : TypeId) (ox oy : Operand) :
    ∃ r', (∀ w, (do eqGuard op t ox oy (.string x) (.string y); binOp op t (.string x) (.string y) : Sem Value).run P w = .ok r' w) ∧ VR ρ r r' := by
  cases op <;> simp only [strA, Option.some.injEq, reduceCtorEq] at h
  case add =>
    split at h
    · rename_i hl
      simp only [Option.some.injEq] at h
      subst h
      refine ⟨.string (x ++ y), fun w => ?_, ?_⟩
      · have hl' : ¬ ((x.size + y.size : Nat) : Int) > IntKind.i64.max := by
          rw [IntKind.max_i64]
          have e1 : x.data.toList.length = x.size := Array.length_toList
          have e2 : y.data.toList.length = y.size := Array.length_toList
          rw [e1, e2] at hl
          omega
        simp only [eqGuard, binOp, Op.stringOp, if_neg hl', Sem.run_bind]
        simp
      · have := VR.str (ρ := ρ) (x ++ y)
        simpa using this
    · cases h
  all_goals
    refine ⟨sV r, fun w => ?_, ?_⟩ <;> subst h
    · simp [eqGuard, binOp, Op.stringOp, ByteArray.toList_eq, sV]
    · constructor

theorem bitsA_run {op : BinOp} {k : IntKind} {x y n : Int} (h : bitsA op k x y = some n) (w : World) : (Op.intBits op k x y).run P w = .ok (.int k n) w := by
  cases op <;> simp only [bitsA, Option.some.injEq, reduceCtorEq] at h <;> (subst h; simp [Op.intBits])

theorem unA_run {op : UnOp} {x : AV} {x' : Value} {r : AV} (h : unA op x = some r) (hx : VR ρ x x') : ∃ r', (∀ w, (Op.unary op x').run P w = .ok r' w) ∧ VR ρ r r' := by
  cases op <;> cases hx <;> simp only [unA, Option.map_eq_some_iff, Option.some.injEq, reduceCtorEq] at h
  case neg.int k n => exact ⟨sV r, fun w => by subst h; rfl, by subst h; exact .int _ _⟩
  case xor.int k n => obtain ⟨m, hm, rfl⟩ := h; exact ⟨_, fun w => by simp only [Op.unary]; exact bitsA_run hm w, .int _ _⟩
  case not.bool b => exact ⟨sV r, fun w => by subst h; rfl, by subst h; exact .bool _⟩

theorem run_eqlOf {t : TypeId} {x y : Value} {r : Bool} (ox oy : Operand) (hg : ∀ w, (eqGuard .eql t ox oy x y).run P w = .ok () w) (hb : binOp .eql t x y = do pure (.bool (← Op.equal t x y)))
    (h : ∀ w, (Op.equal t x y).run P w = .ok r w) (w : World) : (do eqGuard .eql t ox oy x y; binOp .eql t x y : Sem Value).run P w = .ok (.bool r) w := by
  rw [hb]
  simp [hg w, h w]
theorem run_neqOf {t : TypeId} {x y : Value} {r : Bool} (ox oy : Operand) (hg : ∀ w, (eqGuard .neq t ox oy x y).run P w = .ok () w) (hb : binOp .neq t x y = do pure (.bool (!(← Op.equal t x y))))
    (h : ∀ w, (Op.equal t x y).run P w = .ok r w) (w : World) : (do eqGuard .neq t ox oy x y; binOp .neq t x y : Sem Value).run P w = .ok (.bool !r) w := by
  rw [hb]
  simp [hg w, h w]

set_option maxHeartbeats 2000000 in
/-- '==' where one side is nil, and of bools. -/
theorem eqNil_run {t : TypeId} {x y : AV} {x' y' : Value} {r : Bool} (h : eqA P t x y = some r) (hx : VR ρ x x') (hy : VR ρ y y') (hni : ∀ k n, x ≠ .int k n) (hns : ∀ s, x ≠ .str s) (hna : ∀ s, x ≠ .agg s) (d : Nat) (hd : d ≠ 0) (w : World) :
    (Op.equalIn (d + 1) t x' y').run P w = .ok r w := by
  cases hx <;> cases hy <;> simp only [eqA, reduceCtorEq] at h
  case int.int k n k' n' => exact absurd rfl (hni _ _)
  case str.str => exact absurd rfl (hns _)
  case agg.agg => exact absurd rfl (hna _)
  case iface.iface tx vx vx' hvx ty vy vy' hvy =>
    split at h
    · rename_i ms hu
      split at h
      · rename_i htt
        subst htt
        split at h
        · rename_i k a k' b _ hux
          split at h
          · rename_i hc
            obtain ⟨hkk, hcmp⟩ := hc
            subst hkk
            simp only [Option.some.injEq] at h
            subst h
            cases hvx
            cases hvy
            unfold comparT at hcmp
            split at hcmp
            · rename_i i hi
              cases d with
              | zero => exact absurd rfl (hd)
              | succ d => simp [Op.equalIn, run_underlying hu, run_underlying hux, typeInfo, hi, hcmp]
            · cases hcmp
          · cases h
        · cases h
      · rename_i htt
        simp only [Option.some.injEq] at h
        subst h
        simp [Op.equalIn, run_underlying hu, htt]
    · cases h
  case ptr.ptr b o cb dd hρ b' o' cb' dd' hρ' =>
    split at h
    · rename_i u hu
      split at h
      · rename_i hc
        obtain ⟨rfl, rfl, hs⟩ := hc
        cases h
        rw [hρ] at hρ'
        cases hρ'
        obtain ⟨sz, hsz⟩ := Option.isSome_iff_exists.1 hs
        by_cases h0 : sz = 0
        · simp [Op.equalIn, run_underlying hu, run_sizeT hsz, h0]
        · simp [Op.equalIn, run_underlying hu, run_sizeT hsz, h0, sameAddr]
      · cases h
    · cases h
  all_goals
    split at h
    · rename_i hu
      simp only [Option.some.injEq] at h
      subst h
      simp [Op.equalIn, run_underlying hu]
    · cases h

theorem guard_one (op : BinOp) (t : TypeId) (ox oy : Operand) {x y : AV} {x' y' : Value} {r : Bool} (h : eqA P t x y = some r) (hx : VR ρ x x') (hy : VR ρ y y') (hna : ∀ s, x ≠ .agg s) (w : World) :
    (eqGuard op t ox oy x' y').run P w = .ok () w := by
  cases hx <;> cases hy <;> simp only [eqA, reduceCtorEq] at h
  case agg.agg => exact absurd rfl (hna _)
  all_goals (unfold eqGuard; split <;> rfl)

/-- '==' on all but whole numbers and strings. -/
theorem eqA_run {t : TypeId} {x y : AV} {x' y' : Value} {r : Bool} (h : eqA P t x y = some r) (hx : VR ρ x x') (hy : VR ρ y y') (hni : ∀ k n, x ≠ .int k n) (hns : ∀ s, x ≠ .str s) (ox oy : Operand) :
    (∀ w, (do eqGuard .eql t ox oy x' y'; binOp .eql t x' y' : Sem Value).run P w = .ok (.bool r) w) ∧ (∀ w, (do eqGuard .neq t ox oy x' y'; binOp .neq t x' y' : Sem Value).run P w = .ok (.bool !r) w) := by
  have hb : binOp .eql t x' y' = (do pure (.bool (← Op.equal t x' y'))) ∧ binOp .neq t x' y' = (do pure (.bool (!(← Op.equal t x' y')))) := by
    cases hx <;> cases hy <;> first | exact ⟨rfl, rfl⟩ | exact absurd rfl (hni _ _) | exact absurd rfl (hns _) | (simp only [eqA, reduceCtorEq] at h)
  by_cases hag : ∃ s, x = .agg s
  · obtain ⟨xs, rfl⟩ := hag
    cases hx with
    | agg _ vs hv =>
      cases hy <;> simp only [eqA, reduceCtorEq] at h
      case agg ys us hu =>
        split at h
        · rename_i hc
          obtain ⟨hagg, hg⟩ := hc
          cases hk : kindsT P 8 t with
          | none => rw [hk] at h; cases h
          | some ks =>
            rw [hk] at h
            simp only [eqK] at h
            split at h
            · rename_i hl
              have e : ∀ w, (Op.equal t (.agg vs) (.agg us)).run P w = .ok r w := fun w => by
                have := (eqT 8 t ks 10000 hk (by omega)).2.2.2 xs ys vs.toList us.toList r w hv hu hl.1 hl.2 h
                rw [mkV_agg hagg, mkV_agg hagg] at this
                exact this
              exact ⟨run_eqlOf ox oy (fun w => run_eqGuard_agg w _ t ox oy vs us hg) hb.1 e, run_neqOf ox oy (fun w => run_eqGuard_agg w _ t ox oy vs us hg) hb.2 e⟩
            · cases h
        · cases h
  · have hna : ∀ s, x ≠ .agg s := fun s hs => hag ⟨s, hs⟩
    have e : ∀ w, (Op.equal t x' y').run P w = .ok r w := fun w => eqNil_run h hx hy hni hns hna 9999 (by decide) w
    exact ⟨run_eqlOf ox oy (guard_one .eql t ox oy h hx hy hna) hb.1 e, run_neqOf ox oy (guard_one .neq t ox oy h hx hy hna) hb.2 e⟩

theorem isK_guard (op : BinOp) (t : TypeId) (ox oy : Operand) (h : (isK ox || isK oy) = true) : eqGuard op t ox oy .nilIface .nilIface = pure () := by
  cases ox <;> cases oy <;> simp [isK] at h <;> cases op <;> rfl

theorem eqOp_cases {op : BinOp} {q : Option Bool} {r : AV} (h : eqOp op q = some r) : ∃ b, q = some b ∧ ((op = .eql ∧ r = .bool b) ∨ (op = .neq ∧ r = .bool !b)) := by
  cases op <;> simp only [eqOp, Option.map_eq_some_iff, reduceCtorEq] at h
  · obtain ⟨b, hb, rfl⟩ := h; exact ⟨b, hb, .inl ⟨rfl, rfl⟩⟩
  · obtain ⟨b, hb, rfl⟩ := h; exact ⟨b, hb, .inr ⟨rfl, rfl⟩⟩

theorem binEq_run {op : BinOp} {t : TypeId} {ox oy : Operand} {x y : AV} {x' y' : Value} {r : AV} (h : eqOp op (eqA P t x y) = some r) (hx : VR ρ x x') (hy : VR ρ y y')
    (hni : ∀ k n, x ≠ .int k n) (hns : ∀ s, x ≠ .str s) :
    ∃ r', (∀ w, (do eqGuard op t ox oy x' y'; binOp op t x' y' : Sem Value).run P w = .ok r' w) ∧ VR ρ r r' := by
  obtain ⟨b, hb, ⟨rfl, rfl⟩ | ⟨rfl, rfl⟩⟩ := eqOp_cases h
  · exact ⟨_, (eqA_run hb hx hy hni hns ox oy).1, .bool _⟩
  · exact ⟨_, (eqA_run hb hx hy hni hns ox oy).2, .bool _⟩

theorem eqlNil_run (t : TypeId) (ms : Array (String × TypeId)) (hu : P.underlying t = some (.interface ms)) (w : World) : (Op.equal t .nilIface .nilIface).run P w = .ok true w := by
  have e : ∀ d, (Op.equalIn (d + 1) t .nilIface .nilIface).run P w = .ok true w := fun d => by simp [Op.equalIn, run_underlying hu]
  exact e 9999

theorem nilEq_run {op : BinOp} {t : TypeId} {ox oy : Operand} {r : AV} (h : eqOp op (nilEq P t ox oy) = some r) :
    ∃ r', (∀ w, (do eqGuard op t ox oy .nilIface .nilIface; binOp op t .nilIface .nilIface : Sem Value).run P w = .ok r' w) ∧ VR ρ r r' := by
  obtain ⟨b, hb, hop⟩ := eqOp_cases h
  unfold nilEq at hb
  by_cases hk : (isK ox || isK oy) = true
  · simp only [hk, if_true] at hb
    split at hb
    · rename_i ms hu
      simp only [Option.some.injEq] at hb
      subst hb
      rcases hop with ⟨rfl, rfl⟩ | ⟨rfl, rfl⟩
      · refine ⟨.bool true, fun w => ?_, .bool _⟩
        rw [isK_guard _ t ox oy hk]
        have hb : binOp .eql t .nilIface .nilIface = (do pure (.bool (← Op.equal t .nilIface .nilIface))) := rfl
        rw [hb]
        simp [eqlNil_run t ms hu w]
      · refine ⟨.bool false, fun w => ?_, .bool _⟩
        rw [isK_guard _ t ox oy hk]
        have hb : binOp .neq t .nilIface .nilIface = (do pure (.bool (!(← Op.equal t .nilIface .nilIface)))) := rfl
        rw [hb]
        simp [eqlNil_run t ms hu w]
    · cases hb
  · simp [hk] at hb

theorem binA_run {op : BinOp} {t : TypeId} {ox oy : Operand} {x y : AV} {x' y' : Value} {r : AV} (h : binA P op t ox oy x y = some r) (hx : VR ρ x x') (hy : VR ρ y y') :
    ∃ r', (∀ w, (do eqGuard op t ox oy x' y'; binOp op t x' y' : Sem Value).run P w = .ok r' w) ∧ VR ρ r r' := by
  unfold binA at h
  split at h
  · split at h
    · cases hx; cases hy
      split at h
      · exact shiftA_run h t ox oy
      · split at h
        · rename_i hk; subst hk; exact intA_run h t ox oy
        · cases h
    · cases h
  · split at h
    · cases hx; cases hy
      exact strA_run h t ox oy
    · cases h
  · split at h
    · cases hx; cases hy
      exact nilEq_run h
    · exact binEq_run h hx hy (fun _ _ => by simp) (fun _ => by simp)
  · rename_i h1 h2 h3
    exact binEq_run h hx hy (fun k n e => h1 k n e) (fun s e => h2 s e)

end
end Go.Am

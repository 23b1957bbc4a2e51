/- The abstract machine, part 24: rules for walks over its memory. -/
import Derived.Test.YtpanggiejiommaaGreatAm23
namespace Go.Am
set_option autoImplicit false
set_option linter.all false
open Go

section
variable {P : Program} {a : AAct} {h : Heap} {k : AExit → AAct → Heap → Prop}

/-- What stands behind the first part of a sequence. -/
def thenA (P : Program) (y : Code) (k : AExit → AAct → Heap → Prop) : AExit → AAct → Heap → Prop := fun e a h => match e with | .normal => AWp P y a h k | e => k e a h
def inBlockA (id : Nat) (k : AExit → AAct → Heap → Prop) : AExit → AAct → Heap → Prop := fun e a h => match e with | .exit j => if j = id then k .normal a h else k (.exit j) a h | e => k e a h

theorem AWp.skip (hm : P.follows .mixedOrders = true) (hk : k .normal a h) : AWp P .skip a h k := AWp.step hm (by simp) hk
theorem AWp.ret (hm : P.follows .mixedOrders = true) (hk : k .ret a h) : AWp P .ret a h k := AWp.step hm (by simp) hk
theorem AWp.exit (hm : P.follows .mixedOrders = true) {id : Nat} (hk : k (.exit id) a h) : AWp P (.exit id) a h k := AWp.step hm (by simp) hk
theorem AWp.seq (hm : P.follows .mixedOrders = true) {x y : Code} (hs : AWp P x a h (thenA P y k)) : AWp P (.seq x y) a h k := AWp.step hm (by simp) hs
theorem AWp.block (hm : P.follows .mixedOrders = true) {id : Nat} {c : Code} (hs : AWp P c a h (inBlockA id k)) : AWp P (.block id c) a h k := AWp.step hm (by simp) hs
theorem AWp.cond (hm : P.follows .mixedOrders = true) {c : Operand} {x y : Code} {b : Bool} (hc : a.ev P.globals.size c = .bool b) (ht : b = true → AWp P x a h k) (hf : b = false → AWp P y a h k) : AWp P (.cond c x y) a h k := by
  refine AWp.step hm (by simp) ?_
  show (match a.ev P.globals.size c with | .bool b => AWp P (if b then x else y) a h k | _ => False)
  rw [hc]
  cases b
  · exact hf rfl
  · exact ht rfl
theorem AWp.region (hm : P.follows .mixedOrders = true) {id : Nat} {ops : Array Oper} (hs : opsF P DProp (SM P) ops ops.toList a h (k .normal)) : AWp P (.region id ops false) a h k := AWp.step hm (by simp) hs
theorem AWp.regionDraw (hm : P.follows .mixedOrders = true) {id : Nat} {ops : Array Oper} (hd : drawOk ops = true) (hs : drawF P DProp (SM P) ops (canon ops) [] a h (k .normal)) : AWp P (.region id ops true) a h k := by
  refine AWp.step hm (by simp) ?_
  show exF P DProp (SM P) (.region id ops true) a h k
  simp only [exF, if_true, hd]
  exact hs

end
end Go.Am

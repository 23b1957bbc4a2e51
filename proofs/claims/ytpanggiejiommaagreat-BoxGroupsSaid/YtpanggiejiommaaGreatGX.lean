/- The examples that each law asks first: run by the machine, in the kernel. -/
import Derived.Test.YtpanggiejiommaaGreatAm21
import Derived.Test.YtpanggiejiommaaGreatChecked
import Derived.KernelRfl
namespace Go.Proofs.YtpanggiejiommaaGreat
open Go Go.Am
set_option autoImplicit false
set_option linter.all false
theorem follows_x : Tryz.prog.follows .mixedOrders = true := by kernel_rfl
set_option maxRecDepth 1000000 in
theorem alive_run : (sm Tryz.prog DBool 100000).ca 5 [] (Heap.new Tryz.prog.globals.size) (fun v _ => v.shut && (match v with | .bool b => b | _ => false)) = true := by kernel_rfl

theorem alive_ok (h : Heap) : ACa Tryz.prog 5 [] h fun v h' => v = .bool true ∧ h' = h :=
  (ACa.closed follows_x (Ground.new _ h) rfl alive_run).mono fun v h' _ hv => by
    refine ⟨?_, hv.2⟩
    have := hv.1
    cases v <;> simp at this
    subst this; rfl
end Go.Proofs.YtpanggiejiommaaGreat

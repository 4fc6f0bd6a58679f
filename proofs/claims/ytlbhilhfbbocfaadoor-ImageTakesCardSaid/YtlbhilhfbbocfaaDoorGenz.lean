import Derived.Test.YtlbhilhfbbocfaaDoorGena
import Derived.Test.YtlbhilhfbbocfaaDoorVe

set_option linter.unusedVariables false
namespace Go.Proofs.YtlbhilhfbbocfaaDoor.G
open Go Go.VC Go.Proofs Go.Proofs.YtlbhilhfbbocfaaDoor
set_option maxRecDepth 100000

/- nacelle/fault.In -/
def F_fault_In0 (at_ : Int) (w : World) (Q : Value → World → Prop) : Prop :=
  runG (.bool) Tryd.prog w (do eqGuard .eql T_error (.tmp 5) (.const (.nilIface)) (.nilIface) (.nilIface); binOp .eql T_error (.nilIface) (.nilIface)) fun b1 w2 =>
  cond (b1)
  (Q (.nilIface) w2)
  (Does Tryd.prog N_fault_Code #[.nilIface] w2 fun r3 w4 => ∃ x5 : Int, r3 = .int .i64 (x5) ∧
   allocK w4 (#[.int .i64 (x5), .int .i64 (at_), .nilIface]) T_fault_Fault fun a6 w7 =>
   Q (.iface T_p_fault_Fault (.pointer (some (a6)))) w7)
def A_fault_In0 : Ann := ⟨[], [], []⟩
theorem F_fault_In0_eq (at_ : Int) (w : World) (Q : Value → World → Prop) : vcFn Tryd.prog A_fault_In0 Tryd.f44 #[.nilIface, .int .i64 (at_)] w Q = F_fault_In0 at_ w Q := by kernel_rfl
theorem F_fault_In0_does (at_ : Int) (w : World) (Q : Value → World → Prop) (hQ : F_fault_In0 at_ w Q) : Does Tryd.prog N_fault_In #[.nilIface, .int .i64 (at_)] w Q :=
  vcFn_sound noAsk mixed (A := A_fault_In0) (by kernel_rfl) Tryd.func44 (Nat.le_of_ble_eq_true (by kernel_rfl)) (by kernel_rfl) ((F_fault_In0_eq at_ w Q).mpr hQ)

end Go.Proofs.YtlbhilhfbbocfaaDoor.G

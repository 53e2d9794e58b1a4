/- math.Float64bits and math.Float64frombits: functions without a body, as the model has them. -/
import Derived.Test.YtjlfkdopkhejbaaDoorProg
import Derived.WalkKit
import Derived.KernelRfl
import Derived.Laws.Entries
namespace Go.Proofs.YtjlfkdopkhejbaaDoor
open Go.RowKit

theorem frombits_call (x : Nat) (w : World) : (callFunc 33 #[.int .u64 (x : Int)]).run Tryd.prog w = .ok (.value (.float .f64 x)) w :=
  run_callFunc_extern (e := Extern.MathFloatBits.float64frombits) Tryd.func33 (by kernel_rfl) (by kernel_rfl) (by kernel_rfl) (by kernel_rfl) #[.int .u64 (x : Int)] w
theorem tobits_call (x : Nat) (w : World) : (callFunc 35 #[.float .f64 x]).run Tryd.prog w = .ok (.value (.int .u64 (x : Int))) w :=
  run_callFunc_extern (e := Extern.MathFloatBits.float64bits) Tryd.func35 (by kernel_rfl) (by kernel_rfl) (by kernel_rfl) (by kernel_rfl) #[.float .f64 x] w

theorem run_store_float (P : Program) (w : World) (a : Addr) (m : Mode) (k : FloatKind) (b : Nat) : (store a (.float k b) m).run P w = stored P w a (.float k b) m := run_store P w a _ m rfl

end Go.Proofs.YtjlfkdopkhejbaaDoor

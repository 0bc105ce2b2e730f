/- Walks: the machine's own functions, Abs, number. -/
import Derived.Test.YtneidejngbokcaaRows
import Derived.Test.YtneidejngbokcaaM
import Derived.Stop.CallBack
namespace Go.Proofs.Ytneidejngbokcaa
open Go.RowKit

@[go_sem] theorem call62 (args : Array Value) (w : World) : (callFunc 62 args).run Try.prog w = ((Extern.MathFloatBits.float64bits args).run Try.prog w).andThen fun v w' => .ok (.value v) w' :=
  run_callFunc_extern Try.func62 (by kernel_rfl) (by kernel_rfl) (by kernel_rfl) (by kernel_rfl) args w

@[go_sem] theorem call61 (args : Array Value) (w : World) : (callFunc 61 args).run Try.prog w = ((Extern.MathFloatBits.float64frombits args).run Try.prog w).andThen fun v w' => .ok (.value v) w' :=
  run_callFunc_extern Try.func61 (by kernel_rfl) (by kernel_rfl) (by kernel_rfl) (by kernel_rfl) args w

@[go_sem] theorem run_bits (x : Nat) (w : World) : (Extern.MathFloatBits.float64bits #[.float .f64 x]).run Try.prog w = .ok (.int .u64 x) w := rfl
@[go_sem] theorem run_frombits (x : Int) (w : World) : (Extern.MathFloatBits.float64frombits #[.int .u64 x]).run Try.prog w = .ok (.float .f64 x.toNat) w := rfl

set_option maxHeartbeats 1000000 in
theorem Abs_at (w : World) (x : Nat) : Calls Try.prog 48 #[.float .f64 x] w fun e w' => e = .returned (.float .f64 (bits .andNot .u64 (x : Int) 9223372036854775808).toNat) ∧ w = w' := by
  go_enter Try.func48, Try.ntmps48
  go_wp2_with fail
  go_ret
  exact ⟨rfl, rfl⟩

end Go.Proofs.Ytneidejngbokcaa

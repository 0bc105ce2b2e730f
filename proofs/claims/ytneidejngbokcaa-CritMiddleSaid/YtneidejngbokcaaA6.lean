/- Walks: Floor. -/
import Derived.Test.YtneidejngbokcaaA4
namespace Go.Proofs.Ytneidejngbokcaa
open Go.RowKit

@[go_sem] theorem call71 (args : Array Value) (w : World) : (callFunc 71 args).run Try.prog w = ((Extern.MathFloor.toIntegral "math.archFloor" .down args).run Try.prog w).andThen fun v w' => .ok (.value v) w' :=
  run_callFunc_extern Try.func71 (by kernel_rfl) (by kernel_rfl) (by kernel_rfl) (by kernel_rfl) args w

/-- A float made whole. -/
def flr (x : Nat) : Nat := FloatKind.f64.encode ((FloatKind.f64.decode x).integral .down)

theorem run_floor {P : Program} (w : World) (x : Nat) (h : isN x = false) : (Extern.MathFloor.toIntegral "math.archFloor" .down #[.float .f64 x]).run P w = .ok (.float .f64 (flr x)) w := by
  have hr : ∀ s t, FloatKind.f64.decode x ≠ .nan s t := read_ok h
  unfold flr
  show (match FloatKind.f64.decode x with
    | .nan s t => if FloatKind.f64.format.quiet t = t then pure (.float .f64 x) else do
      let kept ← choose (.extern "math.Floor,Ceil,Trunc,RoundToEven.signallingNaN kept" 2)
      pure (.float .f64 (if kept == 1 then x else FloatKind.f64.encode (.nan s (FloatKind.f64.format.quiet t))))
    | d => pure (.float .f64 (FloatKind.f64.encode (d.integral .down))) : Sem Value).run P w = _
  generalize FloatKind.f64.decode x = d at *
  cases d with
  | nan s t => exact absurd rfl (hr s t)
  | number s m i => rfl
  | infinity s => rfl

set_option maxHeartbeats 1000000 in
theorem Floor_at (w : World) (x : Nat) (h : isN x = false) : Calls Try.prog 65 #[.float .f64 x] w fun e w' => e = .returned (.float .f64 (flr x)) ∧ w = w' := by
  have hr := fun w => run_floor (P := Try.prog) w x h
  go_enter Try.func65, Try.ntmps65
  go_wp2_with fail
  go_ret
  exact ⟨rfl, rfl⟩
end Go.Proofs.Ytneidejngbokcaa

/- Sets that are not valid: what the other methods return. -/
import Derived.Test.YtiaddgagncmbeaaW13
namespace Go.Proofs.Ytiaddgagncmbeaa
open Go.RowKit

/-- v is a pointer to sets that are not valid, in w and in whatever world w comes to. -/
def Bad (w : World) (v : Value) : Prop := ∀ w', Same' w w' → Calls Try.prog 30 #[v] w' fun e w'' => e = .returned (.bool false) ∧ w' = w''

theorem Bad.nil (w : World) : Bad w (.pointer none) := fun w' _ => valid_nil w'

theorem Bad.zero {w : World} {b : Nat} (h : w.cell? ⟨b, 0, none⟩ = some (.bool false)) : Bad w (.pointer (some ⟨b, 0, none⟩)) := fun w' hf =>
  valid_at b false w' ((hf.cell (block_lt_of_cell h) (fun h => h)).trans h)

theorem Bad.then {w w' : World} {v : Value} (h : Bad w v) (hf : Same' w w') : Bad w' v := fun w'' hf' => h w'' (hf.trans hf')

set_option maxHeartbeats 400000 in
theorem Trial_not (v : Value) (w : World) (ao : Option Addr) (m c : Nat) (hv : Bad w v) :
    Calls Try.prog 26 #[v, .slice ao m c] w fun e w' => e = .returned (.tuple #[.agg #[.int .i64 0, .int .i64 0, .int .i64 0], .int .i64 1]) ∧ Same' w w' := by
  have HV := hide (hv _ ((Fr.refl _ w).alloc (.cells #[.int .i64 0, .int .i64 0, .int .i64 0] 52)))
  clear hv
  go_enter_defers Try.func26, Try.ntmps26
  go_wp2_with (go_at_call 30; refine HV.out.mono ?_; rintro e w' ⟨rfl, rfl⟩)
  refine ⟨.tuple #[.agg #[.int .i64 0, .int .i64 0, .int .i64 0], .int .i64 1], ?_, rfl, (Fr.refl _ w).alloc _⟩
  simp [results, Try.results26, go_sem]

set_option maxHeartbeats 400000 in
theorem Same_not (v : Value) (w : World) (a b : Int) (hv : Bad w v) : Calls Try.prog 21 #[v, .int .i64 a, .int .i64 b] w fun e w' => e = .returned (.bool false) ∧ Same' w w' := by
  have c := has_bad v (w.alloc (.cells #[.int .i64 a, .int .i64 b] 3)) w.heap.size 2 2 (.int .i64 a) (by omega) (by omega) (World.cell?_alloc_new w _ 3 0) (hv _ ((Fr.refl _ w).alloc _))
  have C := hide c
  clear c hv
  go_enter Try.func21, Try.ntmps21
  go_wp2_with (go_at_call 38; refine C.out.mono ?_; rintro e w' ⟨rfl, rfl⟩)
  go_ret
  exact ⟨rfl, (Fr.refl _ w).alloc _⟩

set_option maxHeartbeats 400000 in
theorem Size_not (v : Value) (w : World) (a : Int) (hv : Bad w v) : Calls Try.prog 22 #[v, .int .i64 a] w fun e w' => e = .returned (.int .i64 0) ∧ Same' w w' := by
  have c := has_bad v (w.alloc (.cells #[.int .i64 a] 3)) w.heap.size 1 1 (.int .i64 a) (by omega) (by omega) (World.cell?_alloc_new w _ 3 0) (hv _ ((Fr.refl _ w).alloc _))
  have C := hide c
  clear c hv
  go_enter Try.func22, Try.ntmps22
  go_wp2_with (go_at_call 38; refine C.out.mono ?_; rintro e w' ⟨rfl, rfl⟩)
  go_ret
  exact ⟨rfl, (Fr.refl _ w).alloc _⟩

set_option maxHeartbeats 400000 in
theorem Copy_not (v : Value) (w : World) (hv : Bad w v) : Calls Try.prog 28 #[v] w fun e w' => e = .returned (.pointer none) ∧ w = w' := by
  have HV := hide (hv _ (Fr.refl _ w))
  clear hv
  go_enter Try.func28, Try.ntmps28
  go_wp2_with (go_at_call 30; refine HV.out.mono ?_; rintro e w' ⟨rfl, rfl⟩)
  go_ret
  exact ⟨rfl, rfl⟩

theorem Bad.at {w : World} {v : Value} (h : Bad w v) : Calls Try.prog 30 #[v] w fun e w' => e = .returned (.bool false) ∧ w = w' := h w (Fr.refl _ w)

end Go.Proofs.Ytiaddgagncmbeaa

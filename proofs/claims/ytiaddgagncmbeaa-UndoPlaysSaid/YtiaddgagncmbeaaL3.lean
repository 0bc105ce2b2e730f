/- The walk of UndoNews. -/
import Derived.Test.YtiaddgagncmbeaaG2
namespace Go.Proofs.Ytiaddgagncmbeaa
open Go.RowKit

set_option maxHeartbeats 1000000 in
theorem agree_nil (w : World) (x y : Int) :
    Calls Try.prog 20 #[.pointer none, .pointer none, .int .i64 x, .int .i64 y] w fun e w' => e = .returned (.bool true) ∧ Same' w w' := by
  have C := hide (Same_not _ w x y (Bad.nil w))
  go_enter Try.func20, Try.ntmps20
  go_wp2_with fail
  refine C.out.mono ?_
  clear C
  rintro e w1 ⟨rfl, hf⟩
  have F := hide hf
  clear hf
  have C := hide (RSame_nil w1 x y)
  go_wp2_with fail
  refine C.out.mono ?_
  clear C
  rintro e w2 ⟨rfl, hf⟩
  have F' := hide (F.out.trans hf)
  clear hf F
  have C := hide (Size_not _ w2 x (Bad.nil w2))
  go_wp2_with fail
  refine C.out.mono ?_
  clear C
  rintro e w3 ⟨rfl, hf⟩
  have F := hide (F'.out.trans hf)
  clear hf F'
  have C := hide (RSize_nil w3 x)
  go_wp2_with fail
  refine C.out.mono ?_
  clear C
  rintro e w3' ⟨rfl, rfl⟩
  have C := hide (Count_bad _ w3 (valid_nil w3))
  go_wp2_with fail
  refine C.out.mono ?_
  clear C
  rintro e w4 h4
  obtain ⟨rfl, hf⟩ := h4
  subst hf
  have C := hide (RCount_nil w3)
  go_wp2_with fail
  refine C.out.mono ?_
  clear C
  rintro e w3' ⟨rfl, rfl⟩
  have C := hide (Mark_bad _ w3 (valid_nil w3))
  go_wp2_with fail
  refine C.out.mono ?_
  clear C
  rintro e w3' ⟨rfl, rfl⟩
  have C := hide (RMark_nil w3)
  go_wp2_with fail
  refine C.out.mono ?_
  clear C
  rintro e w3' ⟨rfl, rfl⟩
  have C := hide (Labels_bad _ w3 (valid_nil w3))
  go_wp2_with fail
  refine C.out.mono ?_
  clear C
  rintro e w3' ⟨rfl, rfl⟩
  have C := hide (RLabels_nil w3)
  go_wp2_with fail
  refine C.out.mono ?_
  clear C
  rintro e w3' ⟨rfl, rfl⟩
  have C := hide (eqTo_self 0 (fun _ => 0) ▸ same_eq w3 _ _ 0 _ _ (Sl.nil w3 (fun _ => 0)) (Sl.nil w3 (fun _ => 0)) (by omega))
  go_wp2_with fail
  refine C.out.mono ?_
  clear C
  rintro e w4 ⟨rfl, hf⟩
  go_wp2
  go_ret
  exact ⟨rfl, F.out.trans hf⟩

set_option maxHeartbeats 1000000 in
theorem UndoNews_any (w : World) (n x y : Int) : Calls Try.prog 5 #[.int .i64 n, .int .i64 x, .int .i64 y] w fun e w' => e = .returned (.bool true) ∧ Same' w w' := by
  by_cases h1 : n < 0 ∨ 65536 < n
  · have C := hide (New_out n w h1)
    have C2 := hide (RNew_out n w h1)
    have C3 := hide (agree_nil w x y)
    have hcase : Hid (Calls Try.prog 5 #[.int .i64 n, .int .i64 x, .int .i64 y] w fun e w' => e = .returned (.bool true) ∧ Same' w w') := by
      rcases h1 with h1 | h1
      · have h2 : ¬ (300 < n) := by omega
        show Calls Try.prog 5 #[.int .i64 n, .int .i64 x, .int .i64 y] w fun e w' => e = .returned (.bool true) ∧ Same' w w'
        go_enter Try.func5, Try.ntmps5
        go_wp2_with (first | (go_at_call 18; refine C.out.mono ?_; clear C; rintro e w' ⟨rfl, rfl⟩) | (go_at_call 19; refine C2.out.mono ?_; clear C2; rintro e w' ⟨rfl, rfl⟩) | (go_at_call 20; refine C3.out.mono ?_; clear C3; rintro e w1 ⟨rfl, hf⟩; have F := hide hf; clear hf) | (go_at_call 10; refine (works_any _).mono ?_; rintro e w2 ⟨rfl, hf2⟩))
        go_ret
        exact ⟨rfl, F.out.trans hf2⟩
      · have h2 : 300 < n := by omega
        have h3 : ¬ (n ≤ 65536) := by omega
        show Calls Try.prog 5 #[.int .i64 n, .int .i64 x, .int .i64 y] w fun e w' => e = .returned (.bool true) ∧ Same' w w'
        go_enter Try.func5, Try.ntmps5
        go_wp2_with (first | (go_at_call 18; refine C.out.mono ?_; clear C; rintro e w' ⟨rfl, rfl⟩) | (go_at_call 19; refine C2.out.mono ?_; clear C2; rintro e w' ⟨rfl, rfl⟩) | (go_at_call 20; refine C3.out.mono ?_; clear C3; rintro e w1 ⟨rfl, hf⟩; have F := hide hf; clear hf) | (go_at_call 10; refine (works_any _).mono ?_; rintro e w2 ⟨rfl, hf2⟩))
        go_ret
        exact ⟨rfl, F.out.trans hf2⟩
    exact hcase
  · by_cases h2 : 300 < n
    · have h3 : n ≤ 65536 := by omega
      clear h1
      go_enter Try.func5, Try.ntmps5
      go_wp2_with (go_at_call 10; refine (works_any _).mono ?_; rintro e w2 ⟨rfl, hf2⟩)
      go_ret
      exact ⟨rfl, hf2⟩
    · obtain ⟨m, rfl⟩ : ∃ m : Nat, n = m := ⟨n.toNat, by omega⟩
      have hm : m ≤ 300 := by omega
      have C := hide (New_S m (by omega) w)
      clear h1 h2
      go_enter Try.func5, Try.ntmps5
      go_wp2_with fail
      refine C.out.mono ?_
      clear C
      rintro e w1 ⟨L, rfl, hS, hf, _⟩
      have HS := hide hS
      have F := hide hf
      have C := hide (RNew_in m (by omega) w1)
      clear hS hf
      go_wp2_with fail
      refine C.out.mono ?_
      clear C
      rintro e w2 ⟨b, M, rfl, hR, hf, _⟩
      have C := hide (agree_at (HS.out.same hf) hR (St.zero_ok m) (by omega) x y)
      have F' := hide (F.out.trans hf)
      clear F hf hR HS
      go_wp2_with fail
      refine C.out.mono ?_
      clear C
      rintro e w3 ⟨rfl, hf⟩
      have F := hide (F'.out.trans hf)
      clear F' hf
      have C := hide (works_any w3)
      go_wp2_with fail
      refine C.out.mono ?_
      clear C
      rintro e w4 ⟨rfl, hf⟩
      go_wp2
      go_ret
      exact ⟨rfl, F.out.trans hf⟩

end Go.Proofs.Ytiaddgagncmbeaa

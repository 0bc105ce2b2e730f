/- The walk of UndoNil. -/
import Derived.Test.YtiaddgagncmbeaaN1
namespace Go.Proofs.Ytiaddgagncmbeaa
open Go.RowKit

set_option maxRecDepth 100000 in
set_option maxHeartbeats 4000000 in
theorem UndoNil_any (w : World) (a b : Int) (ao : Option Addr) (m c : Nat) :
    Calls Try.prog 8 #[.int .i64 a, .int .i64 b, .slice ao m c] w fun e w' => e = .returned (.bool true) ∧ Same' w w' := by
  go_enter Try.func8, Try.ntmps8
  go_wp2_with fail
  generalize hB : w.heap.size = B
  refine wp_world (fun w1 => Same' w w1 ∧ Bad w1 (.pointer (some ⟨B, 0, none⟩)) ∧ w1.cell? ⟨B + 1, 0, none⟩ = some (.pointer none) ∧ w1.cell? ⟨B + 1, 1, none⟩ = some (.pointer (some ⟨B, 0, none⟩))) ?_ ?_
  · rw [← hB]
    refine ⟨((Fr.refl _ w).alloc _).alloc _, Bad.zero ?_, ?_, ?_⟩
    · exact (World.cell?_alloc_lt (w.alloc _) _ ⟨w.heap.size, 0, none⟩ (by simp)).trans (World.cell?_alloc_new w _ 59 0)
    · have h := World.cell?_alloc_new (w.alloc (.cells #[.bool false, .slice none 0 0, .slice none 0 0, .slice none 0 0] 59)) #[.pointer none, .pointer (some ⟨w.heap.size, 0, none⟩)] 24 0
      rw [World.size_alloc] at h
      exact h
    · have h := World.cell?_alloc_new (w.alloc (.cells #[.bool false, .slice none 0 0, .slice none 0 0, .slice none 0 0] 59)) #[.pointer none, .pointer (some ⟨w.heap.size, 0, none⟩)] 24 1
      rw [World.size_alloc] at h
      exact h
  rintro w1 ⟨hf1, hbad, hc0, hc1⟩
  have HC := hide (And.intro hbad (And.intro hc0 hc1))
  clear hB hbad hc0 hc1
  go_loopg [9, 10, 11, 12, 13, 14] 2 (fun q i _ _ _ _ _ wr => ∃ j : Nat, q + j = 2 ∧ i = .int .i64 j ∧ Same' w1 wr)
  case atStart => exact ⟨0, rfl, rfl, Fr.refl _ _⟩
  case round =>
    obtain ⟨j, hj, rfl, hfr⟩ := hrel
    by_cases hlt : j < 2
    · have hv : ∃ u, wr.cell? ⟨B + 1, j, none⟩ = some (.pointer u) ∧ Bad wr (.pointer u) := by
        obtain ⟨hbad, hc0, hc1⟩ := HC.out
        have h0 := (hfr.cell (block_lt_of_cell hc0) (fun h => h)).trans hc0
        have h1 := (hfr.cell (block_lt_of_cell hc1) (fun h => h)).trans hc1
        rcases (show j = 0 ∨ j = 1 by omega) with rfl | rfl
        · exact ⟨none, h0, Bad.nil wr⟩
        · exact ⟨_, h1, hbad.then hfr⟩
      obtain ⟨u, hc, hb⟩ := hv
      have HB := hide hb
      have HFR := hide hfr
      have h00 : Same' wr wr := Fr.refl _ _
      clear hb hfr
      go_wp2_with (first | (go_at_call 23; refine (Union_bad _ _ a b (HB.out.then (by first | assumption | exact Fr.alloc (by assumption) _)).at).mono ?_; rintro e w' ⟨rfl, rfl⟩) | (go_at_call 26; refine (Trial_not _ _ ao m c (HB.out.then (by first | assumption | exact Fr.alloc (by assumption) _))).mono ?_; rintro e w' ⟨rfl, hf⟩; have hf' : Same' wr w' := Fr.trans (by first | assumption | exact Fr.alloc (by assumption) _) hf; clear hf) | (go_at_call 16; refine (Undo_bad _ _ a (HB.out.then (by first | assumption | exact Fr.alloc (by assumption) _)).at).mono ?_; rintro e w' ⟨rfl, rfl⟩) | (go_at_call 21; refine (Same_not _ _ a b (HB.out.then (by first | assumption | exact Fr.alloc (by assumption) _))).mono ?_; rintro e w' ⟨rfl, hf⟩; have hf' : Same' wr w' := Fr.trans (by first | assumption | exact Fr.alloc (by assumption) _) hf; clear hf) | (go_at_call 22; refine (Size_not _ _ a (HB.out.then (by first | assumption | exact Fr.alloc (by assumption) _))).mono ?_; rintro e w' ⟨rfl, hf⟩; have hf' : Same' wr w' := Fr.trans (by first | assumption | exact Fr.alloc (by assumption) _) hf; clear hf) | (go_at_call 14; refine (Count_bad _ _ (HB.out.then (by first | assumption | exact Fr.alloc (by assumption) _)).at).mono ?_; rintro e w' ⟨rfl, rfl⟩) | (go_at_call 12; refine (Mark_bad _ _ (HB.out.then (by first | assumption | exact Fr.alloc (by assumption) _)).at).mono ?_; rintro e w' ⟨rfl, rfl⟩) | (go_at_call 13; refine (Labels_bad _ _ (HB.out.then (by first | assumption | exact Fr.alloc (by assumption) _)).at).mono ?_; rintro e w' ⟨rfl, rfl⟩) | (go_at_call 28; refine (Copy_not _ _ (HB.out.then (by first | assumption | exact Fr.alloc (by assumption) _))).mono ?_; rintro e w' ⟨rfl, rfl⟩))
      go_roundg (2 - (j + 1))
      case measure => omega
      case rel => exact ⟨j + 1, by omega, by go_num, HFR.out.trans (by assumption)⟩
    · go_wp2_with (go_at_call 10; refine (works_any _).mono ?_; rintro e w12 ⟨rfl, hf12⟩)
      go_ret
      exact ⟨rfl, (hf1.trans hfr).trans hf12⟩

end Go.Proofs.Ytiaddgagncmbeaa

/- Walks: the laws CritGrids and CritRises. -/
import Derived.Test.YtneidejngbokcaaC9
import Derived.Test.YtneidejngbokcaaL1
namespace Go.Proofs.Ytneidejngbokcaa
open Go.RowKit

set_option maxHeartbeats 1000000 in
theorem CritGrids_at (w : World) (s : Int) : Calls Try.prog 7 #[.int .i64 s] w fun e w' => e = .returned (.bool true) ∧ Same' w w' := by
  have W := hide works_at
  by_cases hr : s < 1 ∨ 1000 < s
  · have C1 := fun w => hide (Grid21_err w hr)
    have C2 := fun w => hide (Grid22_err w hr)
    clear hr
    go_enter Try.func7, Try.ntmps7
    go_wp2_with (first
      | (go_at_call 21; refine (C1 _).out.mono ?_; rintro e w1 ⟨rfl, rfl⟩)
      | (go_at_call 22; refine (C2 _).out.mono ?_; rintro e w2 ⟨rfl, rfl⟩))
    clear C1 C2
    go_loopg [7] 0 (fun z i wr => i = .int .i64 0 ∧ w = wr)
    case atStart => exact ⟨rfl, rfl⟩
    case round =>
      obtain ⟨rfl, rfl⟩ := hrel
      go_wp2_with (go_at_call 14; refine (W.out _).mono ?_; rintro e w3 ⟨rfl, hf3⟩)
      go_ret
      exact ⟨rfl, hf3⟩
  · obtain ⟨k, rfl⟩ : ∃ k : Nat, s = k := ⟨s.toNat, by omega⟩
    have hs1 : 1 ≤ k := by omega
    have hs2 : k ≤ 1000 := by omega
    have C1 := hide (Grid21_ok w hs1 hs2)
    have C2 := fun w => hide (Grid22_ok w hs1 hs2)
    clear hr
    go_enter Try.func7, Try.ntmps7
    go_wp2_with fail
    refine C1.out.mono ?_
    clear C1
    rintro e w1 ⟨ao, c1, rfl, hG1⟩
    have HG1 := hide hG1
    clear hG1
    go_wp2_with fail
    refine (C2 _).out.mono ?_
    clear C2
    rintro e w2 ⟨bo, c2, rfl, hG2⟩
    have HG2 := hide hG2
    have HF1 := hide (HG1.out.fl.keep hG2.fr)
    have HF2 := hide hG2.fl
    have HF := hide (HG1.out.fr.trans hG2.fr)
    clear hG2 HG1 HG2
    go_wp2_with fail
    go_loopg [7] (k + 1) (fun z i wr => ∃ j : Nat, j + z = k + 1 ∧ i = .int .i64 j ∧ Same' w2 wr)
    case atStart => exact ⟨0, by omega, rfl, Fr.refl _ _⟩
    case round =>
      obtain ⟨j, hj, rfl, hf⟩ := hrel
      by_cases hlt : j < k + 1
      · have hd : decide (j < k + 1) = true := by simpa using hlt
        have hd1 : decide (j ≤ k) = true := by simp; omega
        have hd2 : decide ((j : Int) < k + 1) = true := by simp; omega
        obtain ⟨a1, rfl, e1⟩ := (HF1.out.keep hf) j hlt
        obtain ⟨a2, rfl, e2⟩ := (HF2.out.keep hf) j hlt
        have oe := ord_self (grid_rnd hs1 hs2 (show j ≤ 1000 by omega)).2.1
        have hi : (j : Int) < k + 1 := by omega
        have hi0 : (0 : Int) ≤ j := by omega
        go_wp2_with fail
        go_quiet (fail)
        go_wp2_with fail
        go_roundg (gk - 1)
        case measure => omega
        case rel => exact ⟨j + 1, by omega, by go_num, hf.trans (same_drewN _ _)⟩
      · have hd : decide (j < k + 1) = false := by simpa using hlt
        have hd1 : decide (j ≤ k) = false := by simp; omega
        have hd2 : decide ((j : Int) < k + 1) = false := by simp; omega
        go_wp2_with (go_at_call 14; refine (W.out _).mono ?_; rintro e w3 ⟨rfl, hf3⟩)
        go_ret
        exact ⟨rfl, (HF.out.trans hf).trans hf3⟩

set_option maxRecDepth 100000 in
set_option maxHeartbeats 1000000 in
theorem CritRises_at (w : World) (s : Int) : Calls Try.prog 8 #[.int .i64 s] w fun e w' => e = .returned (.bool true) ∧ Same' w w' := by
  have W := hide works_at
  by_cases hr : s < 1 ∨ 1000 < s
  · have C1 := fun w => hide (Grid21_err w hr)
    have hd : decide (s < 1) = true ∨ (decide (s < 1) = false ∧ decide (1000 < s) = true) := by
      simp; omega
    clear hr
    rcases hd with d1 | ⟨d1, d2⟩
    all_goals
      go_enter Try.func8, Try.ntmps8
      go_wp2_with (first
        | (go_at_call 21; refine (C1 _).out.mono ?_; rintro e w1 ⟨rfl, rfl⟩)
        | (go_at_call 14; refine (W.out _).mono ?_; rintro e w3 ⟨rfl, hf3⟩))
      go_ret
      exact ⟨rfl, hf3⟩
  · obtain ⟨k, rfl⟩ : ∃ k : Nat, s = k := ⟨s.toNat, by omega⟩
    have hs1 : 1 ≤ k := by omega
    have hs2 : k ≤ 1000 := by omega
    have C1 := hide (Grid21_ok w hs1 hs2)
    clear hr
    go_enter Try.func8, Try.ntmps8
    go_wp2_with fail
    refine C1.out.mono ?_
    clear C1
    rintro e w1 ⟨ao, c1, rfl, hG1⟩
    have HF1 := hide hG1.fl
    have HF := hide hG1.fr
    clear hG1
    obtain ⟨a1, rfl, e0⟩ := HF1.out 0 (by omega)
    obtain ⟨a2, ha2, e1⟩ := HF1.out k (by omega)
    simp only [Option.some.injEq] at ha2
    subst ha2
    rw [show a1.add 0 = a1 by cases a1; simp [Addr.add]] at e0
    have hg0 : isN (gridW k 0) = false := (grid_rnd hs1 hs2 (by omega)).2.1
    have hg1 : isN (gridW k k) = false := (grid_rnd hs1 hs2 hs2).2.1
    have o0 : FloatKind.f64.format.order (gridW k 0) 0 = some .eq := (ordr_nn hg0 isN_zero).trans (by rw [cmp_eq (by rw [grid_zero hs1 hs2, R_zero])])
    have o1 : FloatKind.f64.format.order (gridW k k) 4607182418800017408 = some .eq := (ordr_nn hg1 isN_one).trans (by rw [cmp_eq (grid_one hs1 hs2)])
    have hi0 : (0 : Int) < k + 1 := by omega
    have hi1 : (k : Int) < k + 1 := by omega
    clear hg0 hg1
    go_wp2_with fail
    go_loopg [5] k (fun z i wr => ∃ j : Nat, j + z = k + 1 ∧ 1 ≤ j ∧ i = .int .i64 j ∧ Same' w1 wr)
    case atStart => exact ⟨1, by omega, by omega, rfl, Fr.refl _ _⟩
    case round =>
      clear e0 e1 o0 o1
      obtain ⟨j, hj, hj1, rfl, hf⟩ := hrel
      by_cases hlt : j < k + 1
      · obtain ⟨i, hij⟩ : ∃ i, j = i + 1 := ⟨j - 1, by omega⟩
        have hd : decide (j < k + 1) = true := by simpa using hlt
        have hd1 : decide (j ≤ k) = true := by simp; omega
        have hd2 : decide ((j : Int) < k + 1) = true := by simp; omega
        obtain ⟨b1, hb1, e1⟩ := (HF1.out.keep hf) j hlt
        obtain ⟨b2, hb2, e2⟩ := (HF1.out.keep hf) i (by omega)
        simp only [Option.some.injEq] at hb1 hb2
        subst hb1
        subst hb2
        have oe : FloatKind.f64.format.order (gridW k j) (gridW k i) = some .gt := (ordr_nn (grid_rnd hs1 hs2 (show j ≤ 1000 by omega)).2.1 (grid_rnd hs1 hs2 (show i ≤ 1000 by omega)).2.1).trans (by rw [cmp_gt (grid_lt hs1 hs2 (by omega) (by omega))])
        have hi : (j : Int) < k + 1 := by omega
        have hi4 : (i : Int) < k + 1 := by omega
        have hi0 : (0 : Int) ≤ i := by omega
        have hi2 : (0 : Int) ≤ (j : Int) := by omega
        have HIJ := hide hij
        have hw1 : IntKind.i64.wrap ((j : Int) - 1) = i := by
          rw [show (j : Int) - 1 = i by omega]
          exact IntWalk.i64_in _ (by omega)
        clear hij
        go_wp2_with fail
        go_quiet (fail)
        go_wp2_with fail
        clear hw1
        go_roundg (gk - 1)
        case measure => omega
        case rel => exact ⟨j + 1, by omega, by omega, by go_num, hf.trans (same_drewN _ _)⟩
      · have hd : decide (j < k + 1) = false := by simpa using hlt
        have hd1 : decide (j ≤ k) = false := by simp; omega
        have hd2 : decide ((j : Int) < k + 1) = false := by simp; omega
        go_wp2_with (go_at_call 14; refine (W.out _).mono ?_; rintro e w3 ⟨rfl, hf3⟩)
        go_ret
        exact ⟨rfl, (HF.out.trans hf).trans hf3⟩

end Go.Proofs.Ytneidejngbokcaa

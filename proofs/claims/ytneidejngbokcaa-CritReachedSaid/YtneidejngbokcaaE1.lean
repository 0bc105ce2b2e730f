/- Walks: Solve, the code's. -/
import Derived.Test.YtneidejngbokcaaC4
import Derived.Test.YtneidejngbokcaaF9
import Derived.Test.YtneidejngbokcaaL1
namespace Go.Proofs.Ytneidejngbokcaa
open Go.RowKit

/-- Whether no number is smaller than the one before it. -/
def srtB (n : Nat) (f : Nat → Nat) : Bool := (List.range (n - 1)).all fun i => !(ordr (f (i + 1)) (f i) == some .lt)

theorem srtB_bad {n i : Nat} {f : Nat → Nat} (hi : i + 1 < n) (h : ordr (f (i + 1)) (f i) = some .lt) : srtB n f = false := by
  unfold srtB
  rw [Bool.eq_false_iff]
  intro hc
  have := List.all_eq_true.1 hc i (List.mem_range.2 (by omega))
  rw [h] at this; simp at this
theorem srtB_ok {n : Nat} {f : Nat → Nat} (h : ∀ i, i + 1 < n → ordr (f (i + 1)) (f i) ≠ some .lt) : srtB n f = true :=
  List.all_eq_true.2 fun i hi => by have := h i (by have := List.mem_range.1 hi; omega); simpa using this

theorem numB_nn {x : Nat} (h : numB x = true) : isN x = false := by
  unfold numB at h
  rw [Bool.and_eq_true] at h
  exact (geB_nn h.1).1

set_option maxHeartbeats 1000000 in
theorem isNaN63_at (w : World) {x : Nat} (h : isN x = false) : Calls Try.prog 63 #[.float .f64 x] w fun e w' => e = .returned (.bool false) ∧ w = w' := by
  have o := ord_self h
  clear h
  go_enter Try.func63, Try.ntmps63
  go_wp2_with fail
  go_ret
  exact ⟨rfl, rfl⟩

set_option maxHeartbeats 1000000 in
theorem Less49_at (w : World) {x y : Nat} (hx : isN x = false) (hy : isN y = false) : Calls Try.prog 49 #[.float .f64 x, .float .f64 y] w fun e w' => e = .returned (.bool (ordr x y == some .lt)) ∧ w = w' := by
  have C1 := fun w => hide (isNaN63_at w hx)
  have C2 := fun w => hide (isNaN63_at w hy)
  clear hx hy
  go_enter Try.func49, Try.ntmps49
  go_wp2_with (first
    | (go_at_call 63; (with_reducible refine (C1 _).out.mono ?_); rintro e w1 ⟨rfl, rfl⟩)
    | (go_at_call 63; (with_reducible refine (C2 _).out.mono ?_); rintro e w1 ⟨rfl, rfl⟩))
  go_ret
  exact ⟨rfl, rfl⟩

set_option maxHeartbeats 1000000 in
theorem sorted34_at {w : World} {ao : Option Addr} {n : Nat} (c : Nat) {f : Nat → Nat} (h : FlAt w ao n f) (hv : valB n f = true) : Calls Try.prog 34 #[.slice ao n c] w fun e w' => e = .returned (.bool (srtB n f)) ∧ Same' w w' := by
  obtain ⟨hn1, hn2, hall⟩ := valB_get hv
  have HL := hide h
  have HA := hide hall
  clear h hv hall
  go_enter Try.func34, Try.ntmps34
  go_wp2_with fail
  go_loopg [3] (n - 1) (fun z i wr => i = .int .i64 z ∧ z ≤ n - 1 ∧ (∀ i, z < i + 1 → i + 1 < n → ordr (f (i + 1)) (f i) ≠ some .lt) ∧ Same' w wr)
  case atStart => exact ⟨by congr 1; omega, Nat.le_refl _, fun i h1 h2 => by omega, Fr.refl _ _⟩
  case round =>
    obtain ⟨rfl, hz, hok, hf⟩ := hrel
    obtain ⟨j, hj⟩ : ∃ j, j = gk := ⟨_, rfl⟩
    rw [← hj] at hz hok ⊢
    have HJ := hide hj
    have HO := hide hok
    clear hj hok
    by_cases hlt : 0 < j
    · have hd : decide (0 < j) = true := by simpa using hlt
      have hd2 : decide ((0 : Int) < j) = true := by simp; omega
      obtain ⟨i, hij⟩ : ∃ i, j = i + 1 := ⟨j - 1, by omega⟩
      obtain ⟨b1, rfl, e1⟩ := (HL.out.keep hf) j (by omega)
      obtain ⟨b2, hb2, e2⟩ := (HL.out.keep hf) i (by omega)
      simp only [Option.some.injEq] at hb2
      subst hb2
      have n1 := numB_nn (HA.out j (by omega))
      have n2 := numB_nn (HA.out i (by omega))
      have C := hide (fun W => (Less49_at W n1 n2).mono (R' := fun e w' => e = .returned (.bool (ordr (f j) (f i) == some .lt)) ∧ w' = W) (fun _ _ h => ⟨h.1, h.2.symm⟩))
      have hi : (j : Int) < n := by omega
      have hi4 : (i : Int) < n := by omega
      have hi0 : (0 : Int) ≤ i := by omega
      have hi2 : (0 : Int) ≤ (j : Int) := by omega
      have HIJ := hide hij
      have hw1 : IntKind.i64.wrap ((j : Int) - 1) = i := by
        rw [show (j : Int) - 1 = i by omega]
        exact IntWalk.i64_in _ (by omega)
      clear hij n1 n2
      obtain ⟨bv, hbv⟩ : ∃ bv, bv = (ordr (f j) (f i) == some .lt) := ⟨_, rfl⟩
      rw [← hbv] at C
      have HBV := hide hbv
      clear hbv
      cases bv with
      | true =>
        go_wp2_with fail
        go_quiet ((go_at_call 49; exact Calls.quiet_of_same (C.out _)))
        go_wp2_with fail
        clear hw1
        go_ret
        refine ⟨ret_bool ?_, hf.trans (same_drewN _ _)⟩
        have h1 := HBV.out
        have h2 := HIJ.out
        subst h2
        exact (srtB_bad (i := i) (by omega) (by simpa using h1.symm)).symm
      | false =>
        go_wp2_with fail
        go_quiet ((go_at_call 49; exact Calls.quiet_of_same (C.out _)))
        go_wp2_with fail
        clear hw1
        go_roundg (gk - 1)
        case measure => have := HJ.out; omega
        case rel =>
          have h2 := HIJ.out
          have h3 := HJ.out
          refine ⟨by congr 1; omega, by omega, fun l h4 h5 => ?_, hf.trans (same_drewN _ _)⟩
          by_cases e : l = i
          · subst e; subst h2; have := HBV.out; intro h; rw [h] at this; simp at this
          · exact HO.out l (by omega) h5
    · obtain rfl : j = 0 := by omega
      go_wp2_with fail
      go_ret
      exact ⟨ret_bool (srtB_ok (fun i hi => HO.out i (by omega) hi)).symm, hf⟩

end Go.Proofs.Ytneidejngbokcaa

/- Walks: the document's number, probability, values, list. -/
import Derived.Test.YtneidejngbokcaaA1
import Derived.BigRegion
import Derived.Deep.RegionWith
import Derived.Deep.LoopGhost
import Derived.Deep.OwnRows
import Derived.Deep.RegionLaw
namespace Go.Proofs.Ytneidejngbokcaa
open Go.RowKit

abbrev ordr (x y : Nat) : Option Ordering := FloatKind.f64.format.order x y
def leB (x y : Nat) : Bool := ordr x y == some .lt || ordr x y == some .eq
def geB (x y : Nat) : Bool := ordr x y == some .gt || ordr x y == some .eq

/-- A number of an amount that is not too great. -/
def numB (x : Nat) : Bool := geB x 14280914418391842816 && leB x 5057542381537067008

set_option maxHeartbeats 1000000 in
theorem number_at (w : World) (x : Nat) : Calls Try.prog 35 #[.float .f64 x] w fun e w' => e = .returned (.bool (numB x)) ∧ w = w' := by
  unfold numB leB geB
  go_enter Try.func35, Try.ntmps35
  go_wp2
  all_goals
    rename_i h
    go_ret
    refine ⟨?_, rfl⟩
    simp_all

set_option maxHeartbeats 1000000 in
theorem probability_at (w : World) (x : Nat) : Calls Try.prog 55 #[.float .f64 x] w fun e w' => e = .returned (.bool (geB x 0 && leB x 4607182418800017408)) ∧ w = w' := by
  unfold leB geB
  go_enter Try.func55, Try.ntmps55
  go_wp2
  all_goals
    rename_i h
    go_ret
    refine ⟨?_, rfl⟩
    simp_all

/-- Numbers in a slice. -/
def FlAt (w : World) (ao : Option Addr) (n : Nat) (f : Nat → Nat) : Prop := ∀ i, i < n → ∃ ad, ao = some ad ∧ w.cell? (ad.add i) = some (.float .f64 (f i))

def valB (n : Nat) (f : Nat → Nat) : Bool := decide (1 ≤ n) && decide (n ≤ 16385) && (List.range n).all fun i => numB (f i)

theorem valB_out {n : Nat} {f : Nat → Nat} (h : n < 1 ∨ 16385 < n) : valB n f = false := by
  unfold valB
  rcases h with h | h
  · simp [show ¬ 1 ≤ n by omega]
  · simp [show ¬ n ≤ 16385 by omega]

theorem valB_bad {n i : Nat} {f : Nat → Nat} (hi : i < n) (h : numB (f i) = false) : valB n f = false := by
  unfold valB
  have : ((List.range n).all fun i => numB (f i)) = false := by
    rw [Bool.eq_false_iff]
    intro hc
    have := List.all_eq_true.1 hc i (List.mem_range.2 hi)
    rw [h] at this; cases this
  rw [this]; simp

theorem valB_ok {n : Nat} {f : Nat → Nat} (h1 : 1 ≤ n) (h2 : n ≤ 16385) (h : ∀ i, i < n → numB (f i) = true) : valB n f = true := by
  unfold valB
  have : ((List.range n).all fun i => numB (f i)) = true := List.all_eq_true.2 fun i hi => h i (List.mem_range.1 hi)
  rw [this]; simp [h1, h2]

theorem FlAt.cap {w : World} {ao : Option Addr} {n : Nat} {f : Nat → Nat} (h : FlAt w ao n f) {i : Nat} (hi : i < n) : ∃ ad, ao = some ad ∧ w.cell? (ad.add i) = some (.float .f64 (f i)) := h i hi

set_option maxHeartbeats 1000000 in
theorem values_at {w : World} {ao : Option Addr} {n : Nat} (c : Nat) {f : Nat → Nat} (h : FlAt w ao n f) : Calls Try.prog 31 #[.slice ao n c] w fun e w' => e = .returned (.bool (valB n f)) ∧ w = w' := by
  have HL := hide h
  clear h
  by_cases h1 : n < 1
  · have d1 : decide ((n : Int) < 1) = true := by simp; omega
    rw [valB_out (.inl h1)]
    go_enter Try.func31, Try.ntmps31
    go_wp2_with fail
    go_ret
    exact ⟨rfl, rfl⟩
  by_cases h2 : 16385 < n
  · have d1 : decide ((n : Int) < 1) = false := by simp; omega
    have d2 : decide ((16385 : Int) < n) = true := by simp; omega
    rw [valB_out (.inr h2)]
    go_enter Try.func31, Try.ntmps31
    go_wp2_with fail
    go_ret
    exact ⟨rfl, rfl⟩
  have d1 : decide ((n : Int) < 1) = false := by simp; omega
  have d2 : decide ((16385 : Int) < n) = false := by simp; omega
  go_enter Try.func31, Try.ntmps31
  go_wp2_with fail
  go_loopg [3] n (fun z i wr => ∃ k : Nat, k + z = n ∧ i = .int .i64 k ∧ w = wr ∧ ∀ j, j < k → numB (f j) = true)
  case atStart => exact ⟨0, by omega, rfl, rfl, fun j hj => by omega⟩
  case round =>
    obtain ⟨k, hk, rfl, rfl, hall⟩ := hrel
    have HA := hide hall
    clear hall
    by_cases hlt : k < n
    · have hd : decide (k < n) = true := by simpa using hlt
      obtain ⟨ad, rfl, hc⟩ := HL.out k hlt
      have hki : (k : Int) < n := by omega
      cases hb : numB (f k) with
      | true =>
        have C := hide (number_at w (f k))
        rw [hb] at C
        have HB := hide hb
        clear hb
        go_wp2_with (go_at_call 35; refine C.out.mono ?_; clear C; rintro e w' ⟨rfl, rfl⟩)
        go_roundg (gk - 1)
        case measure => omega
        case rel => exact ⟨k + 1, by omega, by go_num, rfl, fun j hj => by by_cases e : j = k; (· subst e; exact HB.out); exact HA.out j (by omega)⟩
      | false =>
        have C := hide (number_at w (f k))
        rw [hb] at C
        have HB := hide (valB_bad hlt hb)
        clear hb
        go_wp2_with (go_at_call 35; refine C.out.mono ?_; clear C; rintro e w' ⟨rfl, rfl⟩)
        go_ret
        exact ⟨by rw [HB.out]; rfl, rfl⟩
    · have hd : decide (k < n) = false := by simpa using hlt
      have HB := hide (valB_ok (n := n) (f := f) (by omega) (by omega) (fun i hi => HA.out i (by omega)))
      go_wp2_with fail
      go_ret
      exact ⟨by rw [HB.out]; rfl, rfl⟩

end Go.Proofs.Ytneidejngbokcaa

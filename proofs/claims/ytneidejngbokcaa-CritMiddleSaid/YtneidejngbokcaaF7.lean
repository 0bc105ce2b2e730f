/- Plain facts on grids: i / n rounded. No program in sight. -/
import Derived.Test.YtneidejngbokcaaB2
namespace Go.Proofs.Ytneidejngbokcaa

/-- The k-th number of the grid with n steps. -/
def gridW (n k : Nat) : Nat := (floatBits .quo .f64 (flI k) (flI n)).getD 0

theorem grid_rnd {n k : Nat} (hn : 1 ≤ n) (hn2 : n ≤ 1000) (hk : k ≤ 1000) : floatBits .quo .f64 (flI k) (flI n) = some (gridW n k) ∧ isN (gridW n k) = false ∧ Rnd (gridW n k) (k * U) n := by
  obtain ⟨v1, f1⟩ := flI_V (n := (k : Int)) (by omega) (by omega)
  obtain ⟨v2, f2⟩ := flI_V (n := (n : Int)) (by omega) (by omega)
  have hu := U_pos
  have h0 : 0 < V (flI n) := by rw [v2]; exact Int.mul_pos (by omega) hu
  obtain ⟨z, hz, hr⟩ := quo_rnd f1 f2 (V_pos_iff.1 h0)
  have e : gridW n k = z := by unfold gridW; rw [hz]; rfl
  rw [e]
  refine ⟨hz, floatBits_ok hz, hr.conv h0 (by omega) ?_⟩
  rw [v1, v2, Int.mul_assoc ((k : Int) * U), Int.mul_comm U (n : Int)]

theorem grid_lo {n k : Nat} (hn : 1 ≤ n) (hn2 : n ≤ 1000) (hk : k ≤ 1000) : 0 ≤ R (gridW n k) :=
  ((grid_rnd hn hn2 hk).2.2 0 (by unfold inf; omega) (by unfold inf; omega)).2 (by rw [mgI_zero, Int.zero_mul]; exact Int.mul_nonneg (by omega) (by have := U_pos; omega))

theorem grid_hi {n k : Nat} (hn : 1 ≤ n) (hn2 : n ≤ 1000) (hk : k ≤ n) : R (gridW n k) ≤ R one :=
  ((grid_rnd hn hn2 (by omega)).2.2 (R one) (by rw [R_one]; unfold inf; omega) (by rw [R_one]; unfold inf; omega)).1 (by
    show _ ≤ V one * _
    rw [one_V.1, Int.mul_comm U]
    exact Int.mul_le_mul_of_nonneg_right (by omega) (by have := U_pos; omega))

theorem grid_prob {n k : Nat} (hn : 1 ≤ n) (hn2 : n ≤ 1000) (hk : k ≤ n) : probB (gridW n k) = true :=
  probB_of (grid_rnd hn hn2 (by omega)).2.1 (grid_lo hn hn2 (by omega)) (grid_hi hn hn2 hk)

theorem grid_zero {n : Nat} (hn : 1 ≤ n) (hn2 : n ≤ 1000) : R (gridW n 0) = 0 :=
  (grid_rnd hn hn2 (by omega)).2.2.exact (by unfold inf; omega) (by unfold inf; omega) (by rw [mgI_zero]; simp)

theorem grid_one {n : Nat} (hn : 1 ≤ n) (hn2 : n ≤ 1000) : R (gridW n n) = R one :=
  (grid_rnd hn hn2 hn2).2.2.exact (by rw [R_one]; unfold inf; omega) (by rw [R_one]; unfold inf; omega) (by
    show V one * _ = _
    rw [one_V.1, Int.mul_comm])

/-- A number of twenty binary places that lies between two of the grid. -/
theorem twenty (t : Nat) (ht : t ≤ 1048576) : ∃ c : Int, 0 ≤ c ∧ c ≤ inf ∧ mgI c * 1048576 = t * U := by
  by_cases h0 : t = 0
  · subst h0; exact ⟨0, by omega, by unfold inf; omega, by rw [mgI_zero]; simp⟩
  · have hu := u0_eq
    obtain ⟨c, c1, c2, c3⟩ := rung_of (k := t) (e := u0 - 20) h0 (by omega) (by omega) (by omega)
    refine ⟨c, by omega, by omega, ?_⟩
    rw [mgI_nat, c3]
    unfold U
    have : (2 : Nat) ^ u0 = 2 ^ (u0 - 20) * 1048576 := by
      rw [show (1048576 : Nat) = 2 ^ 20 by decide, ← Nat.pow_add]; congr 1
    rw [this, Int.natCast_mul, Int.natCast_mul, Int.mul_assoc]; rfl

theorem grid_lt {n i j : Nat} (hn : 1 ≤ n) (hn2 : n ≤ 1000) (hij : i < j) (hj : j ≤ n) : R (gridW n i) < R (gridW n j) := by
  have hu := U_pos
  -- the least number of twenty places at or above i / n, and the next one
  obtain ⟨t, ht⟩ : ∃ t, t = (i * 1048576 + n - 1) / n := ⟨_, rfl⟩
  have hdm := Nat.div_add_mod (i * 1048576 + n - 1) n
  have hm := Nat.mod_lt (i * 1048576 + n - 1) (show 0 < n by omega)
  rw [← ht] at hdm
  have h1 : i * 1048576 ≤ n * t := by omega
  have h2 : n * t ≤ i * 1048576 + n - 1 := by omega
  have h30 : n * (t + 1) = n * t + n := Nat.mul_succ n t
  have h3 : n * (t + 1) ≤ j * 1048576 := by
    clear ht hdm hm h1
    generalize n * t = u at *
    omega
  have h4 : t + 1 ≤ 1048576 := by
    refine Nat.le_of_mul_le_mul_left (c := n) ?_ (by omega)
    exact Nat.le_trans h3 (Nat.mul_le_mul_right _ hj)
  obtain ⟨c, c0, c1, hc⟩ := twenty t (by omega)
  obtain ⟨d, d0, d1, hd⟩ := twenty (t + 1) h4
  have hcd : c < d := by
    rw [← mgI_lt_iff]
    have : mgI c * 1048576 < mgI d * 1048576 := by
      rw [hc, hd]; exact Int.mul_lt_mul_of_pos_right (by omega) hu
    omega
  have a := ((grid_rnd hn hn2 (show i ≤ 1000 by omega)).2.2 c (by omega) c1).1 (by
    have : (i : Int) * U * 1048576 ≤ mgI c * n * 1048576 := by
      have e : mgI c * (n : Int) * 1048576 = (n : Int) * t * U := by
        rw [Int.mul_right_comm, hc, Int.mul_right_comm, Int.mul_comm (t : Int)]
      rw [e, Int.mul_right_comm]
      refine Int.mul_le_mul_of_nonneg_right ?_ (by omega)
      have := Int.ofNat_le.2 h1
      simpa using this
    omega)
  have b := ((grid_rnd hn hn2 (show j ≤ 1000 by omega)).2.2 d (by omega) d1).2 (by
    have : mgI d * n * 1048576 ≤ (j : Int) * U * 1048576 := by
      have e : mgI d * (n : Int) * 1048576 = (n : Int) * ((t : Int) + 1) * U := by
        rw [Int.mul_right_comm, hd, Int.mul_right_comm, Int.mul_comm _ (n : Int)]; rfl
      rw [e, Int.mul_right_comm (j : Int)]
      refine Int.mul_le_mul_of_nonneg_right ?_ (by omega)
      have := Int.ofNat_le.2 h3
      simpa using this
    omega)
  omega

end Go.Proofs.Ytneidejngbokcaa

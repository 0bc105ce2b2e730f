/- Plain facts on floats: whole numbers, cutting to a whole number. No program in sight. -/
import Derived.Test.YtneidejngbokcaaF5
import Derived.Test.YtneidejngbokcaaA6
namespace Go.Proofs.Ytneidejngbokcaa
open Ieee

/-- Numbers that are written exactly. -/
theorem rung_of {k e : Nat} (h0 : k ≠ 0) (hk : k < 9007199254740992) (he : 52 ≤ e) (he2 : e ≤ 1980) : ∃ c, c < inf ∧ 0 < c ∧ mg c = k * 2 ^ e := by
  have h1 : 2 ^ k.log2 ≤ k := Nat.log2_self_le h0
  have h2 : k < 2 ^ (k.log2 + 1) := Nat.lt_log2_self
  have h3 : k.log2 < 53 := (Nat.log2_lt h0).2 (by simpa using hk)
  obtain ⟨s, hs⟩ : ∃ s, s = 52 - k.log2 := ⟨_, rfl⟩
  have l1 : 4503599627370496 ≤ k * 2 ^ s := by
    calc 4503599627370496 = 2 ^ k.log2 * 2 ^ s := by rw [← Nat.pow_add, show k.log2 + s = 52 by omega]
      _ ≤ _ := Nat.mul_le_mul_right _ h1
  have l2 : k * 2 ^ s < 9007199254740992 := by
    calc k * 2 ^ s < 2 ^ (k.log2 + 1) * 2 ^ s := Nat.mul_lt_mul_of_pos_right h2 (Nat.two_pow_pos _)
      _ = 9007199254740992 := by rw [← Nat.pow_add, show k.log2 + 1 + s = 53 by omega]
  refine ⟨(e - s) * 4503599627370496 + k * 2 ^ s, by unfold inf; omega, by omega, ?_⟩
  rw [mg_eq (by omega) (.inl l1), Nat.mul_assoc, ← Nat.pow_add]
  congr 2; omega

/-- A whole number as a float. -/
def flI (n : Int) : Nat := floatOfInt .f64 n

theorem Rnd.exact {z : Nat} {N D c : Int} (h : Rnd z N D) (h1 : -(inf : Int) ≤ c) (h2 : c ≤ inf) (e : mgI c * D = N) : R z = c := by
  obtain ⟨a, b⟩ := h c h1 h2
  have := a (by omega)
  have := b (by omega)
  omega

theorem flI_rnd (n : Int) : Rnd (flI n) (n * U) 1 := by
  have h := rnd_nearest (decide (n < 0)) n.natAbs 0
  have e : vI (decide (n < 0)) n.natAbs (0 + 1074 : Int).toNat = n * U := by
    have := vI_of_total n (decide (n < 0)) u0
    have e2 : (if n = 0 then decide (n < 0) else decide (n < 0)) = decide (n < 0) := by split <;> rfl
    rw [e2] at this
    exact this
  rw [e] at h
  exact h

theorem rung_int (n : Int) (h1 : -9007199254740992 < n) (h2 : n < 9007199254740992) : ∃ c : Int, -(inf : Int) < c ∧ c < inf ∧ mgI c = n * U := by
  have hu := u0_eq
  by_cases h0 : n = 0
  · subst h0; exact ⟨0, by unfold inf; omega, by unfold inf; omega, by rw [mgI_zero]; simp⟩
  · obtain ⟨c, c1, c2, c3⟩ := rung_of (k := n.natAbs) (e := u0) (by omega) (by omega) (by omega) (by omega)
    unfold U
    by_cases hn : n < 0
    · refine ⟨-(c : Int), by omega, by omega, ?_⟩
      rw [mgI_neg, mgI_nat, c3, Int.natCast_mul, ← Int.neg_mul]; congr 1; omega
    · refine ⟨c, by omega, by omega, ?_⟩
      rw [mgI_nat, c3, Int.natCast_mul]; congr 1; omega

theorem flI_V {n : Int} (h1 : -9007199254740992 < n) (h2 : n < 9007199254740992) : V (flI n) = n * U ∧ Fin' (flI n) := by
  obtain ⟨c, c1, c2, c3⟩ := rung_int n h1 h2
  have := (flI_rnd n).exact (c := c) (by omega) (by omega) (by rw [c3, Int.mul_one])
  refine ⟨by unfold V; rw [this, c3], fin_of (by omega) (by omega)⟩

theorem V_lt_iff {x y : Nat} : V x < V y ↔ R x < R y := mgI_lt_iff
theorem V_le_iff {x y : Nat} : V x ≤ V y ↔ R x ≤ R y := mgI_le_iff
theorem V_pos_iff {x : Nat} : 0 < V x ↔ 0 < R x := by have := @mgI_lt_iff 0 (R x); rwa [mgI_zero] at this
theorem V_nonneg_iff {x : Nat} : 0 ≤ V x ↔ 0 ≤ R x := by have := @mgI_le_iff 0 (R x); rwa [mgI_zero] at this

/-- Towards zero, and down, of what is not below nought. -/
theorem cut_low (way : Toward) (hw : way = .zero ∨ way = .down) (s : Bool) (n d : Nat) (h : s = false ∨ n = 0) : way.cut s n d = n / 2 ^ d := by
  have e : way.cut s n d = n / (1 <<< min d (n.log2 + 2)) := by
    rcases hw with rfl | rfl
    · show n / _ + 0 = _; rfl
    · show n / _ + (s && n % 1 <<< min d (n.log2 + 2) != 0).toNat = _
      rcases h with rfl | rfl <;> simp
  rw [e, Nat.one_shiftLeft]
  by_cases hd : d ≤ n.log2 + 2
  · rw [Nat.min_eq_left hd]
  · rw [Nat.min_eq_right (by omega)]
    have hl : n < 2 ^ (n.log2 + 1) := Nat.lt_log2_self
    have h1 : 2 ^ (n.log2 + 1) ≤ 2 ^ (n.log2 + 2) := Nat.pow_le_pow_right (by omega) (by omega)
    have h2 : 2 ^ (n.log2 + 1) ≤ 2 ^ d := Nat.pow_le_pow_right (by omega) (by omega)
    rw [Nat.div_eq_of_lt (by omega), Nat.div_eq_of_lt (by omega)]

/-- The whole part of a float that is not below nought. -/
def trn (z : Nat) : Nat := (V z / U).toNat

theorem integral_low (way : Toward) (hw : way = .zero ∨ way = .down) {z : Nat} (hz : Fin' z) (h0 : 0 ≤ R z) : ∃ s, (FloatKind.f64.decode z).integral way = .number s (trn z) 0 ∧ (s = false ∨ trn z = 0) := by
  obtain ⟨m, e, h1, g1, hm, v1⟩ := read_num hz
  have hu := u0_eq
  have hs : sg z = false ∨ m = 0 := by
    by_cases h : m = 0
    · exact .inr h
    · left
      have hv := V_nonneg_iff.2 h0
      rw [v1] at hv
      have hp := Nat.mul_pos (Nat.pos_of_ne_zero h) (Nat.two_pow_pos e)
      unfold vI at hv
      cases hh : sg z
      · rfl
      · rw [hh, if_pos rfl] at hv; omega
  have hv : V z = ((m * 2 ^ e : Nat) : Int) := by
    rw [v1]; unfold vI
    rcases hs with h | h
    · rw [h]; rfl
    · subst h; simp
  have ht : trn z = m * 2 ^ e / 2 ^ u0 := by
    unfold trn U
    rw [hv, ← Int.natCast_ediv]; rfl
  have ht2 : trn z = (m <<< (-1074 + (e : Int)).toNat) / 2 ^ (-(-1074 + (e : Int))).toNat := by
    rw [ht, Nat.shiftLeft_eq]
    by_cases he : u0 ≤ e
    · rw [show (-(-1074 + (e : Int))).toNat = 0 by omega, show (-1074 + (e : Int)).toNat = e - u0 by omega, Nat.pow_zero, Nat.div_one]
      conv => lhs; rw [show e = (e - u0) + u0 by omega, Nat.pow_add, ← Nat.mul_assoc]
      exact Nat.mul_div_cancel _ (Nat.two_pow_pos _)
    · rw [show (-1074 + (e : Int)).toNat = 0 by omega, show (-(-1074 + (e : Int))).toNat = u0 - e by omega, Nat.pow_zero, Nat.mul_one]
      conv => lhs; rw [show u0 = (u0 - e) + e by omega, Nat.pow_add]
      exact Nat.mul_div_mul_right _ _ (Nat.two_pow_pos _)
  refine ⟨sg z, ?_, ?_⟩
  · show (FloatKind.f64.format.read z).integral way = _
    rw [h1]
    simp only [Datum.integral]
    rw [cut_low way hw (sg z) _ _ (by rcases hs with h | h; exact .inl h; right; rw [h]; simp), ht2]
  · rcases hs with h | h
    · exact .inl h
    · right; rw [ht, h]; simp

theorem toInt_trn {z : Nat} (hz : Fin' z) (h0 : 0 ≤ R z) : (FloatKind.f64.decode z).toInt .zero = some (trn z : Int) := by
  obtain ⟨s, h, hs⟩ := integral_low .zero (.inl rfl) hz h0
  unfold Datum.toInt
  rw [h]
  simp only [signed_eq]
  unfold vI
  rcases hs with rfl | h
  · simp
  · rw [h]; simp

theorem flr_trn {z : Nat} (hz : Fin' z) (h0 : 0 ≤ R z) (ht : trn z < 9007199254740992) : Fin' (flr z) ∧ 0 ≤ R (flr z) ∧ trn (flr z) = trn z := by
  obtain ⟨s, h, hs⟩ := integral_low .down (.inr rfl) hz h0
  have hr := rnd_nearest s (trn z) 0
  have e : vI s (trn z) (0 + 1074 : Int).toNat = (trn z : Int) * U := by
    have hu : (0 + 1074 : Int).toNat = u0 := rfl
    rw [hu]
    unfold vI U
    rcases hs with rfl | h
    · simp
    · rw [h]; simp
  rw [e] at hr
  have hf : flr z = FloatKind.f64.format.nearest s (trn z) 0 := by
    unfold flr; rw [h]; rfl
  obtain ⟨c, c1, c2, c3⟩ := rung_int (trn z) (by omega) (by omega)
  have hR : R (flr z) = c := by
    rw [hf]
    exact hr.exact (by omega) (by omega) (by rw [c3]; exact Int.mul_one _)
  have hV : V (flr z) = (trn z : Int) * U := by unfold V; rw [hR, c3]
  refine ⟨fin_of (by omega) (by omega), ?_, ?_⟩
  · rw [← V_nonneg_iff, hV]
    exact Int.mul_nonneg (by omega) (Int.le_of_lt U_pos)
  · conv => lhs; unfold trn
    rw [hV, Int.mul_ediv_cancel _ (by have := U_pos; omega)]; rfl

end Go.Proofs.Ytneidejngbokcaa

/- Plain facts on binary floating point: the rungs' magnitudes, and rounding. No program in sight. -/
import Ieee.Arith
namespace Go.Proofs.Ytneidejngbokcaa
open Ieee

/-- The magnitude of a rung of the double format, in units of the least subnormal number. -/
def mg (r : Nat) : Nat := if r < 4503599627370496 then r else (4503599627370496 + r % 4503599627370496) * 2 ^ (r / 4503599627370496 - 1)

theorem mg_eq {e k : Nat} (hk : k ≤ 9007199254740992) (h : 4503599627370496 ≤ k ∨ e = 0) : mg (e * 4503599627370496 + k) = k * 2 ^ e := by
  unfold mg
  by_cases h1 : e * 4503599627370496 + k < 4503599627370496
  · rw [if_pos h1]
    have : e = 0 := by omega
    subst this
    simp
  · rw [if_neg h1]
    by_cases h2 : k = 9007199254740992
    · subst h2
      have a : (e * 4503599627370496 + 9007199254740992) % 4503599627370496 = 0 := by omega
      have b : (e * 4503599627370496 + 9007199254740992) / 4503599627370496 - 1 = e + 1 := by omega
      rw [a, b, Nat.pow_succ]
      omega
    · by_cases h3 : 4503599627370496 ≤ k
      · have a : (e * 4503599627370496 + k) % 4503599627370496 = k - 4503599627370496 := by omega
        have b : (e * 4503599627370496 + k) / 4503599627370496 - 1 = e := by omega
        rw [a, b, show 4503599627370496 + (k - 4503599627370496) = k by omega]
      · omega

/-- Each rung as a significand and a place. -/
theorem rung_form (r : Nat) : ∃ e k, r = e * 4503599627370496 + k ∧ k < 9007199254740992 ∧ (4503599627370496 ≤ k ∨ e = 0) := by
  by_cases h : r < 4503599627370496
  · exact ⟨0, r, by omega, by omega, .inr rfl⟩
  · exact ⟨r / 4503599627370496 - 1, 4503599627370496 + r % 4503599627370496, by omega, by omega, .inl (by omega)⟩

theorem mg_step (r : Nat) : mg r < mg (r + 1) := by
  obtain ⟨e, k, rfl, hk, h⟩ := rung_form r
  rw [mg_eq (by omega) h, Nat.add_assoc, mg_eq (by omega) (by omega)]
  exact Nat.mul_lt_mul_of_pos_right (by omega) (Nat.two_pow_pos _)

theorem mg_lt {r s : Nat} (h : r < s) : mg r < mg s := by
  induction s with
  | zero => omega
  | succ s ih =>
    by_cases e : r = s
    · subst e; exact mg_step r
    · exact Nat.lt_trans (ih (by omega)) (mg_step s)

theorem mg_le {r s : Nat} (h : r ≤ s) : mg r ≤ mg s := by
  by_cases e : r = s
  · subst e; exact Nat.le_refl _
  · exact Nat.le_of_lt (mg_lt (by omega))

theorem mg_lt_iff {r s : Nat} : mg r < mg s ↔ r < s :=
  ⟨fun h => by
    by_cases e : r < s
    · exact e
    · have := mg_le (show s ≤ r by omega); omega, mg_lt⟩

theorem mg_inj {r s : Nat} (h : mg r = mg s) : r = s := by
  rcases Nat.lt_trichotomy r s with h' | h' | h'
  · have := mg_lt h'; omega
  · exact h'
  · have := mg_lt h'; omega

theorem mg_zero : mg 0 = 0 := rfl

/-- The rung r is nearest to M / c; between two, the even one. -/
structure Near (c M r : Nat) : Prop where
  up : 2 * M ≤ (mg r + mg (r + 1)) * c
  upE : 2 * M = (mg r + mg (r + 1)) * c → r % 2 = 0
  dn : ∀ q, q + 1 = r → (mg q + mg r) * c ≤ 2 * M
  dnE : ∀ q, q + 1 = r → (mg q + mg r) * c = 2 * M → r % 2 = 0

theorem Near.mono {c M M' r r' : Nat} (hc : 0 < c) (h : Near c M r) (h' : Near c M' r') (hM : M ≤ M') : r ≤ r' := by
  by_cases hlt : r ≤ r'
  · exact hlt
  exfalso
  obtain ⟨q, hq⟩ : ∃ q, q + 1 = r := ⟨r - 1, by omega⟩
  have h1 := h.dn q hq
  have h2 := h'.up
  by_cases e : q = r'
  · subst e
    rw [hq] at h2
    have h3 := h'.upE
    rw [hq] at h3
    have h4 := h.dnE q hq
    have := h3 (by omega)
    have := h4 (by omega)
    omega
  · have a := mg_lt (show r' < q by omega)
    have b := mg_le (show r' + 1 ≤ r by omega)
    have : (mg r' + mg (r' + 1)) * c < (mg q + mg r) * c := Nat.mul_lt_mul_of_pos_right (by omega) hc
    omega

theorem Near.exact {c r : Nat} (hc : 0 < c) : Near c (mg r * c) r := by
  have h1 := mg_step r
  have e1 : 2 * (mg r * c) = (mg r + mg r) * c := by rw [Nat.add_mul]; omega
  have h2 : (mg r + mg r) * c < (mg r + mg (r + 1)) * c := Nat.mul_lt_mul_of_pos_right (by omega) hc
  refine ⟨by omega, by omega, ?_, ?_⟩
  · rintro q rfl
    have := mg_step q
    have : (mg q + mg (q + 1)) * c ≤ (mg (q + 1) + mg (q + 1)) * c := Nat.mul_le_mul_right c (by omega)
    omega
  · rintro q rfl h
    have := mg_step q
    have : (mg q + mg (q + 1)) * c < (mg (q + 1) + mg (q + 1)) * c := Nat.mul_lt_mul_of_pos_right (by omega) hc
    omega

/-- A number cut to the nearest whole one. -/
theorem cut_even {neg : Bool} {n d : Nat} : ∃ k, Toward.even.cut neg n d = k ∧ 2 * n ≤ (2 * k + 1) * 2 ^ d ∧ (2 * n = (2 * k + 1) * 2 ^ d → k % 2 = 0) ∧
    2 * k * 2 ^ d ≤ 2 * n + 2 ^ d ∧ (2 * k * 2 ^ d = 2 * n + 2 ^ d → k % 2 = 0) ∧ n / 2 ^ d ≤ k ∧ k ≤ n / 2 ^ d + 1 := by
  have key : ∀ gap : Nat, 0 < gap → ∃ k, n / gap + ((decide (gap < 2 * (n % gap)) || (gap == 2 * (n % gap) && n / gap % 2 == 1)) : Bool).toNat = k ∧ 2 * n ≤ (2 * k + 1) * gap ∧ (2 * n = (2 * k + 1) * gap → k % 2 = 0) ∧
      2 * k * gap ≤ 2 * n + gap ∧ (2 * k * gap = 2 * n + gap → k % 2 = 0) ∧ n / gap ≤ k ∧ k ≤ n / gap + 1 := by
    intro gap hg
    have hdm := Nat.div_add_mod n gap
    have hm := Nat.mod_lt n hg
    have ec : gap * (n / gap) = n / gap * gap := Nat.mul_comm _ _
    generalize n / gap = q at hdm ec ⊢
    generalize n % gap = t at hdm hm ⊢
    have e1 : ∀ k, (2 * k + 1) * gap = 2 * (k * gap) + gap := fun k => by rw [Nat.add_mul, Nat.mul_assoc]; omega
    have e2 : ∀ k, 2 * k * gap = 2 * (k * gap) := fun k => Nat.mul_assoc _ _ _
    have e3 : (q + 1) * gap = q * gap + gap := by rw [Nat.add_mul]; omega
    by_cases h1 : gap < 2 * t
    · refine ⟨q + 1, by simp [h1], ?_, ?_, ?_, ?_, by omega, by omega⟩ <;> (try rw [e1]) <;> (try rw [e2]) <;> (try rw [e3]) <;> omega
    · by_cases h2 : gap = 2 * t
      · by_cases h3 : q % 2 = 1
        · refine ⟨q + 1, by simp [← h2, h3], ?_, ?_, ?_, ?_, by omega, by omega⟩ <;> (try rw [e1]) <;> (try rw [e2]) <;> (try rw [e3]) <;> omega
        · refine ⟨q, by simp [← h2, h3], ?_, ?_, ?_, ?_, by omega, by omega⟩ <;> (try rw [e1]) <;> (try rw [e2]) <;> omega
      · refine ⟨q, by simp [h1, h2], ?_, ?_, ?_, ?_, by omega, by omega⟩ <;> (try rw [e1]) <;> (try rw [e2]) <;> omega
  unfold Toward.cut
  simp only [Nat.one_shiftLeft]
  by_cases hd : d ≤ n.log2 + 2
  · rw [Nat.min_eq_left hd]
    exact key _ (Nat.two_pow_pos _)
  · rw [Nat.min_eq_right (by omega)]
    have hl : n < 2 ^ (n.log2 + 1) := Nat.lt_log2_self
    have hp : 2 ^ (n.log2 + 2) ≤ 2 ^ d := Nat.pow_le_pow_right (by omega) (by omega)
    have e : (2 : Nat) ^ (n.log2 + 2) = 2 * 2 ^ (n.log2 + 1) := by rw [Nat.pow_succ]; omega
    have hlt : n < 2 ^ (n.log2 + 2) := by omega
    rw [Nat.div_eq_of_lt hlt, Nat.mod_eq_of_lt hlt, Nat.div_eq_of_lt (by omega)]
    refine ⟨0, ?_, by omega, by omega, by omega, by omega, by omega, by omega⟩
    have h1 : ¬ 2 ^ (n.log2 + 2) < 2 * n := by omega
    simp [h1]

end Go.Proofs.Ytneidejngbokcaa

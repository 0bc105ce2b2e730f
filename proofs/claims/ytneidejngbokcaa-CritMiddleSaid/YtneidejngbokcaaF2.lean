/- Plain facts on rounding: the rung of the word nearest to a number. No program in sight. -/
import Derived.Test.YtneidejngbokcaaF1
import Derived.Test.YtneidejngbokcaaA7
namespace Go.Proofs.Ytneidejngbokcaa
open Ieee

theorem even_rung {e k r : Nat} (hr : r = e * 4503599627370496 + k) (h : k % 2 = 0) : r % 2 = 0 := by omega

theorem near_drop {mag a b d e k : Nat} (hE : 2 ^ e * 2 ^ b = 2 ^ d * 2 ^ a) (hk : k ≤ 9007199254740992) (hk2 : 4503599627370496 ≤ k ∨ e = 0) (hlow : 4503599627370496 ≤ mag / 2 ^ d ∨ e = 0)
    (h1 : 2 * mag ≤ (2 * k + 1) * 2 ^ d) (h1e : 2 * mag = (2 * k + 1) * 2 ^ d → k % 2 = 0) (h2 : 2 * k * 2 ^ d ≤ 2 * mag + 2 ^ d) (h2e : 2 * k * 2 ^ d = 2 * mag + 2 ^ d → k % 2 = 0) :
    Near (2 ^ b) (mag * 2 ^ a) (e * 4503599627370496 + k) := by
  have pA : 0 < 2 ^ a := Nat.two_pow_pos _
  have pB : 0 < 2 ^ b := Nat.two_pow_pos _
  have pD : 0 < 2 ^ d := Nat.two_pow_pos _
  have pE : 0 < 2 ^ e := Nat.two_pow_pos _
  have hdm := Nat.div_mul_le_self mag (2 ^ d)
  have er : mg (e * 4503599627370496 + k) = k * 2 ^ e := mg_eq hk hk2
  have up1 : (k + 1) * 2 ^ e ≤ mg (e * 4503599627370496 + k + 1) ∧ (k < 9007199254740992 → mg (e * 4503599627370496 + k + 1) = (k + 1) * 2 ^ e) ∧ (k = 9007199254740992 → (k + 1) * 2 ^ e < mg (e * 4503599627370496 + k + 1)) := by
    by_cases hlt : k < 9007199254740992
    · have : mg (e * 4503599627370496 + (k + 1)) = (k + 1) * 2 ^ e := mg_eq (by omega) (by omega)
      rw [Nat.add_assoc, this]
      exact ⟨Nat.le_refl _, fun _ => rfl, fun h => by omega⟩
    · have hk' : k = 9007199254740992 := by omega
      subst hk'
      have : mg ((e + 1) * 4503599627370496 + 4503599627370497) = 4503599627370497 * 2 ^ (e + 1) := mg_eq (by omega) (by omega)
      rw [show e * 4503599627370496 + 9007199254740992 + 1 = (e + 1) * 4503599627370496 + 4503599627370497 by omega, this, Nat.pow_succ]
      generalize 2 ^ e = E at *
      refine ⟨by omega, fun h => by omega, fun _ => by omega⟩
  have key : ∀ x y : Nat, x * 2 ^ d ≤ y → x * 2 ^ e * 2 ^ b ≤ y * 2 ^ a := fun x y h => by
    rw [Nat.mul_assoc, hE, ← Nat.mul_assoc]; exact Nat.mul_le_mul_right _ h
  have key2 : ∀ x y : Nat, y ≤ x * 2 ^ d → y * 2 ^ a ≤ x * 2 ^ e * 2 ^ b := fun x y h => by
    rw [Nat.mul_assoc, hE, ← Nat.mul_assoc]; exact Nat.mul_le_mul_right _ h
  have key3 : ∀ x y : Nat, y * 2 ^ a = x * 2 ^ e * 2 ^ b → y = x * 2 ^ d := fun x y h => by
    rw [Nat.mul_assoc, hE, ← Nat.mul_assoc] at h; exact Nat.eq_of_mul_eq_mul_right pA h
  have em : 2 * (mag * 2 ^ a) = (2 * mag) * 2 ^ a := (Nat.mul_assoc _ _ _).symm
  have es : k * 2 ^ e + (k + 1) * 2 ^ e = (2 * k + 1) * 2 ^ e := by rw [← Nat.add_mul]; congr 1; omega
  refine ⟨?_, ?_, ?_, ?_⟩
  · rw [em, er]
    refine Nat.le_trans (key2 _ _ h1) (Nat.mul_le_mul_right _ ?_)
    rw [← es]
    exact Nat.add_le_add_left up1.1 _
  · rw [em, er]
    intro h
    by_cases hlt : k < 9007199254740992
    · rw [up1.2.1 hlt, es] at h
      exact even_rung rfl (h1e (key3 _ _ h))
    · exact even_rung rfl (by omega)
  · intro q hq
    rw [em, er]
    by_cases h0 : k = 0
    · subst h0; omega
    by_cases hq2 : 4503599627370496 ≤ k - 1 ∨ e = 0
    · have eq : mg q = (k - 1) * 2 ^ e := by
        rw [show q = e * 4503599627370496 + (k - 1) by omega]; exact mg_eq (by omega) hq2
      rw [eq, ← Nat.add_mul]
      refine key _ _ ?_
      have : (k - 1 + k) * 2 ^ d + 2 ^ d = 2 * k * 2 ^ d := by
        rw [← Nat.succ_mul]; congr 1; omega
      omega
    · have hk' : k = 4503599627370496 := by omega
      have hm : k * 2 ^ d ≤ mag := by
        subst hk'
        exact Nat.le_trans (Nat.mul_le_mul_right _ (by omega)) hdm
      have h3 := mg_step q
      rw [hq, er] at h3
      refine Nat.le_trans (Nat.mul_le_mul_right _ (show mg q + k * 2 ^ e ≤ (2 * k) * 2 ^ e by rw [Nat.mul_assoc]; omega)) (key _ _ ?_)
      rw [Nat.mul_assoc]; omega
  · intro q hq
    rw [em, er]
    intro h
    by_cases h0 : k = 0
    · subst h0; omega
    by_cases hq2 : 4503599627370496 ≤ k - 1 ∨ e = 0
    · have eq : mg q = (k - 1) * 2 ^ e := by
        rw [show q = e * 4503599627370496 + (k - 1) by omega]; exact mg_eq (by omega) hq2
      rw [eq, ← Nat.add_mul] at h
      have h4 := key3 _ _ h.symm
      have : (k - 1 + k) * 2 ^ d + 2 ^ d = 2 * k * 2 ^ d := by
        rw [← Nat.succ_mul]; congr 1; omega
      exact even_rung rfl (h2e (by omega))
    · exact even_rung rfl (by omega)

theorem nearest_near (neg : Bool) (mag : Nat) (place : Int) : ∃ r0, FloatKind.f64.format.nearest neg mag place = FloatKind.f64.format.word neg (min r0 9218868437227405312) ∧ Near (2 ^ (-1074 - place).toNat) (mag * 2 ^ (place + 1074).toNat) r0 := by
  have e1 : FloatKind.f64.format.leastPlace = -1074 := by decide +kernel
  have e2 : FloatKind.f64.format.infRung = 9218868437227405312 := by decide +kernel
  have e3 : FloatKind.f64.format.binade = 4503599627370496 := by decide +kernel
  have e4 : ((FloatKind.f64.format.fractionBits : Nat) : Int) = 52 := by decide +kernel
  unfold Format.nearest
  by_cases h0 : mag = 0
  · subst h0
    rw [if_pos rfl]
    refine ⟨0, by simp, ?_⟩
    rw [Nat.zero_mul]
    have := Near.exact (r := 0) (Nat.two_pow_pos (-1074 - place).toNat)
    rwa [mg_zero, Nat.zero_mul] at this
  rw [if_neg h0]
  simp only [e1, e2, e3, e4]
  obtain ⟨last, hlast⟩ : ∃ last : Int, last = max (place + mag.log2 - 52) (-1074) := ⟨_, rfl⟩
  rw [← hlast]
  have hL1 : 2 ^ mag.log2 ≤ mag := Nat.log2_self_le h0
  have hL2 : mag < 2 ^ (mag.log2 + 1) := Nat.lt_log2_self
  generalize mag.log2 = L at *
  refine ⟨_, rfl, ?_⟩
  have hge : -1074 ≤ last := by omega
  obtain ⟨e, he⟩ : ∃ e : Nat, (last - -1074).toNat = e := ⟨_, rfl⟩
  rw [he]
  by_cases hc : last ≤ place
  · have hb : (-1074 - place).toNat = 0 := by omega
    obtain ⟨u, hu⟩ : ∃ u : Nat, (place - last).toNat = u := ⟨_, rfl⟩
    have hd : (last - place).toNat = 0 := by omega
    have ha : (place + 1074).toNat = u + e := by omega
    rw [hb, hu, hd, ha, Nat.shiftLeft_eq]
    obtain ⟨k, ek, c1, _, c3, _, _, _⟩ := cut_even (neg := neg) (n := mag * 2 ^ u) (d := 0)
    have hk : k = mag * 2 ^ u := by simp at c1 c3; omega
    rw [ek, hk]
    have hlt : mag * 2 ^ u < 9007199254740992 := by
      have h1 : mag * 2 ^ u < 2 ^ (L + 1) * 2 ^ u := Nat.mul_lt_mul_of_pos_right hL2 (Nat.two_pow_pos _)
      have h2 : 2 ^ (L + 1) * 2 ^ u ≤ 2 ^ 53 := by
        rw [← Nat.pow_add]
        exact Nat.pow_le_pow_right (by omega) (by omega)
      have : (2 : Nat) ^ 53 = 9007199254740992 := by decide
      omega
    have hor : 4503599627370496 ≤ mag * 2 ^ u ∨ e = 0 := by
      by_cases h0 : e = 0
      · exact .inr h0
      · left
        have h1 : 2 ^ L * 2 ^ u ≤ mag * 2 ^ u := Nat.mul_le_mul_right _ hL1
        have h2 : 2 ^ 52 ≤ 2 ^ L * 2 ^ u := by
          rw [← Nat.pow_add]
          exact Nat.pow_le_pow_right (by omega) (by omega)
        have : (2 : Nat) ^ 52 = 4503599627370496 := by decide
        omega
    have := Near.exact (c := 1) (r := e * 4503599627370496 + mag * 2 ^ u) (by omega)
    rw [mg_eq (by omega) hor] at this
    rw [Nat.pow_add, ← Nat.mul_assoc]
    simpa using this
  · have hu : (place - last).toNat = 0 := by omega
    obtain ⟨d, hd⟩ : ∃ d : Nat, (last - place).toNat = d := ⟨_, rfl⟩
    rw [hu, hd, Nat.shiftLeft_eq, Nat.pow_zero, Nat.mul_one]
    obtain ⟨k, ek, c1, c2, c3, c4, c5, c6⟩ := cut_even (neg := neg) (n := mag) (d := d)
    rw [ek]
    have hlt : mag / 2 ^ d < 9007199254740992 := by
      have : mag < 9007199254740992 * 2 ^ d := by
        refine Nat.lt_of_lt_of_le hL2 ?_
        rw [show (9007199254740992 : Nat) = 2 ^ 53 by decide, ← Nat.pow_add]
        exact Nat.pow_le_pow_right (by omega) (by omega)
      exact (Nat.div_lt_iff_lt_mul (Nat.two_pow_pos _)).2 this
    have hor : 4503599627370496 ≤ mag / 2 ^ d ∨ e = 0 := by
      by_cases h0 : e = 0
      · exact .inr h0
      · left
        refine (Nat.le_div_iff_mul_le (Nat.two_pow_pos _)).2 (Nat.le_trans ?_ hL1)
        rw [show (4503599627370496 : Nat) = 2 ^ 52 by decide, ← Nat.pow_add]
        exact Nat.pow_le_pow_right (by omega) (by omega)
    refine near_drop (d := d) ?_ (by omega) (by omega) hor c1 c2 c3 c4
    rw [← Nat.pow_add, ← Nat.pow_add]
    congr 1
    omega

end Go.Proofs.Ytneidejngbokcaa

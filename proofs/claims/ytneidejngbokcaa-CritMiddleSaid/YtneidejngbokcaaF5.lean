/- Plain facts on floats: quotients by places, whole numbers as floats. No program in sight. -/
import Derived.Test.YtneidejngbokcaaF4
namespace Go.Proofs.Ytneidejngbokcaa
open Ieee

theorem rnd_signed (neg : Bool) (r0 N0 D0 : Nat) (pB : 0 < D0) (h : ∀ c0, (N0 ≤ mg c0 * D0 → r0 ≤ c0) ∧ (mg c0 * D0 ≤ N0 → c0 ≤ r0)) :
    Rnd (FloatKind.f64.format.word neg (min r0 9218868437227405312)) (if neg then -(N0 : Int) else N0) D0 := by
  intro c c1 c2
  rw [R_word _ _ (by omega)]
  have hc : mgI c * (D0 : Int) = if c < 0 then -((mg c.natAbs * D0 : Nat) : Int) else ((mg c.natAbs * D0 : Nat) : Int) := by
    unfold mgI
    split
    · rw [Int.neg_mul, Int.natCast_mul]
    · rw [Int.natCast_mul]
  rw [hc]
  obtain ⟨up, dn⟩ := h c.natAbs
  have hpos : c ≠ 0 → 0 < mg c.natAbs * D0 := fun h => Nat.mul_pos (by have := mg_lt (show 0 < c.natAbs by omega); rw [mg_zero] at this; exact this) pB
  unfold inf at *
  generalize mg c.natAbs * D0 = C at *
  cases neg
  · simp only [Bool.false_eq_true, if_false]
    by_cases h : c < 0
    · rw [if_pos h]
      have := hpos (by omega)
      exact ⟨fun h => by omega, fun h => by omega⟩
    · rw [if_neg h]
      exact ⟨fun h => by have := up (by omega); omega, fun h => by have := dn (by omega); omega⟩
  · simp only [if_true]
    by_cases h : c < 0
    · rw [if_pos h]
      exact ⟨fun h => by have := dn (by omega); omega, fun h => by have := up (by omega); omega⟩
    · rw [if_neg h]
      by_cases h0 : c = 0
      · subst h0
        exact ⟨fun h => by omega, fun h => by have := up (by omega); omega⟩
      · have := hpos h0
        exact ⟨fun h => by omega, fun h => by omega⟩

theorem sticky {D n k e a b : Nat} (hn : 0 < n) (hk : k < 9007199254740992) (hD : D = 0 ∨ n * 9007199254740992 ≤ D) :
    (2 * D * 2 ^ a ≤ k * 2 ^ e * n * 2 ^ b → (2 * (D / n) + (D % n != 0).toNat) * 2 ^ a ≤ k * 2 ^ e * 2 ^ b) ∧
    (k * 2 ^ e * n * 2 ^ b ≤ 2 * D * 2 ^ a → k * 2 ^ e * 2 ^ b ≤ (2 * (D / n) + (D % n != 0).toNat) * 2 ^ a) := by
  have pA : 0 < 2 ^ a := Nat.two_pow_pos _
  have hdm := Nat.div_add_mod D n
  have hm := Nat.mod_lt D hn
  by_cases hr : D % n = 0
  · have e1 : (D % n != 0).toNat = 0 := by rw [hr]; rfl
    have e2 : 2 * D * 2 ^ a = (2 * (D / n)) * 2 ^ a * n := by
      rw [hr, Nat.add_zero] at hdm
      conv => lhs; rw [← hdm]
      rw [Nat.mul_comm n, ← Nat.mul_assoc, Nat.mul_right_comm]
    have e3 : k * 2 ^ e * n * 2 ^ b = k * 2 ^ e * 2 ^ b * n := Nat.mul_right_comm _ _ _
    rw [e1, e2, e3, Nat.add_zero]
    exact ⟨fun h => Nat.le_of_mul_le_mul_right h hn, fun h => Nat.le_of_mul_le_mul_right h hn⟩
  · have e1 : (D % n != 0).toNat = 1 := by simp [hr]
    rw [e1]
    have hD' : n * 9007199254740992 ≤ D := by
      rcases hD with rfl | h
      · simp at hr
      · exact h
    have hq : 9007199254740992 ≤ D / n := (Nat.le_div_iff_mul_le hn).2 (by rw [Nat.mul_comm]; exact hD')
    by_cases hc : a + 1 ≤ e + b
    · obtain ⟨u, hu⟩ : ∃ u, e + b = u + 1 + a := ⟨e + b - 1 - a, by omega⟩
      have ex : k * 2 ^ e * 2 ^ b = 2 * (k * 2 ^ u) * 2 ^ a := by
        rw [Nat.mul_assoc, ← Nat.pow_add, hu, Nat.pow_add, Nat.pow_succ, ← Nat.mul_assoc, ← Nat.mul_assoc, Nat.mul_comm _ 2]
      have ex2 : k * 2 ^ e * n * 2 ^ b = 2 * (k * 2 ^ u * n) * 2 ^ a := by
        rw [Nat.mul_right_comm, ex, Nat.mul_right_comm, Nat.mul_assoc 2]
      rw [ex, ex2]
      generalize k * 2 ^ u = j at *
      generalize D / n = q at *
      refine ⟨fun h => ?_, fun h => ?_⟩
      · have h1 := Nat.le_of_mul_le_mul_right h pA
        have h2 : q < j := by
          refine Nat.lt_of_mul_lt_mul_left (a := n) ?_
          rw [Nat.mul_comm n j]; omega
        exact Nat.mul_le_mul_right _ (by omega)
      · have h1 := Nat.le_of_mul_le_mul_right h pA
        have h2 : j < q + 1 := by
          refine Nat.lt_of_mul_lt_mul_left (a := n) ?_
          rw [Nat.mul_comm n j, Nat.mul_add]; omega
        exact Nat.mul_le_mul_right _ (by omega)
    · have hle : k * 2 ^ e * 2 ^ b < 9007199254740992 * 2 ^ a := by
        rw [Nat.mul_assoc, ← Nat.pow_add]
        refine Nat.lt_of_le_of_lt (Nat.mul_le_mul_left _ (Nat.pow_le_pow_right (by omega) (show e + b ≤ a by omega))) (Nat.mul_lt_mul_of_pos_right hk pA)
      rw [Nat.mul_right_comm k, Nat.mul_right_comm]
      have e3 : k * 2 ^ e * n * 2 ^ b = k * 2 ^ e * 2 ^ b * n := Nat.mul_right_comm _ _ _
      have e4 : k * n * 2 ^ e * 2 ^ b = k * 2 ^ e * 2 ^ b * n := by rw [Nat.mul_right_comm k, e3]
      rw [e4]
      generalize k * 2 ^ e * 2 ^ b = X at *
      have h5 : X * n < 9007199254740992 * 2 ^ a * n := Nat.mul_lt_mul_of_pos_right hle hn
      have h6 : 9007199254740992 * 2 ^ a * n ≤ D * 2 ^ a := by
        rw [Nat.mul_right_comm, Nat.mul_comm _ n]; exact Nat.mul_le_mul_right _ hD'
      have h7 : 2 * 2 ^ a * D = 2 * (D * 2 ^ a) := by rw [Nat.mul_right_comm, Nat.mul_assoc]
      have h8 : 9007199254740992 * 2 ^ a ≤ D / n * 2 ^ a := Nat.mul_le_mul_right _ hq
      have h9 : (2 * (D / n) + 1) * 2 ^ a = 2 * (D / n * 2 ^ a) + 2 ^ a := by rw [Nat.add_mul, Nat.mul_assoc]; omega
      refine ⟨fun h => ?_, fun _ => ?_⟩
      · rw [h7] at h; omega
      · rw [h9]; omega

theorem big_dividend {m n : Nat} (hm0 : m ≠ 0) (hm : m < 9007199254740992) : n * 9007199254740992 ≤ m <<< (54 + n.log2 - m.log2) := by
  rw [Nat.shiftLeft_eq]
  have h1 : 2 ^ m.log2 ≤ m := Nat.log2_self_le hm0
  have h2 : n < 2 ^ (n.log2 + 1) := Nat.lt_log2_self
  have h3 : m.log2 < 53 := (Nat.log2_lt hm0).2 (by simpa using hm)
  calc n * 9007199254740992 ≤ 2 ^ (n.log2 + 1) * 2 ^ 53 := Nat.mul_le_mul (by omega) (by decide)
    _ = 2 ^ m.log2 * 2 ^ (54 + n.log2 - m.log2) := by rw [← Nat.pow_add, ← Nat.pow_add]; congr 1; omega
    _ ≤ _ := Nat.mul_le_mul_right _ h1

theorem quo_rnd {x y : Nat} (hx : Fin' x) (hy : Fin' y) (h0 : 0 < R y) : ∃ z, floatBits .quo .f64 x y = some z ∧ Rnd z (V x * U) (V y) := by
  obtain ⟨m, e, h1, g1, hm, v1⟩ := read_num hx
  obtain ⟨n, f, h2, g2, hn, v2⟩ := read_num hy
  have hs : sg y = false := by
    unfold R at h0
    cases hs : sg y
    · rfl
    · rw [hs] at h0; simp at h0; omega
  have hvy : 0 < V y := by have := mgI_lt h0; rw [mgI_zero] at this; exact this
  have hn0 : 0 < n := by
    rcases Nat.eq_zero_or_pos n with h | h
    · subst h; rw [v2] at hvy; unfold vI at hvy; simp at hvy
    · exact h
  have ef : FloatKind.f64.format.fractionBits + 2 = 54 := by decide +kernel
  obtain ⟨more, hmore⟩ : ∃ more, more = 54 + n.log2 - m.log2 := ⟨_, rfl⟩
  obtain ⟨D, hD⟩ : ∃ D, D = m <<< more := ⟨_, rfl⟩
  have hDz : D = 0 ∨ n * 9007199254740992 ≤ D := by
    by_cases h : m = 0
    · left; rw [hD, h]; simp
    · right; rw [hD, hmore]; exact big_dividend h hm
  obtain ⟨place, hp⟩ : ∃ place : Int, place = -1074 + (e : Int) - (-1074 + (f : Int)) - more - 1 := ⟨_, rfl⟩
  refine ⟨FloatKind.f64.format.nearest (sg x ^^ sg y) (2 * (D / n) + (D % n != 0).toNat) place, ?_, ?_⟩
  · unfold floatBits Format.div
    simp only [h1, h2, Datum.quotient, ef]
    rw [if_neg (by omega), Option.map_some, hp, hD, hmore]
    rfl
  · rw [hs, Bool.xor_false]
    obtain ⟨r0, er, hne⟩ := nearest_near (sg x) (2 * (D / n) + (D % n != 0).toNat) place
    rw [er]
    obtain ⟨a, ha⟩ : ∃ a, a = (place + 1074).toNat := ⟨_, rfl⟩
    obtain ⟨b, hb⟩ : ∃ b, b = (-1074 - place).toNat := ⟨_, rfl⟩
    rw [← ha, ← hb] at hne
    have pB : 0 < 2 ^ b := Nat.two_pow_pos _
    have key : ∀ c0, (m * 2 ^ e * 2 ^ u0 ≤ mg c0 * (n * 2 ^ f) ↔ 2 * D * 2 ^ a ≤ mg c0 * n * 2 ^ b) ∧ (mg c0 * (n * 2 ^ f) ≤ m * 2 ^ e * 2 ^ u0 ↔ mg c0 * n * 2 ^ b ≤ 2 * D * 2 ^ a) := by
      intro c0
      have l : m * 2 ^ e * 2 ^ u0 * 2 ^ b = 2 * D * 2 ^ a * 2 ^ f := by
        rw [hD, Nat.shiftLeft_eq, Nat.mul_comm 2, Nat.mul_assoc m, Nat.mul_assoc m, Nat.mul_assoc m, Nat.mul_assoc m, Nat.mul_assoc m, ← Nat.pow_add, ← Nat.pow_add, ← Nat.pow_succ, ← Nat.pow_add, ← Nat.pow_add]
        congr 2
        have h0 := u0_eq
        omega
      have r : mg c0 * (n * 2 ^ f) * 2 ^ b = mg c0 * n * 2 ^ b * 2 ^ f := by
        rw [← Nat.mul_assoc, Nat.mul_right_comm]
      refine ⟨⟨fun h => ?_, fun h => ?_⟩, ⟨fun h => ?_, fun h => ?_⟩⟩
      · refine Nat.le_of_mul_le_mul_right ?_ (Nat.two_pow_pos f); rw [← l, ← r]; exact Nat.mul_le_mul_right _ h
      · refine Nat.le_of_mul_le_mul_right ?_ pB; rw [l, r]; exact Nat.mul_le_mul_right _ h
      · refine Nat.le_of_mul_le_mul_right ?_ (Nat.two_pow_pos f); rw [← l, ← r]; exact Nat.mul_le_mul_right _ h
      · refine Nat.le_of_mul_le_mul_right ?_ pB; rw [l, r]; exact Nat.mul_le_mul_right _ h
    have h := rnd_signed (sg x) r0 (m * 2 ^ e * 2 ^ u0) (n * 2 ^ f) (Nat.mul_pos hn0 (Nat.two_pow_pos _)) (fun c0 => by
      obtain ⟨k1, k2⟩ := key c0
      obtain ⟨ec, kc, hc, hkc, hor⟩ := rung_form c0
      have hmg : mg c0 = kc * 2 ^ ec := by rw [hc]; exact mg_eq (by omega) hor
      obtain ⟨s1, s2⟩ := sticky (D := D) (e := ec) (a := a) (b := b) hn0 hkc hDz
      rw [← hmg] at s1 s2
      have hex := Near.exact (r := c0) pB
      exact ⟨fun h => Near.mono pB hne hex (s1 (k1.1 h)), fun h => Near.mono pB hex hne (s2 (k2.1 h))⟩)
    have eN : V x * U = if sg x then -((m * 2 ^ e * 2 ^ u0 : Nat) : Int) else ((m * 2 ^ e * 2 ^ u0 : Nat) : Int) := by
      rw [v1]
      unfold vI U
      cases sg x
      · rw [if_neg (by simp), if_neg (by simp), ← Int.natCast_mul]
      · rw [if_pos rfl, if_pos rfl, Int.neg_mul, ← Int.natCast_mul]
    have eD : V y = ((n * 2 ^ f : Nat) : Int) := by rw [v2, hs]; rfl
    rw [eN, eD]
    exact h

end Go.Proofs.Ytneidejngbokcaa

/- Plain facts on floats: each float has a place among the rungs; sums, products, quotients are rounded to the place between. No program in sight. -/
import Derived.Test.YtneidejngbokcaaF2
namespace Go.Proofs.Ytneidejngbokcaa
open Ieee

abbrev inf : Nat := 9218868437227405312
/-- A word's rung, its sign, and both together. -/
def rg (x : Nat) : Nat := x % 9223372036854775808
def sg (x : Nat) : Bool := x / 9223372036854775808 % 2 == 1
def R (x : Nat) : Int := if sg x then -(rg x : Int) else rg x
/-- The magnitude of a rung with its sign. -/
def mgI (c : Int) : Int := if c < 0 then -(mg c.natAbs : Int) else mg c.natAbs
/-- A word's value, in units of the least number. -/
def V (x : Nat) : Int := mgI (R x)
def Fin' (x : Nat) : Prop := rg x < inf

/-- A word z is the number N / D rounded: it is on no side of a rung on which N / D is not. -/
def Rnd (z : Nat) (N D : Int) : Prop := ∀ c : Int, -(inf : Int) ≤ c → c ≤ inf → (N ≤ mgI c * D → R z ≤ c) ∧ (mgI c * D ≤ N → c ≤ R z)

theorem mgI_neg (c : Int) : mgI (-c) = -mgI c := by
  unfold mgI
  by_cases h : c < 0
  · rw [if_pos h, if_neg (by omega), show (-c).natAbs = c.natAbs by omega]; omega
  · by_cases h0 : c = 0
    · subst h0; decide
    · rw [if_neg h, if_pos (by omega), show (-c).natAbs = c.natAbs by omega]

theorem mgI_nat (n : Nat) : mgI (n : Int) = mg n := by
  unfold mgI
  rw [if_neg (by omega)]; simp

theorem mgI_lt {a b : Int} (h : a < b) : mgI a < mgI b := by
  unfold mgI
  by_cases ha : a < 0
  · rw [if_pos ha]
    have h1 : 0 < mg a.natAbs := by have := mg_lt (show 0 < a.natAbs by omega); rw [mg_zero] at this; exact this
    by_cases hb : b < 0
    · rw [if_pos hb]
      have := mg_lt (show b.natAbs < a.natAbs by omega); omega
    · rw [if_neg hb]; omega
  · rw [if_neg ha, if_neg (by omega)]
    have := mg_lt (show a.natAbs < b.natAbs by omega); omega

theorem mgI_le {a b : Int} (h : a ≤ b) : mgI a ≤ mgI b := by
  by_cases e : a = b
  · subst e; exact Int.le_refl _
  · exact Int.le_of_lt (mgI_lt (by omega))

theorem mgI_lt_iff {a b : Int} : mgI a < mgI b ↔ a < b :=
  ⟨fun h => by
    by_cases e : a < b
    · exact e
    · have := mgI_le (show b ≤ a by omega); omega, mgI_lt⟩

theorem mgI_le_iff {a b : Int} : mgI a ≤ mgI b ↔ a ≤ b :=
  ⟨fun h => by
    by_cases e : a ≤ b
    · exact e
    · have := mgI_lt (show b < a by omega); omega, mgI_le⟩

theorem mgI_zero : mgI 0 = 0 := by decide

theorem rg_lt (x : Nat) : rg x < 9223372036854775808 := Nat.mod_lt _ (by decide)

theorem R_word (neg : Bool) (r : Nat) (h : r < 9223372036854775808) : R (FloatKind.f64.format.word neg r) = if neg then -(r : Int) else r := by
  have e1 : FloatKind.f64.format.signWeight = 9223372036854775808 := by decide +kernel
  unfold R sg rg Format.word
  rw [e1]
  cases neg
  · have h1 : r / 9223372036854775808 = 0 := Nat.div_eq_of_lt h
    simp [h1]; omega
  · have h1 : (9223372036854775808 + r) / 9223372036854775808 = 1 := by omega
    have h2 : (9223372036854775808 + r) % 9223372036854775808 = r := by omega
    simp [h1, h2]

theorem nn_le {x : Nat} (h : isN x = false) : rg x ≤ inf := by
  unfold isN at h
  simp only [decide_eq_false_iff_not] at h
  unfold rg inf; omega

theorem fin_nn {x : Nat} (h : Fin' x) : isN x = false := by
  unfold Fin' rg inf at h
  unfold isN
  simp only [decide_eq_false_iff_not]
  omega

theorem R_le {x : Nat} (h : isN x = false) : -(inf : Int) ≤ R x ∧ R x ≤ inf := by
  have := nn_le h
  unfold R inf at *
  split <;> omega

theorem fin_of {x : Nat} (h1 : -(inf : Int) < R x) (h2 : R x < inf) : Fin' x := by
  unfold Fin'
  unfold R inf at *
  by_cases hs : sg x = true
  · rw [if_pos hs] at h1 h2; omega
  · rw [if_neg hs] at h1 h2; omega

theorem fin_R {x : Nat} (h : Fin' x) : -(inf : Int) < R x ∧ R x < inf := by
  unfold Fin' at h
  unfold R inf at *
  split <;> omega

/-- What a significand and a place stand for. -/
def vI (s : Bool) (m e : Nat) : Int := if s then -((m * 2 ^ e : Nat) : Int) else (m * 2 ^ e : Nat)

theorem read_num {x : Nat} (h : Fin' x) : ∃ m e : Nat, FloatKind.f64.format.read x = .number (sg x) m (-1074 + (e : Int)) ∧ mg (rg x) = m * 2 ^ e ∧ m < 9007199254740992 ∧ V x = vI (sg x) m e := by
  have e1 : FloatKind.f64.format.signWeight = 9223372036854775808 := by decide +kernel
  have e2 : FloatKind.f64.format.infRung = 9218868437227405312 := by decide +kernel
  have e3 : FloatKind.f64.format.binade = 4503599627370496 := by decide +kernel
  have e4 : FloatKind.f64.format.leastPlace = -1074 := by decide +kernel
  have hV : ∀ m e, mg (rg x) = m * 2 ^ e → V x = vI (sg x) m e := by
    intro m e hm
    unfold V vI R
    cases sg x with
    | true =>
      rw [if_pos rfl, if_pos rfl, mgI_neg, mgI_nat, hm]
    | false =>
      rw [if_neg (by simp), if_neg (by simp), mgI_nat, hm]
  unfold Fin' at h
  unfold Format.read
  simp only [e1, e2, e3, e4]
  by_cases hb : x % 9223372036854775808 < 4503599627370496
  · have hm : mg (rg x) = rg x * 2 ^ 0 := by unfold mg; rw [if_pos (by unfold rg; exact hb)]; simp
    refine ⟨rg x, 0, ?_, hm, ?_, hV _ _ hm⟩
    · rw [if_pos hb]; simp [sg, rg]
    · unfold rg; omega
  · have hi : x % 9223372036854775808 < 9218868437227405312 := h
    have hm : mg (rg x) = (4503599627370496 + rg x % 4503599627370496) * 2 ^ (rg x / 4503599627370496 - 1) := by unfold mg; rw [if_neg (by unfold rg; exact hb)]
    refine ⟨_, _, ?_, hm, ?_, hV _ _ hm⟩
    · rw [if_neg hb, if_pos hi]; simp [sg, rg]
    · omega

theorem signed_eq (s : Bool) (m u : Nat) : signed s m u = vI s m u := by
  unfold signed vI
  simp only [Nat.shiftLeft_eq]

theorem vI_scale (s : Bool) (m u a : Nat) : vI s m u * (2 ^ a : Nat) = vI s m (u + a) := by
  unfold vI
  rw [Nat.pow_add, ← Nat.mul_assoc]
  cases s
  · rw [if_neg (by simp), if_neg (by simp), ← Int.natCast_mul]
  · rw [if_pos rfl, if_pos rfl, Int.neg_mul, ← Int.natCast_mul]

theorem cmp_scale (a b : Int) (k : Nat) : compare a b = compare (a * (2 ^ k : Nat)) (b * (2 ^ k : Nat)) := by
  have hp : (0 : Int) < ((2 ^ k : Nat) : Int) := by have := Nat.two_pow_pos k; omega
  generalize ((2 ^ k : Nat) : Int) = p at *
  simp only [compare, compareOfLessAndEq]
  have e1 : a * p < b * p ↔ a < b := Int.mul_lt_mul_right hp
  have e2 : a * p = b * p ↔ a = b := ⟨fun h => Int.eq_of_mul_eq_mul_right (by omega) h, fun h => by rw [h]⟩
  simp only [e1, e2]

theorem cmp_R (x y : Nat) : compare (V x) (V y) = compare (R x) (R y) := by
  unfold V
  generalize R x = a
  generalize R y = b
  simp only [compare, compareOfLessAndEq]
  have e1 := @mgI_lt_iff a b
  have e2 : mgI a = mgI b ↔ a = b := ⟨fun h => by
    have h1 := @mgI_le_iff a b
    have h2 := @mgI_le_iff b a
    have := h1.1 (by omega)
    have := h2.1 (by omega)
    omega, fun h => by rw [h]⟩
  simp only [e1, e2]

theorem ordr_fin {x y : Nat} (hx : Fin' x) (hy : Fin' y) : ordr x y = some (compare (R x) (R y)) := by
  obtain ⟨m, e, h1, _, _, v1⟩ := read_num hx
  obtain ⟨n, f, h2, _, _, v2⟩ := read_num hy
  unfold ordr Format.order
  rw [h1, h2, ← cmp_R, v1, v2]
  simp only [Datum.order, signed_eq]
  congr 1
  rw [cmp_scale _ _ (min e f), vI_scale, vI_scale]
  congr 2 <;> omega

end Go.Proofs.Ytneidejngbokcaa

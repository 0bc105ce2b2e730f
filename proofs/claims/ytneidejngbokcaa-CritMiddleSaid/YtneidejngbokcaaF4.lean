/- Plain facts on floats: order, sums, differences, products and quotients by places. No program in sight. -/
import Derived.Test.YtneidejngbokcaaF3
namespace Go.Proofs.Ytneidejngbokcaa
open Ieee

theorem read_inf {x : Nat} (h : isN x = false) (h2 : ¬ Fin' x) : FloatKind.f64.format.read x = .infinity (sg x) ∧ R x = if sg x then -(inf : Int) else inf := by
  have e1 : FloatKind.f64.format.signWeight = 9223372036854775808 := by decide +kernel
  have e2 : FloatKind.f64.format.infRung = 9218868437227405312 := by decide +kernel
  have e3 : FloatKind.f64.format.binade = 4503599627370496 := by decide +kernel
  have hr : rg x = inf := by have := nn_le h; unfold Fin' at h2; omega
  refine ⟨?_, by unfold R; rw [hr]⟩
  unfold Format.read
  unfold rg inf at hr
  simp only [e1, e2, e3, hr]
  rw [if_neg (by omega), if_neg (by omega)]
  rfl

theorem cmp_lt {a b : Int} (h : a < b) : compare a b = .lt := by simp [compare, compareOfLessAndEq, h]
theorem cmp_gt {a b : Int} (h : b < a) : compare a b = .gt := by
  simp only [compare, compareOfLessAndEq]
  rw [if_neg (by omega), if_neg (by omega)]
theorem cmp_eq {a b : Int} (h : a = b) : compare a b = .eq := by subst h; simp [compare, compareOfLessAndEq]

theorem ordr_nn {x y : Nat} (hx : isN x = false) (hy : isN y = false) : ordr x y = some (compare (R x) (R y)) := by
  by_cases fx : Fin' x
  · by_cases fy : Fin' y
    · exact ordr_fin fx fy
    · obtain ⟨m, e, h1, _⟩ := read_num fx
      obtain ⟨h2, r2⟩ := read_inf hy fy
      have := fin_R fx
      unfold ordr Format.order
      rw [h1, h2, r2]
      cases sg y
      · simp only [Datum.order]; rw [cmp_lt (by simpa using this.2)]; rfl
      · simp only [Datum.order]; rw [cmp_gt (by simpa using this.1)]; rfl
  · obtain ⟨h1, r1⟩ := read_inf hx fx
    by_cases fy : Fin' y
    · obtain ⟨m, e, h2, _⟩ := read_num fy
      have := fin_R fy
      unfold ordr Format.order
      rw [h1, h2, r1]
      cases sg x
      · simp only [Datum.order]; rw [cmp_gt (by simpa using this.2)]; rfl
      · simp only [Datum.order]; rw [cmp_lt (by simpa using this.1)]; rfl
    · obtain ⟨h2, r2⟩ := read_inf hy fy
      unfold ordr Format.order
      rw [h1, h2, r1, r2]
      cases sg x <;> cases sg y <;> decide

theorem Rnd.conv {z : Nat} {N D N' D' : Int} (h : Rnd z N D) (hD : 0 < D) (hD' : 0 < D') (e : N * D' = N' * D) : Rnd z N' D' := by
  intro c c1 c2
  obtain ⟨a, b⟩ := h c c1 c2
  refine ⟨fun h => a ?_, fun h => b ?_⟩
  · refine Int.le_of_mul_le_mul_right ?_ hD'
    rw [e, Int.mul_assoc, Int.mul_comm D D', ← Int.mul_assoc]
    exact Int.mul_le_mul_of_nonneg_right h (by omega)
  · refine Int.le_of_mul_le_mul_right ?_ hD'
    rw [e, Int.mul_assoc, Int.mul_comm D D', ← Int.mul_assoc]
    exact Int.mul_le_mul_of_nonneg_right h (by omega)

theorem rnd_nearest (neg : Bool) (mag : Nat) (place : Int) : Rnd (FloatKind.f64.format.nearest neg mag place) (vI neg mag (place + 1074).toNat) ((2 ^ (-1074 - place).toNat : Nat) : Int) := by
  obtain ⟨r0, e, hn⟩ := nearest_near neg mag place
  rw [e]
  have pB : 0 < 2 ^ (-1074 - place).toNat := Nat.two_pow_pos _
  intro c c1 c2
  have hex := Near.exact (r := c.natAbs) pB
  rw [R_word _ _ (by omega)]
  have hN : vI neg mag (place + 1074).toNat = if neg then -((mag * 2 ^ (place + 1074).toNat : Nat) : Int) else ((mag * 2 ^ (place + 1074).toNat : Nat) : Int) := rfl
  rw [hN]
  generalize mag * 2 ^ (place + 1074).toNat = M at *
  generalize 2 ^ (-1074 - place).toNat = B at *
  have hc : mgI c * (B : Int) = if c < 0 then -((mg c.natAbs * B : Nat) : Int) else ((mg c.natAbs * B : Nat) : Int) := by
    unfold mgI
    split
    · rw [Int.neg_mul, Int.natCast_mul]
    · rw [Int.natCast_mul]
  rw [hc]
  have up : M ≤ mg c.natAbs * B → r0 ≤ c.natAbs := fun h => Near.mono pB hn hex h
  have dn : mg c.natAbs * B ≤ M → c.natAbs ≤ r0 := fun h => Near.mono pB hex hn h
  have hpos : c ≠ 0 → 0 < mg c.natAbs * B := fun h => Nat.mul_pos (by have := mg_lt (show 0 < c.natAbs by omega); rw [mg_zero] at this; exact this) pB
  unfold inf at *
  generalize mg c.natAbs * B = C at *
  cases neg
  · simp only [Bool.false_eq_true, if_false]
    by_cases h : c < 0
    · rw [if_pos h]
      have := hpos (by omega)
      exact ⟨fun h => by omega, fun h => by omega⟩
    · rw [if_neg h]
      exact ⟨fun h => by have := up (by omega); omega, fun h => by have := dn (by omega); omega⟩
  · simp only [if_true]
    by_cases h : c < 0
    · rw [if_pos h]
      exact ⟨fun h => by have := dn (by omega); omega, fun h => by have := up (by omega); omega⟩
    · rw [if_neg h]
      by_cases h0 : c = 0
      · subst h0
        exact ⟨fun h => by omega, fun h => by have := up (by omega); omega⟩
      · have := hpos h0
        exact ⟨fun h => by omega, fun h => by omega⟩

/-- The unit of products and quotients: one, in units of the least number. -/
def u0 : Nat := 1074
theorem u0_eq : u0 = 1074 := rfl
def U : Int := ((2 ^ u0 : Nat) : Int)
theorem U_pos : 0 < U := by unfold U; have := Nat.two_pow_pos u0; omega

theorem vI_of_total (t : Int) (b : Bool) (k : Nat) : vI (if t = 0 then b else decide (t < 0)) t.natAbs k = t * (2 ^ k : Nat) := by
  unfold vI
  by_cases h : t = 0
  · subst h; simp
  · rw [if_neg h]
    by_cases h2 : t < 0
    · simp only [h2, decide_true, if_true]
      rw [Int.natCast_mul, ← Int.neg_mul]; congr 1; omega
    · simp only [h2, decide_false, Bool.false_eq_true, if_false]
      rw [Int.natCast_mul]; congr 1; omega

theorem sum_rnd (s t : Bool) (m n e f : Nat) : ∃ d, (Datum.number s m (-1074 + (e : Int))).sum (.number t n (-1074 + (f : Int))) = some d ∧ Rnd (FloatKind.f64.format.write d) (vI s m e + vI t n f) 1 := by
  refine ⟨_, rfl, ?_⟩
  show Rnd (FloatKind.f64.format.nearest _ _ _) _ _
  obtain ⟨k, hk⟩ : ∃ k : Nat, min (-1074 + (e : Int)) (-1074 + f) = -1074 + (k : Int) ∧ k = min e f := ⟨min e f, by omega, rfl⟩
  rw [hk.1]
  simp only [signed_eq]
  have h := rnd_nearest (if signed s m (-1074 + (e : Int) - (-1074 + (k : Int))).toNat + signed t n (-1074 + (f : Int) - (-1074 + (k : Int))).toNat = 0 then s && t else decide (signed s m (-1074 + (e : Int) - (-1074 + (k : Int))).toNat + signed t n (-1074 + (f : Int) - (-1074 + (k : Int))).toNat < 0)) (signed s m (-1074 + (e : Int) - (-1074 + (k : Int))).toNat + signed t n (-1074 + (f : Int) - (-1074 + (k : Int))).toNat).natAbs (-1074 + (k : Int))
  simp only [signed_eq] at h
  rw [vI_of_total, show (-1074 + (k : Int) + 1074).toNat = k by omega, show (-1074 - (-1074 + (k : Int))).toNat = 0 by omega, Int.add_mul, vI_scale, vI_scale,
    show (-1074 + (e : Int) - (-1074 + (k : Int))).toNat + k = e by omega, show (-1074 + (f : Int) - (-1074 + (k : Int))).toNat + k = f by omega] at h
  exact h

theorem add_rnd {x y : Nat} (hx : Fin' x) (hy : Fin' y) : ∃ z, floatBits .add .f64 x y = some z ∧ Rnd z (V x + V y) 1 := by
  obtain ⟨m, e, h1, _, _, v1⟩ := read_num hx
  obtain ⟨n, f, h2, _, _, v2⟩ := read_num hy
  obtain ⟨d, hd, hr⟩ := sum_rnd (sg x) (sg y) m n e f
  refine ⟨FloatKind.f64.format.write d, ?_, by rw [v1, v2]; exact hr⟩
  unfold floatBits Format.add
  simp only [h1, h2, hd, Option.map_some]

theorem vI_opp (s : Bool) (m e : Nat) : vI (!s) m e = -vI s m e := by
  unfold vI; cases s <;> simp

theorem sub_rnd {x y : Nat} (hx : Fin' x) (hy : Fin' y) : ∃ z, floatBits .sub .f64 x y = some z ∧ Rnd z (V x - V y) 1 := by
  obtain ⟨m, e, h1, _, _, v1⟩ := read_num hx
  obtain ⟨n, f, h2, _, _, v2⟩ := read_num hy
  obtain ⟨d, hd, hr⟩ := sum_rnd (sg x) (!sg y) m n e f
  refine ⟨FloatKind.f64.format.write d, ?_, by rw [v1, v2]; rw [vI_opp] at hr; exact hr⟩
  unfold floatBits Format.sub
  simp only [h1, h2, Datum.opposite, hd, Option.map_some]

theorem vI_mul (s t : Bool) (m n e f : Nat) : vI (s ^^ t) (m * n) (e + f) = vI s m e * vI t n f := by
  have h : m * n * 2 ^ (e + f) = (m * 2 ^ e) * (n * 2 ^ f) := by
    rw [Nat.pow_add, Nat.mul_assoc, Nat.mul_assoc]; congr 1
    rw [← Nat.mul_assoc, ← Nat.mul_assoc, Nat.mul_comm n]
  unfold vI
  rw [h]
  generalize m * 2 ^ e = a
  generalize n * 2 ^ f = b
  cases s <;> cases t <;> simp [Int.neg_mul, Int.mul_neg]

theorem mul_rnd {x y : Nat} (hx : Fin' x) (hy : Fin' y) : ∃ z, floatBits .mul .f64 x y = some z ∧ Rnd z (V x * V y) U := by
  obtain ⟨m, e, h1, _, _, v1⟩ := read_num hx
  obtain ⟨n, f, h2, _, _, v2⟩ := read_num hy
  refine ⟨FloatKind.f64.format.nearest (sg x ^^ sg y) (m * n) (-1074 + (e : Int) + (-1074 + f)), ?_, ?_⟩
  · unfold floatBits Format.mul
    simp only [h1, h2, Datum.product, Option.map_some]; rfl
  · rw [v1, v2, ← vI_mul]
    refine (rnd_nearest _ _ _).conv (by have := Nat.two_pow_pos (-1074 - (-1074 + (e : Int) + (-1074 + f))).toNat; omega) U_pos ?_
    unfold U
    have h0 := u0_eq
    rw [vI_scale, vI_scale]
    congr 1
    omega

end Go.Proofs.Ytneidejngbokcaa

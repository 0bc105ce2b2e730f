/- Plain facts on floats: bounds of sums, products, quotients; the mean and the variance of numbers are numbers. No program in sight. -/
import Derived.Test.YtneidejngbokcaaC2
import Derived.Test.YtneidejngbokcaaF7
namespace Go.Proofs.Ytneidejngbokcaa

/-- A word of an amount of at most k * 2 ^ e units. -/
structure Bd (z k e : Nat) : Prop where
  fin : Fin' z
  lo : -((k * 2 ^ e : Nat) : Int) ≤ V z
  hi : V z ≤ ((k * 2 ^ e : Nat) : Int)

theorem Bd.mono {z k e k' : Nat} (h : Bd z k e) (hk : k ≤ k') : Bd z k' e := by
  have : k * 2 ^ e ≤ k' * 2 ^ e := Nat.mul_le_mul_right _ hk
  have h1 := h.lo
  have h2 := h.hi
  exact ⟨h.fin, by omega, by omega⟩

theorem bd_of {z k e : Nat} {N D : Int} (h : Rnd z N D) (hk : k < 9007199254740992) (he : 52 ≤ e) (he2 : e ≤ 1980)
    (h1 : -((k * 2 ^ e : Nat) : Int) * D ≤ N) (h2 : N ≤ ((k * 2 ^ e : Nat) : Int) * D) : Bd z k e := by
  obtain ⟨c, c1, c2⟩ : ∃ c : Nat, c < inf ∧ mg c = k * 2 ^ e := by
    by_cases h0 : k = 0
    · exact ⟨0, by unfold inf; omega, by rw [h0, mg_zero]; simp⟩
    · obtain ⟨c, a, _, b⟩ := rung_of h0 hk he he2
      exact ⟨c, a, b⟩
  have e1 : mgI (c : Int) = ((k * 2 ^ e : Nat) : Int) := by rw [mgI_nat, c2]
  have e2 : mgI (-(c : Int)) = -((k * 2 ^ e : Nat) : Int) := by rw [mgI_neg, e1]
  have up := (h c (by omega) (by omega)).1 (by rw [e1]; exact h2)
  have dn := (h (-(c : Int)) (by omega) (by omega)).2 (by rw [e2]; exact h1)
  refine ⟨fin_of (by omega) (by omega), ?_, ?_⟩
  · rw [← e2]; exact mgI_le dn
  · rw [← e1]; exact mgI_le up

theorem bd_sum {z k l e : Nat} {a b : Int} (hr : Rnd z (a + b) 1) (a1 : -((k * 2 ^ e : Nat) : Int) ≤ a) (a2 : a ≤ ((k * 2 ^ e : Nat) : Int)) (b1 : -((l * 2 ^ e : Nat) : Int) ≤ b) (b2 : b ≤ ((l * 2 ^ e : Nat) : Int)) (hk : k + l < 9007199254740992) (he : 52 ≤ e) (he2 : e ≤ 1980) : Bd z (k + l) e := by
  have : (k + l) * 2 ^ e = k * 2 ^ e + l * 2 ^ e := Nat.add_mul _ _ _
  refine bd_of hr hk he he2 ?_ ?_
  · rw [this]; omega
  · rw [this]; omega

theorem Bd.add {x y k l e : Nat} (hx : Bd x k e) (hy : Bd y l e) (hk : k + l < 9007199254740992) (he : 52 ≤ e) (he2 : e ≤ 1980) : ∃ z, fop .add (some x) (some y) = some z ∧ Bd z (k + l) e := by
  obtain ⟨z, hz, hr⟩ := add_rnd hx.fin hy.fin
  exact ⟨z, hz, bd_sum hr hx.lo hx.hi hy.lo hy.hi hk he he2⟩

theorem Bd.sub {x y k l e : Nat} (hx : Bd x k e) (hy : Bd y l e) (hk : k + l < 9007199254740992) (he : 52 ≤ e) (he2 : e ≤ 1980) : ∃ z, fop .sub (some x) (some y) = some z ∧ Bd z (k + l) e := by
  obtain ⟨z, hz, hr⟩ := sub_rnd hx.fin hy.fin
  have h1 := hy.lo
  have h2 := hy.hi
  exact ⟨z, hz, bd_sum (b := -V y) hr hx.lo hx.hi (by omega) (by omega) hk he he2⟩

theorem abs_mul {a b A B : Int} (hA : 0 ≤ A) (a1 : -A ≤ a) (a2 : a ≤ A) (b1 : -B ≤ b) (b2 : b ≤ B) : -(A * B) ≤ a * b ∧ a * b ≤ A * B := by
  have hab : a.natAbs ≤ A.toNat := by omega
  have hbb : b.natAbs ≤ B.toNat := by omega
  have h := Nat.mul_le_mul hab hbb
  rw [← Int.natAbs_mul] at h
  have e : ((A.toNat * B.toNat : Nat) : Int) = A * B := by
    rw [Int.natCast_mul, Int.toNat_of_nonneg hA, Int.toNat_of_nonneg (by omega)]
  omega

theorem Bd.mul {x y k l e f g : Nat} (hx : Bd x k e) (hy : Bd y l f) (hg : e + f = g + u0) (hk : k * l < 9007199254740992) (he : 52 ≤ g) (he2 : g ≤ 1980) : ∃ z, fop .mul (some x) (some y) = some z ∧ Bd z (k * l) g := by
  obtain ⟨z, hz, hr⟩ := mul_rnd hx.fin hy.fin
  have h := abs_mul (by omega) hx.lo hx.hi hy.lo hy.hi
  have e1 : ((k * 2 ^ e : Nat) : Int) * ((l * 2 ^ f : Nat) : Int) = ((k * l * 2 ^ g : Nat) : Int) * U := by
    unfold U
    rw [← Int.natCast_mul, ← Int.natCast_mul]
    generalize u0 = u at *
    have : k * 2 ^ e * (l * 2 ^ f) = k * l * 2 ^ g * 2 ^ u := by
      rw [Nat.mul_assoc (k * l), ← Nat.pow_add, ← hg, Nat.pow_add, Nat.mul_assoc k, Nat.mul_assoc k, ← Nat.mul_assoc (2 ^ e), Nat.mul_comm (2 ^ e) l, Nat.mul_assoc l]
    rw [this]
  rw [e1] at h
  exact ⟨z, hz, bd_of hr hk he he2 (by rw [Int.neg_mul]; exact h.1) h.2⟩

/-- A quotient by what is at least l * 2 ^ f. -/
theorem Bd.quo {x y k l e f q g : Nat} (hx : Bd x k e) (fy : Fin' y) (hy : ((l * 2 ^ f : Nat) : Int) ≤ V y) (h0 : 0 < l) (hq : k * 2 ^ e * 2 ^ u0 ≤ q * 2 ^ g * (l * 2 ^ f)) (hk : q < 9007199254740992) (he : 52 ≤ g) (he2 : g ≤ 1980) :
    ∃ z, fop .quo (some x) (some y) = some z ∧ Bd z q g := by
  have hl : 0 < l * 2 ^ f := Nat.mul_pos h0 (Nat.two_pow_pos _)
  have hyp : 0 < V y := by omega
  obtain ⟨z, hz, hr⟩ := quo_rnd hx.fin fy (V_pos_iff.1 hyp)
  have hu := U_pos
  have e1 : ((k * 2 ^ e : Nat) : Int) * U ≤ ((q * 2 ^ g : Nat) : Int) * V y := by
    refine Int.le_trans ?_ (Int.mul_le_mul_of_nonneg_left hy (by omega))
    unfold U
    rw [← Int.natCast_mul, ← Int.natCast_mul]
    exact Int.ofNat_le.2 hq
  have e2 : V x * U ≤ ((k * 2 ^ e : Nat) : Int) * U := Int.mul_le_mul_of_nonneg_right hx.hi (by omega)
  have e3 : -((k * 2 ^ e : Nat) : Int) * U ≤ V x * U := Int.mul_le_mul_of_nonneg_right hx.lo (by omega)
  rw [Int.neg_mul] at e3
  exact ⟨z, hz, bd_of hr hk he he2 (by rw [Int.neg_mul]; omega) (by omega)⟩

/-- A quotient by a whole number. -/
theorem Bd.quoI {x k e n q : Nat} (hx : Bd x k e) (hn : 0 < n) (hn2 : n < 9007199254740992) (hq : k ≤ q * n) (hk : q < 9007199254740992) (he : 52 ≤ e) (he2 : e ≤ 1980) : ∃ z, fop .quo (some x) (fI n) = some z ∧ Bd z q e := by
  obtain ⟨v, hf⟩ := flI_V (n := (n : Int)) (by omega) (by omega)
  refine hx.quo (l := n) (f := u0) (y := flI n) (g := e) hf (by rw [v]; unfold U; rw [Int.natCast_mul]; exact Int.le_refl _) hn ?_ hk he he2
  have : q * 2 ^ e * (n * 2 ^ u0) = q * n * 2 ^ e * 2 ^ u0 := by
    rw [← Nat.mul_assoc, Nat.mul_right_comm q]
  rw [this]
  exact Nat.mul_le_mul_right _ (Nat.mul_le_mul_right _ hq)

theorem bd_flI {n : Nat} (hn : n < 9007199254740992) : Bd (flI n) n u0 := by
  obtain ⟨v, hf⟩ := flI_V (n := (n : Int)) (by omega) (by omega)
  have e : ((n * 2 ^ u0 : Nat) : Int) = n * U := by unfold U; rw [Int.natCast_mul]
  have : 0 ≤ (n : Int) * U := Int.mul_nonneg (by omega) (by have := U_pos; omega)
  exact ⟨hf, by rw [e, v]; omega, by rw [e, v]; omega⟩

theorem bd_zero (k e : Nat) : Bd 0 k e := by
  have h : V 0 = 0 := by decide
  exact ⟨by unfold Fin'; decide, by omega, by omega⟩

theorem num_bd {x : Nat} (h : numB x = true) : cls x = some x ∧ Bd x 1 (100 + u0) := by
  have hu := u0_eq
  have hK0 : ∀ u, (100 + u - 52) * 4503599627370496 + 4503599627370496 = 5057542381537067008 → mg 5057542381537067008 = 1 * 2 ^ (100 + u) := by
    intro u hu
    have h1 := mg_eq (e := 100 + u - 52) (k := 4503599627370496) (by omega) (.inl (by omega))
    have h2 : 4503599627370496 * 2 ^ (100 + u - 52) = 2 ^ (100 + u) := by
      have h3 : (4503599627370496 : Nat) = 2 ^ 52 := by decide
      have h4 : 52 + (100 + u - 52) = 100 + u := by omega
      rw [h3, ← Nat.pow_add, h4]
    rw [hu] at h1
    rw [h1, h2, Nat.one_mul]
  have hK := hK0 u0 (by rw [hu])
  unfold numB at h
  rw [Bool.and_eq_true] at h
  obtain ⟨hx, _, h1⟩ := geB_nn h.1
  obtain ⟨_, _, h2⟩ := leB_nn h.2
  have r1 : R 5057542381537067008 = 5057542381537067008 := by decide
  have r2 : R 14280914418391842816 = -5057542381537067008 := by decide
  rw [r2] at h1
  rw [r1] at h2
  refine ⟨by unfold cls; rw [hx]; rfl, fin_of (by unfold inf; omega) (by unfold inf; omega), ?_, ?_⟩
  · have := mgI_le h1
    rw [mgI_neg] at this
    have e : mgI 5057542381537067008 = ((mg 5057542381537067008 : Nat) : Int) := mgI_nat 5057542381537067008
    rw [e, hK] at this
    exact this
  · have := mgI_le h2
    have e : mgI 5057542381537067008 = ((mg 5057542381537067008 : Nat) : Int) := mgI_nat 5057542381537067008
    rw [e, hK] at this
    exact this

theorem sumW_bd {n : Nat} {f : Nat → Nat} (h : ∀ i, i < n → numB (f i) = true) (hn : n ≤ 16385) : ∀ k, k ≤ n → ∃ z, sumW (fun i => cls (f i)) k = some z ∧ Bd z k (100 + u0)
  | 0, _ => ⟨0, rfl, bd_zero _ _⟩
  | k + 1, hk => by
    have hu := u0_eq
    obtain ⟨z, hz, hb⟩ := sumW_bd h hn k (by omega)
    obtain ⟨hc, hx⟩ := num_bd (h k (by omega))
    obtain ⟨y, hy, hby⟩ := hb.add hx (by omega) (by omega) (by omega)
    refine ⟨y, ?_, hby⟩
    unfold sumW
    rw [hz, hc, hy]

theorem mean_bd {n : Nat} {f : Nat → Nat} (h : valB n f = true) : ∃ a, mnC n (fun i => cls (f i)) = some a ∧ Bd a 1 (100 + u0) := by
  have hu := u0_eq
  obtain ⟨h1, h2, h3⟩ := valB_get h
  obtain ⟨z, hz, hb⟩ := sumW_bd h3 h2 n (Nat.le_refl _)
  obtain ⟨a, ha, hba⟩ := hb.quoI (n := n) (q := 1) (by omega) (by omega) (by omega) (by omega) (by omega) (by omega)
  exact ⟨a, by unfold mnC; rw [hz, ha], hba⟩

theorem sqC_bd {n : Nat} {f : Nat → Nat} {a : Nat} (h : ∀ i, i < n → numB (f i) = true) (hn : n ≤ 16385) (ha : Bd a 1 (100 + u0)) : ∀ k, k ≤ n → ∃ z, sqC (fun i => cls (f i)) (some a) k = some z ∧ Bd z (k * 4) (200 + u0)
  | 0, _ => ⟨0, rfl, bd_zero _ _⟩
  | k + 1, hk => by
    have hu := u0_eq
    obtain ⟨z, hz, hb⟩ := sqC_bd h hn ha k (by omega)
    obtain ⟨hc, hx⟩ := num_bd (h k (by omega))
    obtain ⟨d, hd, hbd⟩ := hx.sub ha (by omega) (by omega) (by omega)
    obtain ⟨q, hq, hbq⟩ := hbd.mul hbd (g := 200 + u0) (by omega) (by omega) (by omega) (by omega)
    obtain ⟨y, hy, hby⟩ := hb.add hbq (by omega) (by omega) (by omega)
    refine ⟨y, ?_, by have e : (k + 1) * 4 = k * 4 + (1 + 1) * (1 + 1) := by omega
                      rw [e]; exact hby⟩
    unfold sqC
    rw [hz, hc, hd, hq, hy]

theorem var_bd {n : Nat} {f : Nat → Nat} (h : valB n f = true) : ∃ v, vrC n (fun i => cls (f i)) = some v := by
  have hu := u0_eq
  obtain ⟨h1, h2, h3⟩ := valB_get h
  obtain ⟨a, ha, hba⟩ := mean_bd h
  obtain ⟨z, hz, hb⟩ := sqC_bd h3 h2 hba n (Nat.le_refl _)
  obtain ⟨v, hv, _⟩ := hb.quoI (n := n) (q := 4) (by omega) (by omega) (by omega) (by omega) (by omega) (by omega)
  exact ⟨v, by unfold vrC; rw [ha, hz, hv]⟩

end Go.Proofs.Ytneidejngbokcaa

/- Plain facts: sums and means of whole numbers. No program in sight. -/
import Derived.Test.YtneidejngbokcaaF11
namespace Go.Proofs.Ytneidejngbokcaa
open Ieee

theorem word_of {x y : Nat} (hx : x < 18446744073709551616) (hy : y < 18446744073709551616) (h : R x = R y) (h0 : R x ≠ 0) : x = y := by
  unfold R sg rg at *
  split at h <;> split at h <;> simp_all <;> omega

theorem flI_lt (n : Int) : flI n < 18446744073709551616 := FloatKind.f64.format.nearest_lt _ _ _

theorem R_flI0 {n : Int} (h1 : -9007199254740992 < n) (h2 : n < 9007199254740992) (h : R (flI n) = 0) : n = 0 := by
  obtain ⟨v, _⟩ := flI_V h1 h2
  rw [V_zero h] at v
  have hu := U_pos
  rcases Int.mul_eq_zero.1 v.symm with h | h
  · exact h
  · omega

theorem R_flI_inj {a b : Int} (ha1 : -9007199254740992 < a) (ha2 : a < 9007199254740992) (hb1 : -9007199254740992 < b) (hb2 : b < 9007199254740992) : (R (flI a) ≤ R (flI b) ↔ a ≤ b) ∧ (R (flI a) < R (flI b) ↔ a < b) := by
  obtain ⟨va, _⟩ := flI_V ha1 ha2
  obtain ⟨vb, _⟩ := flI_V hb1 hb2
  have hu := U_pos
  rw [← V_le_iff, ← V_lt_iff, va, vb]
  exact ⟨⟨fun h => Int.le_of_mul_le_mul_right h hu, fun h => Int.mul_le_mul_of_nonneg_right h (by omega)⟩, Int.mul_lt_mul_right hu⟩

theorem sg_flI {n : Int} (h1 : -9007199254740992 < n) (h2 : n < 9007199254740992) : sg (flI n) = decide (n < 0) := by
  obtain ⟨v, f⟩ := flI_V h1 h2
  have hu := U_pos
  by_cases hn : n < 0
  · have : V (flI n) < 0 := by rw [v]; exact Int.mul_neg_of_neg_of_pos hn hu
    have hr : R (flI n) < 0 := by
      have := @mgI_lt_iff (R (flI n)) 0
      rw [mgI_zero] at this
      exact this.1 (by assumption)
    unfold R at hr
    rw [decide_eq_true hn]
    by_cases hs : sg (flI n) = true
    · exact hs
    · rw [if_neg hs] at hr; omega
  · rw [decide_eq_false hn]
    by_cases h0 : n = 0
    · subst h0; decide +kernel
    · have : 0 < V (flI n) := by rw [v]; exact Int.mul_pos (by omega) hu
      have hr := V_pos_iff.1 this
      unfold R at hr
      cases hs : sg (flI n)
      · rfl
      · rw [hs] at hr; simp at hr; omega

/-- Sums of whole numbers are exact, as words. -/
theorem add_flI {a b : Int} (ha1 : -4503599627370496 < a) (ha2 : a < 4503599627370496) (hb1 : -4503599627370496 < b) (hb2 : b < 4503599627370496) : fop .add (fI a) (fI b) = fI (a + b) := by
  obtain ⟨va, fa⟩ := flI_V (n := a) (by omega) (by omega)
  obtain ⟨vb, fb⟩ := flI_V (n := b) (by omega) (by omega)
  obtain ⟨vc, fc⟩ := flI_V (n := a + b) (by omega) (by omega)
  obtain ⟨z, hz, hr⟩ := add_rnd fa fb
  have rc := fin_R fc
  have er : R z = R (flI (a + b)) := hr.exact (by omega) (by omega) (by
    show V (flI (a + b)) * 1 = _
    rw [va, vb, vc, Int.add_mul]; omega)
  have hzl : z < 18446744073709551616 := FloatKind.f64.format.add_lt hz
  have hz' : fop .add (fI a) (fI b) = some z := hz
  rw [hz']
  by_cases h0 : R z = 0
  · have hab : a + b = 0 := R_flI0 (by omega) (by omega) (by rw [← er]; exact h0)
    have e0 : flI 0 = 0 := by decide +kernel
    show some z = some (flI (a + b))
    rw [hab, e0]
    -- the sign of a sum that cancels
    have hb : b = -a := by omega
    subst hb
    obtain ⟨m, e, h1, _, _, v1⟩ := read_num fa
    obtain ⟨n, f, h2, _, _, v2⟩ := read_num fb
    unfold floatBits Format.add at hz
    rw [h1, h2] at hz
    simp only [Datum.sum, Option.map_some, Option.some.injEq] at hz
    have htot : signed (sg (flI a)) m (-1074 + (e : Int) - min (-1074 + (e : Int)) (-1074 + (f : Int))).toNat + signed (sg (flI (-a))) n (-1074 + (f : Int) - min (-1074 + (e : Int)) (-1074 + (f : Int))).toNat = 0 := by
      rw [signed_eq, signed_eq]
      have hp : (0 : Int) < ((2 ^ (min e f) : Nat) : Int) := by have := Nat.two_pow_pos (min e f); omega
      have k1 := vI_scale (sg (flI a)) m (-1074 + (e : Int) - min (-1074 + (e : Int)) (-1074 + (f : Int))).toNat (min e f)
      have k2 := vI_scale (sg (flI (-a))) n (-1074 + (f : Int) - min (-1074 + (e : Int)) (-1074 + (f : Int))).toNat (min e f)
      rw [show (-1074 + (e : Int) - min (-1074 + (e : Int)) (-1074 + (f : Int))).toNat + min e f = e by omega, ← v1, va] at k1
      rw [show (-1074 + (f : Int) - min (-1074 + (e : Int)) (-1074 + (f : Int))).toNat + min e f = f by omega, ← v2, vb] at k2
      have k3 : (vI (sg (flI a)) m (-1074 + (e : Int) - min (-1074 + (e : Int)) (-1074 + (f : Int))).toNat + vI (sg (flI (-a))) n (-1074 + (f : Int) - min (-1074 + (e : Int)) (-1074 + (f : Int))).toNat) * ((2 ^ (min e f) : Nat) : Int) = 0 := by
        rw [Int.add_mul, k1, k2, Int.neg_mul]; omega
      rcases Int.mul_eq_zero.1 k3 with h | h
      · exact h
      · omega
    rw [htot] at hz
    have hsg : (sg (flI a) && sg (flI (-a))) = false := by
      rw [sg_flI (by omega) (by omega), sg_flI (by omega) (by omega)]
      by_cases h : a < 0
      · have h5 : ¬ (-a < 0) := by omega
        rw [decide_eq_false h5, Bool.and_false]
      · rw [decide_eq_false h, Bool.false_and]
    rw [if_pos rfl, hsg] at hz
    rw [← hz]
    rfl
  · show some z = some (flI (a + b))
    rw [word_of hzl (flI_lt _) er h0]

def isum (y : Nat → Int) : Nat → Int
  | 0 => 0
  | k + 1 => isum y k + y k

theorem isum_bd {y : Nat → Int} {L H : Int} {n : Nat} (h : ∀ i, i < n → L ≤ y i ∧ y i ≤ H) : ∀ k, k ≤ n → L * k ≤ isum y k ∧ isum y k ≤ H * k
  | 0, _ => by simp [isum]
  | k + 1, hk => by
    obtain ⟨h1, h2⟩ := isum_bd h k (by omega)
    obtain ⟨h3, h4⟩ := h k (by omega)
    have e1 : L * ((k + 1 : Nat) : Int) = L * k + L := by rw [Int.natCast_add, Int.mul_add]; simp
    have e2 : H * ((k + 1 : Nat) : Int) = H * k + H := by rw [Int.natCast_add, Int.mul_add]; simp
    unfold isum
    omega

theorem isum_rev (y : Nat → Int) (n : Nat) : ∀ k, k ≤ n → isum (fun i => y (n - 1 - i)) k = isum y n - isum y (n - k)
  | 0, _ => by simp [isum]
  | k + 1, hk => by
    have h := isum_rev y n k (by omega)
    obtain ⟨l, hl⟩ : ∃ l, n - k = l + 1 := ⟨n - k - 1, by omega⟩
    have e1 : isum y (n - k) = isum y (n - (k + 1)) + y (n - 1 - k) := by
      rw [hl, show n - (k + 1) = l by omega, show n - 1 - k = l by omega]; rfl
    show isum (fun i => y (n - 1 - i)) k + y (n - 1 - k) = _
    omega

theorem isum_same {y z : Nat → Int} {n : Nat} (h : ∀ i, i < n → y i = z i) : ∀ k, k ≤ n → isum y k = isum z k
  | 0, _ => rfl
  | k + 1, hk => by unfold isum; rw [isum_same h k (by omega), h k (by omega)]

theorem sumW_int {y : Nat → Int} {n : Nat} (h : ∀ i, i < n → -1048576 ≤ y i ∧ y i ≤ 1048576) (hn : n ≤ 1000) : ∀ k, k ≤ n → sumW (fun i => fI (y i)) k = fI (isum y k)
  | 0, _ => by
    have e0 : flI 0 = 0 := by decide +kernel
    show some 0 = some (flI 0)
    rw [e0]
  | k + 1, hk => by
    have hb := isum_bd h k (by omega)
    have hy := h k (by omega)
    show fop .add (sumW (fun i => fI (y i)) k) (fI (y k)) = fI (isum y k + y k)
    rw [sumW_int h hn k (by omega), add_flI (by omega) (by omega) (by omega) (by omega)]

theorem mean_int {y : Nat → Int} {n : Nat} (h : ∀ i, i < n → -1048576 ≤ y i ∧ y i ≤ 1048576) (hn : n ≤ 1000) (hn1 : 1 ≤ n) : ∃ z, mnC n (fun i => fI (y i)) = some z ∧ mnC n (fun i => fI (y i)) = fop .quo (fI (isum y n)) (fI n) ∧ Fin' z ∧
    ∀ c : Int, -1048576 ≤ c → c ≤ 1048576 → (c * n ≤ isum y n → R (flI c) ≤ R z) ∧ (isum y n ≤ c * n → R z ≤ R (flI c)) := by
  have hb := isum_bd h n (Nat.le_refl _)
  have hU := U_pos
  obtain ⟨vs, fs⟩ := flI_V (n := isum y n) (by omega) (by omega)
  obtain ⟨vn, fn⟩ := flI_V (n := (n : Int)) (by omega) (by omega)
  have hp : 0 < V (flI n) := by rw [vn]; exact Int.mul_pos (by omega) hU
  obtain ⟨z, hz, hr⟩ := quo_rnd fs fn (V_pos_iff.1 hp)
  have hm : mnC n (fun i => fI (y i)) = fop .quo (fI (isum y n)) (fI n) := by
    unfold mnC; rw [sumW_int h hn n (Nat.le_refl _)]
  have hz' : fop .quo (fI (isum y n)) (fI n) = some z := hz
  have key : ∀ c : Int, -1048576 ≤ c → c ≤ 1048576 → (c * n ≤ isum y n → R (flI c) ≤ R z) ∧ (isum y n ≤ c * n → R z ≤ R (flI c)) := by
    intro c c1 c2
    obtain ⟨vc, fc⟩ := flI_V (n := c) (by omega) (by omega)
    have rc := fin_R fc
    obtain ⟨a, b⟩ := hr (R (flI c)) (by omega) (by omega)
    have e : mgI (R (flI c)) * V (flI n) = c * n * U * U := by
      show V (flI c) * _ = _
      rw [vc, vn, Int.mul_assoc c U, Int.mul_left_comm U, ← Int.mul_assoc c, ← Int.mul_assoc]
    rw [e, vs] at a b
    exact ⟨fun h => b (Int.mul_le_mul_of_nonneg_right (Int.mul_le_mul_of_nonneg_right h (by omega)) (by omega)), fun h => a (Int.mul_le_mul_of_nonneg_right (Int.mul_le_mul_of_nonneg_right h (by omega)) (by omega))⟩
  have k1 := (key (-1048576) (by omega) (by omega)).1 (by omega)
  have k2 := (key 1048576 (by omega) (by omega)).2 (by omega)
  obtain ⟨_, f1⟩ := flI_V (n := -1048576) (by omega) (by omega)
  obtain ⟨_, f2⟩ := flI_V (n := 1048576) (by omega) (by omega)
  have g1 := fin_R f1
  have g2 := fin_R f2
  exact ⟨z, by rw [hm, hz'], hm, fin_of (by omega) (by omega), key⟩

theorem sq_nn {n : Nat} {f : Nat → Nat} {a : Nat} (h : ∀ i, i < n → numB (f i) = true) (hn : n ≤ 16385) (ha : Bd a 1 (100 + u0)) : ∀ k, k ≤ n → ∃ z, sqC (fun i => cls (f i)) (some a) k = some z ∧ Bd z (k * 4) (200 + u0) ∧ 0 ≤ V z
  | 0, _ => ⟨0, rfl, bd_zero _ _, (show (0 : Int) ≤ V 0 by decide)⟩
  | k + 1, hk => by
    have hu := u0_eq
    have b1 : 52 ≤ 100 + u0 := by omega
    have b2 : 100 + u0 ≤ 1980 := by omega
    have b3 : 52 ≤ 200 + u0 := by omega
    have b4 : 200 + u0 ≤ 1980 := by omega
    have b5 : 100 + u0 + (100 + u0) = 200 + u0 + u0 := by rw [hu]
    obtain ⟨z, hz, hb, h0⟩ := sq_nn h hn ha k (by omega)
    obtain ⟨hc, hx⟩ := num_bd (h k (by omega))
    obtain ⟨d, hd, hbd⟩ := hx.sub ha (by omega) b1 b2
    obtain ⟨q, hq, hbq⟩ := hbd.mul hbd b5 (by omega) b3 b4
    obtain ⟨q', hq', hrq⟩ := mul_rnd hbd.fin hbd.fin
    have e1 : fop .mul (some d) (some d) = some q' := hq'
    rw [e1] at hq
    cases hq
    have q0 : 0 ≤ V q := V_nonneg_iff.2 (rnd_nonneg hrq (by
      rcases Int.le_total 0 (V d) with g | g
      · exact Int.mul_nonneg g g
      · exact Int.mul_nonneg_of_nonpos_of_nonpos g g))
    obtain ⟨y, hy, hby⟩ := hb.add hbq (by omega) b3 b4
    obtain ⟨y', hy', hry⟩ := add_rnd hb.fin hbq.fin
    have e2 : fop .add (some z) (some q) = some y' := hy'
    rw [e2] at hy
    cases hy
    have e : (k + 1) * 4 = k * 4 + (1 + 1) * (1 + 1) := by omega
    refine ⟨y, ?_, by rw [e]; exact hby, V_nonneg_iff.2 (rnd_nonneg hry (by omega))⟩
    unfold sqC
    rw [hz, hc, hd, e1, e2]

theorem var_nn {n : Nat} {f : Nat → Nat} (h : valB n f = true) : ∃ v, vrC n (fun i => cls (f i)) = some v ∧ isN v = false ∧ 0 ≤ R v := by
  obtain ⟨h1, h2, h3⟩ := valB_get h
  obtain ⟨a, ha, hba⟩ := mean_bd h
  obtain ⟨z, hz, hb, h0⟩ := sq_nn h3 h2 hba n (Nat.le_refl _)
  obtain ⟨vn, fn⟩ := flI_V (n := (n : Int)) (by omega) (by omega)
  have hU := U_pos
  have hp : 0 < V (flI n) := by rw [vn]; exact Int.mul_pos (by omega) hU
  obtain ⟨v, hv, hr⟩ := quo_rnd hb.fin fn (V_pos_iff.1 hp)
  refine ⟨v, ?_, floatBits_ok hv, rnd_nonneg hr (Int.mul_nonneg h0 (by omega))⟩
  unfold vrC
  rw [ha, hz]
  exact hv

theorem var_same {c : Int} {n : Nat} (hc : -1048576 ≤ c ∧ c ≤ 1048576) (hn : n ≤ 1000) (hn1 : 1 ≤ n) : Ex (vrC n (fun _ => fI c)) 0 := by
  obtain ⟨z, hz, _, fz, hk⟩ := mean_int (y := fun _ => c) (n := n) (fun i hi => hc) hn hn1
  have hs := isum_bd (y := fun _ => c) (L := c) (H := c) (n := n) (fun i hi => ⟨Int.le_refl _, Int.le_refl _⟩) n (Nat.le_refl _)
  obtain ⟨k1, k2⟩ := hk c hc.1 hc.2
  have rz : R z = R (flI c) := by have := k1 hs.1; have := k2 hs.2; omega
  obtain ⟨vc, fc⟩ := flI_V (n := c) (by omega) (by omega)
  have hi := inf_pos
  have hd : Ex (fop .sub (fI c) (some z)) 0 := by
    obtain ⟨d, hd, hr⟩ := sub_rnd fc fz
    have e : V (flI c) = V z := by unfold V; rw [rz]
    have er : R d = 0 := hr.exact (by omega) (by omega) (by rw [mgI_zero, e]; omega)
    exact ⟨d, hd, fin_of (by omega) (by omega), er⟩
  have hsq : ∀ k, Ex (sqC (fun _ => fI c) (some z) k) 0 := by
    intro k
    induction k with
    | zero => exact ex_zero
    | succ k ih => exact ex_add ih (ex_mul0 hd hd)
  obtain ⟨s, hs, fs, rs⟩ := hsq n
  obtain ⟨vn, fn⟩ := flI_V (n := (n : Int)) (by omega) (by omega)
  have hU := U_pos
  have hp : 0 < V (flI n) := by rw [vn]; exact Int.mul_pos (by omega) hU
  obtain ⟨v, hv, hr⟩ := quo_rnd fs fn (V_pos_iff.1 hp)
  have er : R v = 0 := hr.exact (by omega) (by omega) (by rw [mgI_zero, V_zero rs]; simp)
  refine ⟨v, ?_, fin_of (by omega) (by omega), er⟩
  unfold vrC
  rw [hz, hs]
  exact hv

theorem num_flI {c : Int} (h1 : -1048576 ≤ c) (h2 : c ≤ 1048576) : numB (flI c) = true := by
  obtain ⟨_, f⟩ := flI_V (n := c) (by omega) (by omega)
  have a := (R_flI_inj (a := c) (b := 1048576) (by omega) (by omega) (by omega) (by omega)).1.2 h2
  have b := (R_flI_inj (a := -1048576) (b := c) (by omega) (by omega) (by omega) (by omega)).1.2 h1
  have r1 : R (flI 1048576) ≤ R 5057542381537067008 := by decide +kernel
  have r2 : R 14280914418391842816 ≤ R (flI (-1048576)) := by decide +kernel
  unfold numB
  rw [Bool.and_eq_true]
  exact ⟨geB_of (fin_nn f) (by decide) (by omega), leB_of (fin_nn f) (by decide) (by omega)⟩

end Go.Proofs.Ytneidejngbokcaa

/- Plain facts: an average of at most 60 values is a number. No program in sight. -/
import Derived.Test.YtneidejngbokcaaF9
namespace Go.Proofs.Ytneidejngbokcaa

theorem rnd_nonneg {z : Nat} {N D : Int} (h : Rnd z N D) (hN : 0 ≤ N) : 0 ≤ R z :=
  (h 0 (by unfold inf; omega) (by unfold inf; omega)).2 (by rw [mgI_zero, Int.zero_mul]; exact hN)

/-- The class of a number from 0 to 2 ^ e units. -/
def Nb (c : Cl) (e : Nat) : Prop := ∃ z, c = some z ∧ Fin' z ∧ 0 ≤ V z ∧ V z ≤ ((2 ^ e : Nat) : Int)

theorem Nb.mono {c : Cl} {e e' : Nat} (h : Nb c e) (he : e ≤ e') : Nb c e' := by
  obtain ⟨z, h1, h2, h3, h4⟩ := h
  have : 2 ^ e ≤ 2 ^ e' := Nat.pow_le_pow_right (by omega) he
  exact ⟨z, h1, h2, h3, by omega⟩

theorem bd_one {z e : Nat} (f : Fin' z) (h0 : 0 ≤ V z) (h1 : V z ≤ ((2 ^ e : Nat) : Int)) : Bd z 1 e := by
  have : 1 * 2 ^ e = 2 ^ e := Nat.one_mul _
  exact ⟨f, by rw [this]; omega, by rw [this]; exact h1⟩

theorem Bd.nb {z e : Nat} (h : Bd z 1 e) (h0 : 0 ≤ R z) : Nb (some z) e := by
  have := h.hi
  rw [Nat.one_mul] at this
  exact ⟨z, rfl, h.fin, V_nonneg_iff.2 h0, this⟩

theorem Nb.mul {a b : Cl} {e f g : Nat} (ha : Nb a e) (hb : Nb b f) (hg : e + f = g + u0) (he : 52 ≤ g) (he2 : g ≤ 1980) : Nb (fop .mul a b) g := by
  obtain ⟨x, rfl, fx, x0, x1⟩ := ha
  obtain ⟨y, rfl, fy, y0, y1⟩ := hb
  obtain ⟨z, hz, bz⟩ := (bd_one fx x0 x1).mul (bd_one fy y0 y1) hg (by omega) he he2
  obtain ⟨z', hz', hr⟩ := mul_rnd fx fy
  have e1 : fop .mul (some x) (some y) = some z' := hz'
  rw [e1] at hz
  cases hz
  rw [e1]
  exact Bd.nb bz (rnd_nonneg hr (Int.mul_nonneg x0 y0))

theorem Nb.quo {a : Cl} {y e f g : Nat} (ha : Nb a e) (fy : Fin' y) (hy : ((2 ^ f : Nat) : Int) ≤ V y) (hg : e + u0 = g + f) (he : 52 ≤ g) (he2 : g ≤ 1980) : Nb (fop .quo a (some y)) g := by
  obtain ⟨x, rfl, fx, x0, x1⟩ := ha
  have hyp : 0 < V y := by have := Nat.two_pow_pos f; omega
  obtain ⟨z, hz, bz⟩ := (bd_one fx x0 x1).quo (l := 1) (f := f) (q := 1) (g := g) fy (by rw [Nat.one_mul]; exact hy) (by omega) (by rw [Nat.one_mul, Nat.one_mul, Nat.one_mul, ← Nat.pow_add, ← Nat.pow_add, hg]; exact Nat.le_refl _) (by omega) he he2
  obtain ⟨z', hz', hr⟩ := quo_rnd fx fy (V_pos_iff.1 hyp)
  have e1 : fop .quo (some x) (some y) = some z' := hz'
  rw [e1] at hz
  cases hz
  rw [e1]
  exact Bd.nb bz (rnd_nonneg hr (Int.mul_nonneg x0 (by have := U_pos; omega)))

theorem nb_one : Nb (some one) u0 := ⟨one, rfl, one_V.2, by rw [one_V.1]; have := U_pos; omega, by rw [one_V.1]; exact Int.le_refl _⟩
theorem nb_zero (e : Nat) : Nb (some 0) e := by
  have h : V 0 = 0 := by decide
  exact ⟨0, rfl, by unfold Fin'; decide, by omega, by rw [h]; exact Int.natCast_nonneg _⟩

theorem nb_int {k : Nat} (hk : k ≤ 60) : Nb (fI (k : Int)) (u0 + 6) := by
  obtain ⟨v, hf⟩ := flI_V (n := (k : Int)) (by omega) (by omega)
  have hu := U_pos
  have e : ((2 ^ (u0 + 6) : Nat) : Int) = 64 * U := by
    unfold U
    rw [Nat.pow_add, Int.natCast_mul, Int.mul_comm]; rfl
  exact ⟨flI k, rfl, hf, by rw [v]; exact Int.mul_nonneg (by omega) (by omega), by rw [v, e]; exact Int.mul_le_mul_of_nonneg_right (by omega) (by omega)⟩

/-- A quotient of whole numbers. -/
theorem nb_ratio {i j : Nat} (hi : i ≤ 60) (hj : 1 ≤ j) (hj2 : j ≤ 60) : Nb (fop .quo (fI (i : Int)) (fI (j : Int))) (u0 + 6) := by
  obtain ⟨v, hf⟩ := flI_V (n := (j : Int)) (by omega) (by omega)
  have hu := u0_eq
  have hU : (1 : Int) * U ≤ (j : Int) * U := Int.mul_le_mul_of_nonneg_right (by omega) (by have := U_pos; omega)
  exact (nb_int hi).quo (f := u0) hf (by rw [v]; rw [Int.one_mul] at hU; exact hU) (by omega) (by omega) (by omega)

theorem prod_rnd {m p : Nat} (hm : m ≤ 16384) (hp : Prob p) : Rnd (prodW m p) (((m : Int) + 1) * U * V p) U := by
  obtain ⟨va, fa⟩ := flI_V (n := (m : Int) + 1) (by omega) (by omega)
  obtain ⟨z, hz, hr⟩ := mul_rnd fa hp.fin
  have hw : prodW m p = z := by unfold prodW; rw [hz]; rfl
  rw [hw, ← va]
  exact hr

theorem one_sub {p : Nat} (hp : Prob p) : ∃ d, fop .sub (some one) (some p) = some d ∧ Fin' d ∧ 0 ≤ V d ∧ V d ≤ U ∧ ∀ k, k ≤ 2000 → ((2 ^ k : Nat) : Int) ≤ U - V p → ((2 ^ k : Nat) : Int) ≤ V d := by
  obtain ⟨d, hd, hr⟩ := sub_rnd one_V.2 hp.fin
  rw [one_V.1] at hr
  have v0 : 0 ≤ V p := V_nonneg_iff.2 hp.lo
  have v1 : V p ≤ U := by rw [← one_V.1]; exact V_le_iff.2 hp.hi
  have r1 := fin_R one_V.2
  have lo := rnd_nonneg hr (by omega)
  have up := (hr (R one) (by omega) (by omega)).1 (by show _ ≤ V one * 1; rw [one_V.1]; omega)
  refine ⟨d, hd, fin_of (by unfold inf; omega) (by omega), V_nonneg_iff.2 lo, by rw [← one_V.1]; exact V_le_iff.2 up, fun k hk h => ?_⟩
  obtain ⟨c, c1, c2⟩ := rung_pow k hk
  have := (hr c (by omega) (by omega)).2 (by rw [mgI_nat, c2]; omega)
  have := mgI_le this
  rw [mgI_nat, c2] at this
  exact this

theorem odds_up {m p : Nat} (hm : m ≤ 59) (hp : Prob p) (hk : kz m p < m) : Nb (fop .quo (some p) (fop .sub (some one) (some p))) (u0 + 6) := by
  have hu := u0_eq
  have hU := U_pos
  have v0 : 0 ≤ V p := V_nonneg_iff.2 hp.lo
  have v1 : V p ≤ U := by rw [← one_V.1]; exact V_le_iff.2 hp.hi
  obtain ⟨_, fP, P0, _⟩ := prob_prod (m := m) (by omega) hp
  have ht : trn (prodW m p) < m := by unfold kz at hk; omega
  have hP : V (prodW m p) < (m : Int) * U := by
    have h0 : 0 ≤ V (prodW m p) := V_nonneg_iff.2 P0
    unfold trn at ht
    have : V (prodW m p) / U < m := by omega
    exact (Int.ediv_lt_iff_lt_mul hU).1 this
  have hlt : ((m : Int) + 1) * V p < m * U := by
    refine Int.not_le.1 fun hge => ?_
    obtain ⟨v, hf⟩ := flI_V (n := (m : Int)) (by omega) (by omega)
    have r := fin_R hf
    have := ((prod_rnd (m := m) (by omega) hp) (R (flI m)) (by omega) (by omega)).2 (by
      show V (flI m) * U ≤ _
      have e : ((m : Int) + 1) * U * V p = ((m : Int) + 1) * V p * U := Int.mul_right_comm _ _ _
      rw [v, e]
      exact Int.mul_le_mul_of_nonneg_right hge (by omega))
    have := V_le_iff.2 this
    rw [v] at this
    omega
  obtain ⟨d, hd, fd, d0, d1, dk⟩ := one_sub hp
  have hE : ((2 ^ (u0 - 6) : Nat) : Int) ≤ U - V p := by
    have e : U = 64 * ((2 ^ (u0 - 6) : Nat) : Int) := by
      unfold U
      have : (2 : Nat) ^ u0 = 64 * 2 ^ (u0 - 6) := by
        have e6 : 6 + (u0 - 6) = u0 := by omega
        rw [show (64 : Nat) = 2 ^ 6 by decide, ← Nat.pow_add, e6]
      rw [this, Int.natCast_mul, Int.cast_ofNat_Int]
    have e2 : ((m : Int) + 1) * (U - V p) = (m : Int) * U + U - ((m : Int) + 1) * V p := by
      rw [Int.mul_sub, Int.add_mul, Int.one_mul]
    have e3 : ((m : Int) + 1) * (U - V p) ≤ 64 * (U - V p) := Int.mul_le_mul_of_nonneg_right (by omega) (by omega)
    omega
  rw [hd]
  have hnp : Nb (some p) u0 := ⟨p, rfl, hp.fin, v0, v1⟩
  exact hnp.quo (f := u0 - 6) fd (dk _ (by omega) hE) (by omega) (by omega) (by omega)

theorem odds_dn {m p : Nat} (hm : m ≤ 59) (hp : Prob p) (hk : 0 < kz m p) : Nb (fop .quo (fop .sub (some one) (some p)) (some p)) (u0 + 7) := by
  have hu := u0_eq
  have hU := U_pos
  have v0 : 0 ≤ V p := V_nonneg_iff.2 hp.lo
  obtain ⟨_, fP, P0, _⟩ := prob_prod (m := m) (by omega) hp
  have ht : 1 ≤ trn (prodW m p) := by unfold kz at hk; omega
  have hP : U ≤ V (prodW m p) := by
    unfold trn at ht
    have : 1 ≤ V (prodW m p) / U := by omega
    have := (Int.le_ediv_iff_mul_le hU).1 this
    rwa [Int.one_mul] at this
  have hpl : ((2 ^ (u0 - 7) : Nat) : Int) ≤ V p := by
    refine Int.not_lt.1 fun hlt => ?_
    obtain ⟨c, c1, c2⟩ := rung_pow (u0 - 1) (by omega)
    have e : ((2 ^ (u0 - 1) : Nat) : Int) = 64 * ((2 ^ (u0 - 7) : Nat) : Int) := by
      have : (2 : Nat) ^ (u0 - 1) = 64 * 2 ^ (u0 - 7) := by
        have e6 : 6 + (u0 - 7) = u0 - 1 := by omega
        rw [show (64 : Nat) = 2 ^ 6 by decide, ← Nat.pow_add, e6]
      rw [this, Int.natCast_mul, Int.cast_ofNat_Int]
    have e2 : U = 2 * ((2 ^ (u0 - 1) : Nat) : Int) := by
      unfold U
      have : (2 : Nat) ^ u0 = 2 * 2 ^ (u0 - 1) := by
        have e6 : u0 - 1 + 1 = u0 := by omega
        rw [Nat.mul_comm, ← Nat.pow_succ, Nat.succ_eq_add_one, e6]
      rw [this, Int.natCast_mul, Int.cast_ofNat_Int]
    have h1 : ((m : Int) + 1) * V p ≤ 64 * V p := Int.mul_le_mul_of_nonneg_right (by omega) v0
    have := ((prod_rnd (m := m) (by omega) hp) c (by omega) (by omega)).1 (by
      have e : ((m : Int) + 1) * U * V p = ((m : Int) + 1) * V p * U := Int.mul_right_comm _ _ _
      rw [mgI_nat, c2, e]
      exact Int.mul_le_mul_of_nonneg_right (by omega) (by omega))
    have := mgI_le this
    rw [mgI_nat, c2] at this
    have h3 : V (prodW m p) ≤ ((2 ^ (u0 - 1) : Nat) : Int) := this
    omega
  obtain ⟨d, hd, fd, d0, d1, dk⟩ := one_sub hp
  rw [hd]
  have hnd : Nb (some d) u0 := ⟨d, rfl, fd, d0, d1⟩
  exact hnd.quo (f := u0 - 7) hp.fin hpl (by omega) (by omega) (by omega)

theorem up_one (m : Nat) (p : Cl) (k0 : Nat) : ∀ s, upW m p k0 s k0 = some one
  | 0 => by unfold upW; rw [if_pos rfl]
  | s + 1 => by
    unfold upW stepU
    rw [if_neg (by omega)]
    exact up_one m p k0 s

theorem up_nb {m p : Nat} (hm : m ≤ 59) (hp : Prob p) : ∀ s, kz m p + s ≤ m → ∀ j, Nb (upW m (some p) (kz m p) s j) (u0 + 12 * s)
  | 0, _, j => by
    unfold upW
    split
    · exact nb_one
    · exact nb_zero _
  | s + 1, hs, j => by
    have hu := u0_eq
    unfold upW stepU
    split
    · have h1 := up_nb hm hp s (by omega) (kz m p + s)
      have h2 := nb_ratio (i := m - (kz m p + s)) (j := kz m p + s + 1) (by omega) (by omega) (by omega)
      have h3 := odds_up hm hp (by omega)
      have e1 : (((m - (kz m p + s) : Nat)) : Int) = (m : Int) - ((kz m p + s : Nat) : Int) := by omega
      have e2 : ((kz m p + s + 1 : Nat) : Int) = ((kz m p + s : Nat) : Int) + 1 := by omega
      rw [e1, e2] at h2
      exact (h1.mul h2 (g := u0 + 12 * s + 6) (by omega) (by omega) (by omega)).mul h3 (by omega) (by omega) (by omega)
    · exact (up_nb hm hp s (by omega) j).mono (by omega)

theorem dn_one (m : Nat) (p : Cl) (k0 : Nat) : ∀ s, s ≤ k0 → dnW m p k0 s k0 = some one
  | 0, _ => up_one m p k0 (m - k0)
  | s + 1, hs => by
    unfold dnW stepD
    rw [if_neg (by omega)]
    exact dn_one m p k0 s (by omega)

theorem dn_nb {m p : Nat} (hm : m ≤ 59) (hp : Prob p) (hk : kz m p ≤ m) : ∀ s, s ≤ kz m p → (∀ j, kz m p - s ≤ j → j ≤ kz m p → Nb (dnW m (some p) (kz m p) s j) (u0 + 13 * s)) ∧ ∀ j, Nb (dnW m (some p) (kz m p) s j) (u0 + 767)
  | 0, _ => by
    refine ⟨fun j h1 h2 => ?_, fun j => ?_⟩
    · have e : j = kz m p := by omega
      subst e
      unfold dnW
      rw [up_one]; exact nb_one
    · unfold dnW
      exact (up_nb hm hp (m - kz m p) (by omega) j).mono (by omega)
  | s + 1, hs => by
    have hu := u0_eq
    obtain ⟨h1, h2⟩ := dn_nb hm hp hk s (by omega)
    have key : Nb (fop .mul (fop .mul (dnW m (some p) (kz m p) s (kz m p - s)) (fop .quo (fI ((kz m p - s : Nat) : Int)) (fI ((m : Int) - ((kz m p - s : Nat) : Int) + 1)))) (fop .quo (fop .sub (some one) (some p)) (some p))) (u0 + 13 * (s + 1)) := by
      have a1 := h1 (kz m p - s) (Nat.le_refl _) (by omega)
      have a2 := nb_ratio (i := kz m p - s) (j := m - (kz m p - s) + 1) (by omega) (by omega) (by omega)
      have e1 : ((m - (kz m p - s) + 1 : Nat) : Int) = (m : Int) - ((kz m p - s : Nat) : Int) + 1 := by omega
      rw [e1] at a2
      have a3 := odds_dn hm hp (by omega)
      exact (a1.mul a2 (g := u0 + 13 * s + 6) (by omega) (by omega) (by omega)).mul a3 (by omega) (by omega) (by omega)
    refine ⟨fun j g1 g2 => ?_, fun j => ?_⟩
    · unfold dnW stepD
      split
      · exact key
      · exact (h1 j (by omega) g2).mono (by omega)
    · unfold dnW stepD
      split
      · exact key.mono (by omega)
      · exact h2 j

theorem sum_nb {F : Nat → Cl} {k0 : Nat} (h : ∀ j, Nb (F j) (u0 + 767)) (h1 : F k0 = some one) : ∀ k, k ≤ 60 → ∃ z, sumW F k = some z ∧ Bd z k (u0 + 767) ∧ 0 ≤ V z ∧ (k0 < k → U ≤ V z)
  | 0, _ => ⟨0, rfl, bd_zero _ _, (show (0 : Int) ≤ V 0 by decide), fun h => by omega⟩
  | k + 1, hk => by
    have hu := u0_eq
    have hU := U_pos
    have b1 : k + 1 < 9007199254740992 := by omega
    have b2 : 52 ≤ u0 + 767 := by omega
    have b3 : u0 + 767 ≤ 1980 := by omega
    obtain ⟨z, hz, bz, z0, z1⟩ := sum_nb h h1 k (by omega)
    obtain ⟨x, hx, fx, x0, x1⟩ := h k
    obtain ⟨y, hy, byy⟩ := bz.add (bd_one fx x0 x1) b1 b2 b3
    clear x1 hu b2 b3
    obtain ⟨y', hy', hr⟩ := add_rnd bz.fin fx
    have e1 : fop .add (some z) (some x) = some y' := hy'
    rw [e1] at hy
    cases hy
    have rz := fin_R bz.fin
    have r1 := fin_R one_V.2
    have g1 := (hr (R z) (by omega) (by omega)).2 (by show V z * 1 ≤ _; omega)
    have g1' := V_le_iff.2 g1
    refine ⟨y, by unfold sumW; rw [hz, hx, e1], byy, by omega, fun hlt => ?_⟩
    by_cases e : k0 = k
    · subst e
      rw [h1] at hx
      cases hx
      have g2 := (hr (R one) (by omega) (by omega)).2 (by show V one * 1 ≤ _; omega)
      have := V_le_iff.2 g2
      rw [one_V.1] at this
      exact this
    · have := z1 (by omega)
      omega

theorem wgt_nb {m p : Nat} (hm : m ≤ 59) (hp : Prob p) (j : Nat) : Nb (wgt m (some p) (kz m p) j) (u0 + 767) := by
  have hu := u0_eq
  have hk : kz m p ≤ m := by unfold kz; omega
  have b2 : 52 ≤ u0 + 767 := by omega
  have b3 : u0 + 767 ≤ 1980 := by omega
  have b4 : u0 + 767 + u0 = u0 + 767 + u0 := rfl
  obtain ⟨_, h2⟩ := dn_nb hm hp hk (kz m p) (Nat.le_refl _)
  obtain ⟨s, hs, bs, _, s1⟩ := sum_nb (F := dnW m (some p) (kz m p) (kz m p)) h2 (dn_one m (some p) (kz m p) _ (Nat.le_refl _)) (m + 1) (by omega)
  unfold wgt
  rw [hs]
  exact (h2 j).quo (f := u0) bs.fin (s1 (by omega)) b4 b2 b3

theorem sumC_bd {n : Nat} {f : Nat → Nat} {G : Nat → Cl} (h : ∀ i, i < n → numB (f i) = true) (hG : ∀ j, Nb (G j) (u0 + 767)) : ∀ k, k ≤ n → k ≤ 60 → ∃ z, sumC (fun i => cls (f i)) G k = some z ∧ Bd z k (u0 + 867)
  | 0, _, _ => ⟨0, rfl, bd_zero _ _⟩
  | k + 1, hk, hk2 => by
    have hu := u0_eq
    have b1 : k + 1 * 1 < 9007199254740992 := by omega
    have b2 : 52 ≤ u0 + 867 := by omega
    have b3 : u0 + 867 ≤ 1980 := by omega
    have b4 : 100 + u0 + (u0 + 767) = u0 + 867 + u0 := by rw [hu]
    obtain ⟨z, hz, bz⟩ := sumC_bd h hG k (by omega) (by omega)
    obtain ⟨hc, bx⟩ := num_bd (h k (by omega))
    obtain ⟨g, hg, fg, g0, g1⟩ := hG k
    obtain ⟨q, hq, bq⟩ := bx.mul (bd_one fg g0 g1) (g := u0 + 867) b4 (by decide) b2 b3
    obtain ⟨y, hy, byy⟩ := bz.add bq b1 b2 b3
    refine ⟨y, ?_, byy⟩
    unfold sumC
    rw [hz, hc, hg, hq, hy]

theorem cls_fin {x : Nat} (h : Fin' x) : cls x = some x := by
  unfold cls; rw [fin_nn h]; rfl

theorem avC_some {n : Nat} {f : Nat → Nat} {p : Nat} (hn : n ≤ 60) (hv : valB n f = true) (hp : probB p = true) : ∃ a, avC n (fun i => cls (f i)) p = some a ∧ Fin' a := by
  obtain ⟨h1, _, h3⟩ := valB_get hv
  have hP := prob_abs hp
  unfold avC
  rw [cls_fin hP.fin]
  obtain ⟨z, hz, bz⟩ := sumC_bd h3 (wgt_nb (m := n - 1) (by omega) hP) n (Nat.le_refl _) hn
  exact ⟨z, hz, bz.fin⟩

end Go.Proofs.Ytneidejngbokcaa

/- Plain facts on bisection with floats. No program in sight. -/
import Derived.Test.YtneidejngbokcaaP1
import Derived.Test.YtneidejngbokcaaF8
namespace Go.Proofs.Ytneidejngbokcaa

/-- Powers of two are written exactly. -/
theorem rung_pow (k : Nat) (hk : k ≤ 2000) : ∃ c : Nat, c < inf ∧ mg c = 2 ^ k := by
  by_cases h : k < 52
  · refine ⟨2 ^ k, ?_, ?_⟩
    · have : 2 ^ k < 2 ^ 52 := Nat.pow_lt_pow_right (by omega) h
      have h2 : (2 : Nat) ^ 52 = 4503599627370496 := by decide
      unfold inf; omega
    · have : 2 ^ k < 2 ^ 52 := Nat.pow_lt_pow_right (by omega) h
      have h2 : (2 : Nat) ^ 52 = 4503599627370496 := by decide
      have := mg_eq (e := 0) (k := 2 ^ k) (by omega) (.inr rfl)
      simpa using this
  · refine ⟨(k - 52) * 4503599627370496 + 4503599627370496, by unfold inf; omega, ?_⟩
    rw [mg_eq (by omega) (.inl (by omega)), show (4503599627370496 : Nat) = 2 ^ 52 by decide, ← Nat.pow_add]
    congr 1; omega

/-- The word of two. -/
def two : Nat := 4611686018427387904
theorem two_V : V two = 2 * U ∧ Fin' two := by
  have h : flI 2 = two := by decide +kernel
  have := flI_V (n := 2) (by decide) (by decide)
  rw [h] at this
  exact this

/-- The middle of two words. -/
def midC (lo hi : Nat) : Option Nat := fop .add (some lo) (fop .quo (fop .sub (some hi) (some lo)) (some two))
def mid (lo hi : Nat) : Nat := (midC lo hi).getD 0

/-- A word of a finite number. -/
structure Iv (lo hi : Nat) : Prop where
  nl : isN lo = false
  nh : isN hi = false
  l0 : 0 ≤ R lo
  le : R lo ≤ R hi
  h1 : R hi ≤ R one

theorem near_pow (E : Nat) (h : 1 ≤ E) : ∃ k, E ≤ 2 ^ k ∧ 2 ^ k < 2 * E := by
  by_cases h1 : E = 1
  · exact ⟨0, by omega, by omega⟩
  · have a := Nat.log2_self_le (n := E - 1) (by omega)
    have b := Nat.lt_log2_self (n := E - 1)
    refine ⟨(E - 1).log2 + 1, by omega, ?_⟩
    rw [Nat.pow_succ]; omega

theorem mid_spec {lo hi : Nat} (h : Iv lo hi) : ∃ d q p, fop .sub (some hi) (some lo) = some d ∧ fop .quo (some d) (some two) = some q ∧ fop .add (some lo) (some q) = some p ∧ midC lo hi = some p ∧ mid lo hi = p ∧ isN p = false ∧ R lo ≤ R p ∧ R p ≤ R hi ∧
    (∀ k, k + 1 ≤ 2000 → V hi - V lo = ((2 ^ (k + 1) : Nat) : Int) → V lo = 0 → V p = ((2 ^ k : Nat) : Int)) := by
  have hu := U_pos
  have ho := R_one
  have fl : Fin' lo := fin_of (by unfold inf; have := h.l0; omega) (by unfold inf; have := h.le; have := h.h1; omega)
  have fh : Fin' hi := fin_of (by unfold inf; have := h.l0; have := h.le; omega) (by unfold inf; have := h.h1; omega)
  have vle : V lo ≤ V hi := V_le_iff.2 h.le
  have v1 : V hi ≤ U := by rw [← one_V.1]; exact V_le_iff.2 h.h1
  have v0 : 0 ≤ V lo := V_nonneg_iff.2 h.l0
  obtain ⟨d, hd, rd⟩ := sub_rnd fh fl
  -- a power of two at or above the difference
  obtain ⟨k, hk1, hk2, hk3⟩ : ∃ k : Nat, V hi - V lo ≤ ((2 ^ k : Nat) : Int) ∧ k ≤ 1100 ∧ (0 < V hi - V lo → ((2 ^ k : Nat) : Int) < 2 * (V hi - V lo)) := by
    by_cases h0 : V hi - V lo = 0
    · exact ⟨0, by rw [h0]; decide, by omega, fun h => by omega⟩
    · obtain ⟨k, a, b⟩ := near_pow (V hi - V lo).toNat (by omega)
      refine ⟨k, by omega, ?_, fun _ => by omega⟩
      have hlt : 2 ^ k < 2 ^ (u0 + 1) := by
        have e : (2 : Nat) ^ (u0 + 1) = 2 * 2 ^ u0 := by rw [Nat.pow_succ]; omega
        have hU : U = ((2 ^ u0 : Nat) : Int) := rfl
        rw [e]
        generalize 2 ^ u0 = X at *
        omega
      have := (Nat.pow_lt_pow_iff_right (by omega : 1 < 2)).1 hlt
      have := u0_eq
      omega
  obtain ⟨c, c1, c2⟩ := rung_pow k (by omega)
  have dup : R d ≤ c := (rd c (by omega) (by omega)).1 (by rw [mgI_nat, c2, Int.mul_one]; exact hk1)
  have dlo : 0 ≤ R d := (rd 0 (by unfold inf; omega) (by unfold inf; omega)).2 (by rw [mgI_zero, Int.zero_mul]; omega)
  have fd : Fin' d := fin_of (by unfold inf; omega) (by omega)
  have vd0 : 0 ≤ V d := V_nonneg_iff.2 dlo
  have vd1 : V d ≤ ((2 ^ k : Nat) : Int) := by have := mgI_le dup; rwa [mgI_nat, c2] at this
  obtain ⟨q, hq, rq⟩ := quo_rnd fd two_V.2 (V_pos_iff.1 (by rw [two_V.1]; omega))
  rw [two_V.1] at rq
  -- the half of it
  obtain ⟨c', c1', c2', c3'⟩ : ∃ c' : Nat, c' < inf ∧ V d ≤ 2 * ((mg c' : Nat) : Int) ∧ ((mg c' : Nat) : Int) ≤ V hi - V lo := by
    by_cases h0 : V hi - V lo = 0
    · have : R d = 0 := by
        have := (rd 0 (by unfold inf; omega) (by unfold inf; omega)).1 (by rw [mgI_zero, Int.zero_mul]; omega)
        omega
      have hv : V d = 0 := by unfold V; rw [this, mgI_zero]
      exact ⟨0, by unfold inf; omega, by rw [hv, mg_zero]; omega, by rw [mg_zero]; omega⟩
    · cases k with
      | zero =>
        refine ⟨1, by unfold inf; omega, ?_, ?_⟩
        · have : mg 1 = 1 := by decide
          rw [this]
          have : (2 : Nat) ^ 0 = 1 := rfl
          rw [this] at vd1
          omega
        · have : mg 1 = 1 := by decide
          rw [this]; omega
      | succ k =>
        obtain ⟨c', a, b⟩ := rung_pow k (by omega)
        have e : (2 : Nat) ^ (k + 1) = 2 * 2 ^ k := by rw [Nat.pow_succ]; omega
        rw [e] at vd1 hk3
        have := hk3 (by omega)
        exact ⟨c', a, by rw [b]; omega, by rw [b]; omega⟩
  have qup : R q ≤ c' := (rq c' (by omega) (by omega)).1 (by
    rw [mgI_nat, ← Int.mul_assoc]
    exact Int.mul_le_mul_of_nonneg_right (by omega) (by omega))
  have qlo : 0 ≤ R q := (rq 0 (by unfold inf; omega) (by unfold inf; omega)).2 (by rw [mgI_zero, Int.zero_mul]; exact Int.mul_nonneg vd0 (by omega))
  have fq : Fin' q := fin_of (by unfold inf; omega) (by omega)
  have vq0 : 0 ≤ V q := V_nonneg_iff.2 qlo
  have vq1 : V q ≤ V hi - V lo := by have := mgI_le qup; rw [mgI_nat] at this; exact Int.le_trans this c3'
  obtain ⟨p, hp, rp⟩ := add_rnd fl fq
  have il := fin_R fl
  have ih := fin_R fh
  have plo : R lo ≤ R p := (rp (R lo) (by omega) (by omega)).2 (by show V lo * 1 ≤ _; omega)
  have phi : R p ≤ R hi := (rp (R hi) (by omega) (by omega)).1 (by show _ ≤ V hi * 1; omega)
  have hd' : fop .sub (some hi) (some lo) = some d := hd
  have hq' : fop .quo (some d) (some two) = some q := hq
  have hp' : fop .add (some lo) (some q) = some p := hp
  have hm : midC lo hi = some p := by unfold midC; rw [hd', hq', hp']
  refine ⟨d, q, p, hd', hq', hp', hm, by unfold mid; rw [hm]; rfl, floatBits_ok hp, plo, phi, fun j hj hE hl => ?_⟩
  obtain ⟨a, a1, a2⟩ := rung_pow (j + 1) hj
  obtain ⟨b, b1, b2⟩ := rung_pow j (by omega)
  have ed : R d = a := rd.exact (by omega) (by omega) (by rw [mgI_nat, a2]; omega)
  have vd : V d = ((2 ^ (j + 1) : Nat) : Int) := by unfold V; rw [ed, mgI_nat, a2]
  have eq : R q = b := rq.exact (by omega) (by omega) (by
    rw [mgI_nat, b2, vd, ← Int.mul_assoc]
    congr 1)
  have vq : V q = ((2 ^ j : Nat) : Int) := by unfold V; rw [eq, mgI_nat, b2]
  have ep : R p = b := rp.exact (by omega) (by omega) (by rw [mgI_nat, b2]; omega)
  unfold V
  rw [ep, mgI_nat, b2]

/-- The bisection, step by step. -/
def bsS (n : Nat) (F : Nat → Cl) (T : Cl) : Nat → Nat × Nat
  | 0 => (0, one)
  | k + 1 => if ordC (avC n F (mid (bsS n F T k).1 (bsS n F T k).2)) T = some .lt then (mid (bsS n F T k).1 (bsS n F T k).2, (bsS n F T k).2) else ((bsS n F T k).1, mid (bsS n F T k).1 (bsS n F T k).2)

theorem bs_iv (n : Nat) (F : Nat → Cl) (T : Cl) : ∀ k, Iv (bsS n F T k).1 (bsS n F T k).2
  | 0 => ⟨isN_zero, isN_one, by show 0 ≤ R 0; rw [R_zero]; omega, by show R 0 ≤ R one; rw [R_zero, R_one]; omega, Int.le_refl _⟩
  | k + 1 => by
    have h := bs_iv n F T k
    obtain ⟨d, q, p, _, _, _, _, e, np, p1, p2, _⟩ := mid_spec h
    show Iv (if ordC (avC n F (mid (bsS n F T k).1 (bsS n F T k).2)) T = some .lt then (mid (bsS n F T k).1 (bsS n F T k).2, (bsS n F T k).2) else ((bsS n F T k).1, mid (bsS n F T k).1 (bsS n F T k).2)).1 _
    show Iv _ (if ordC (avC n F (mid (bsS n F T k).1 (bsS n F T k).2)) T = some .lt then (mid (bsS n F T k).1 (bsS n F T k).2, (bsS n F T k).2) else ((bsS n F T k).1, mid (bsS n F T k).1 (bsS n F T k).2)).2
    have l0 := h.l0
    have h1 := h.h1
    rw [e]
    split
    · exact ⟨np, h.nh, by show 0 ≤ R p; omega, p2, h1⟩
    · exact ⟨h.nl, np, l0, p1, by show R p ≤ _; omega⟩

/-- For a greater target the bisection ends no lower. -/
theorem bs_mono {n : Nat} {F : Nat → Cl} {S T : Cl} (h : ∀ a, ordC a S = some .lt → ordC a T = some .lt) : ∀ k, bsS n F S k = bsS n F T k ∨ R (bsS n F S k).2 ≤ R (bsS n F T k).1
  | 0 => .inl rfl
  | k + 1 => by
    have is := bs_iv n F S k
    have it := bs_iv n F T k
    obtain ⟨_, _, p, _, _, _, _, ep, _, p1, p2, _⟩ := mid_spec is
    obtain ⟨_, _, q, _, _, _, _, eq, _, q1, q2, _⟩ := mid_spec it
    show (if ordC (avC n F (mid (bsS n F S k).1 (bsS n F S k).2)) S = some .lt then (mid (bsS n F S k).1 (bsS n F S k).2, (bsS n F S k).2) else ((bsS n F S k).1, mid (bsS n F S k).1 (bsS n F S k).2)) = (if ordC (avC n F (mid (bsS n F T k).1 (bsS n F T k).2)) T = some .lt then (mid (bsS n F T k).1 (bsS n F T k).2, (bsS n F T k).2) else ((bsS n F T k).1, mid (bsS n F T k).1 (bsS n F T k).2)) ∨
      R (if ordC (avC n F (mid (bsS n F S k).1 (bsS n F S k).2)) S = some .lt then (mid (bsS n F S k).1 (bsS n F S k).2, (bsS n F S k).2) else ((bsS n F S k).1, mid (bsS n F S k).1 (bsS n F S k).2)).2 ≤ R (if ordC (avC n F (mid (bsS n F T k).1 (bsS n F T k).2)) T = some .lt then (mid (bsS n F T k).1 (bsS n F T k).2, (bsS n F T k).2) else ((bsS n F T k).1, mid (bsS n F T k).1 (bsS n F T k).2)).1
    rcases bs_mono h k with he | hle
    · rw [he] at ep p1 p2 ⊢
      by_cases c1 : ordC (avC n F (mid (bsS n F T k).1 (bsS n F T k).2)) S = some .lt
      · rw [if_pos c1, if_pos (h _ c1)]; exact .inl rfl
      · rw [if_neg c1]
        by_cases c2 : ordC (avC n F (mid (bsS n F T k).1 (bsS n F T k).2)) T = some .lt
        · rw [if_pos c2]; exact .inr (Int.le_refl _)
        · rw [if_neg c2]; exact .inl rfl
    · right
      rw [ep, eq]
      split <;> split <;> (simp only; omega)

end Go.Proofs.Ytneidejngbokcaa

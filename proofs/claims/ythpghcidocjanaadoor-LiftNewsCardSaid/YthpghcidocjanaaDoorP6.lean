/- Plain facts: climbs; a forest with one parent turned into a loop. No program in sight. -/
import Derived.Test.YthpghcidocjanaaDoorP5
import Derived.Test.YthpghcidocjanaaDoorT13
namespace Go.Proofs.YthpghcidocjanaaDoor

section
variable {n : Nat} {p : Nat → Int}

theorem clb_spec (hF : Forest n p) (key : Nat → Int) (mx : Int) : ∀ (f v : Nat), v < n → dep n p v ≤ f →
    ∃ j, j ≤ dep n p v ∧ anc p j v = (clb p key mx f v : Nat) ∧ clb p key mx f v < n ∧ lowB key mx (p (clb p key mx f v)) = false ∧ dep n p (clb p key mx f v) = dep n p v - j ∧ ∀ k, 1 ≤ k → k ≤ j → key (anc p k v).toNat ≤ mx
  | 0, v, hv, hd => by
    refine ⟨0, Nat.zero_le _, rfl, hv, lowB_neg ?_, rfl, fun k h1 h2 => by omega⟩
    show p v < 0
    by_cases h0 : 0 ≤ p v
    · obtain ⟨u, _, _, h⟩ := hF.dep_up hv h0
      omega
    · omega
  | f + 1, v, hv, hd => by
    cases hl : lowB key mx (p v) with
    | false =>
      rw [clb_stop hl]
      exact ⟨0, Nat.zero_le _, rfl, hv, hl, rfl, fun k h1 h2 => by omega⟩
    | true =>
      have h0 : 0 ≤ p v := by
        by_cases h0 : 0 ≤ p v
        · exact h0
        · rw [lowB_neg (by omega)] at hl; cases hl
      obtain ⟨u, hu, hun, hdu⟩ := hF.dep_up hv h0
      rw [clb_step hl, hu, Int.toNat_natCast]
      obtain ⟨j, h1, h2, h3, h4, h5, h6⟩ := clb_spec hF key mx f u hun (by omega)
      have e : ∀ k, anc p (k + 1) v = anc p k u := fun k => by
        have := anc_add hF.par hv 1 k
        rw [show 1 + k = k + 1 by omega, anc_one, hu, if_neg (by omega)] at this
        simpa using this
      refine ⟨j + 1, by omega, by rw [e]; exact h2, h3, h4, by omega, fun k k1 k2 => ?_⟩
      obtain ⟨k', rfl⟩ : ∃ k', k = k' + 1 := ⟨k - 1, by omega⟩
      by_cases hk : k' = 0
      · subst hk
        rw [anc_one]
        unfold lowB at hl
        simp only [Bool.and_eq_true, decide_eq_true_eq] at hl
        exact hl.2
      · rw [e]
        exact h6 k' (by omega) (by omega)

/-- A greater limit leads as far or farther. -/
theorem clb_mono (hF : Forest n p) (key : Nat → Int) {a b : Int} (hab : a ≤ b) {v : Nat} (hv : v < n) : inLine n p (clb p key a n v) (clb p key b n v : Nat) = true := by
  have hd : dep n p v ≤ n := by have := hF.dep_lt hv; omega
  obtain ⟨j, h1, h2, h3, h4, h5, h6⟩ := clb_spec hF key a n v hv hd
  obtain ⟨j', h1', h2', h3', h4', h5', h6'⟩ := clb_spec hF key b n v hv hd
  have hjj : j ≤ j' := by
    by_cases hlt : j' < j
    · exfalso
      have e : anc p (j' + 1) v = p (clb p key b n v) := by
        have := anc_add hF.par hv j' 1
        rw [h2', if_neg (by omega), anc_one] at this
        simpa using this
      have hpos : 0 ≤ anc p (j' + 1) v := (hF.anc_iff hv (j' + 1)).2 (by omega)
      have hkey := h6 (j' + 1) (by omega) (by omega)
      rw [e] at hpos hkey
      unfold lowB at h4'
      have : decide (key (p (clb p key b n v)).toNat ≤ b) = true := by rw [decide_eq_true_eq]; omega
      rw [this] at h4'
      simp at h4'
      omega
    · omega
  refine inLine_iff.2 ⟨j' - j, by omega, ?_⟩
  have := anc_add hF.par hv j (j' - j)
  rw [show j + (j' - j) = j' by omega, h2, h2', if_neg (by omega)] at this
  simpa using this.symm

/-- With the greatest limit it leads to the root. -/
theorem clb_root (hF : Forest n p) (key : Nat → Int) {mx : Int} (hk : ∀ u, u < n → key u ≤ mx) {v : Nat} (hv : v < n) : anc p (dep n p v) v = (clb p key mx n v : Nat) := by
  have hd : dep n p v ≤ n := by have := hF.dep_lt hv; omega
  obtain ⟨j, h1, h2, h3, h4, h5, h6⟩ := clb_spec hF key mx n v hv hd
  have hp : p (clb p key mx n v) < 0 := by
    by_cases h0 : 0 ≤ p (clb p key mx n v)
    · have hr := hF.par _ h3
      unfold lowB at h4
      have := hk (p (clb p key mx n v)).toNat (by omega)
      simp only [Bool.and_eq_false_iff, decide_eq_false_iff_not] at h4
      omega
    · omega
  have hj : j = dep n p v := by
    by_cases hj : j = dep n p v
    · exact hj
    · have h7 := (hF.anc_iff h3 1).2 (by omega)
      rw [anc_one] at h7
      omega
  rw [← hj]
  exact h2

/-- One parent is turned to a node below: no forest any more. -/
def turn (p : Nat → Int) (v u : Nat) (i : Nat) : Int := if i = v then (u : Nat) else p i

theorem turn_par (h : Par n p) {v u : Nat} (hu : u < n) : Par n (turn p v u) := fun i hi => by
  unfold turn
  have := h i hi
  split <;> omega

theorem turn_loop {v u : Nat} (hu : u < n) (hl : inLine n p u (v : Int) = true) : ¬ Forest n (turn p v u) := by
  intro hT
  obtain ⟨j0, hj0, e0⟩ := inLine_iff.1 hl
  obtain ⟨j, hj, ej, hmin⟩ := least (P := fun k => anc p k u = (v : Int)) (m := j0) e0
  have same : ∀ k, k ≤ j → anc (turn p v u) k u = anc p k u := by
    intro k
    induction k with
    | zero => intro _; rfl
    | succ k ih =>
      intro hk
      rw [anc_succ, anc_succ, ih (by omega)]
      by_cases hneg : anc p k u < 0
      · rw [if_pos hneg, if_pos hneg]
      · rw [if_neg hneg, if_neg hneg]
        unfold turn
        rw [if_neg]
        intro e
        exact hmin k (by omega) (by omega)
  have back : anc (turn p v u) (j + 1) u = (u : Nat) := by
    rw [anc_succ, same j (Nat.le_refl _), ej, if_neg (by omega)]
    unfold turn
    rw [Int.toNat_natCast, if_pos rfl]
  have round : ∀ m, anc (turn p v u) (m * (j + 1)) u = (u : Nat) := by
    intro m
    induction m with
    | zero => rw [Nat.zero_mul]; rfl
    | succ m ih =>
      rw [Nat.succ_mul, anc_add hT.par hu, ih, if_neg (by omega), Int.toNat_natCast, back]
  have h1 := round n
  have h2 := anc_neg hT.par hu (hT.fin u hu) (show n ≤ n * (j + 1) from Nat.le_mul_of_pos_right n (by omega))
  omega
end

end Go.Proofs.YthpghcidocjanaaDoor

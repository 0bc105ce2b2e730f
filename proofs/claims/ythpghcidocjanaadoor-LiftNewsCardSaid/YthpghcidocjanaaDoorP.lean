/- Plain facts on forests given by parents: ancestors and depths. No program in sight. -/
namespace Go.Proofs.YthpghcidocjanaaDoor

/-- The k-th ancestor of v, or -1. -/
def anc (p : Nat → Int) : Nat → Nat → Int
  | 0, v => v
  | k + 1, v => if anc p k v < 0 then -1 else p (anc p k v).toNat

/-- Parents of n nodes. -/
def Par (n : Nat) (p : Nat → Int) : Prop := ∀ v, v < n → -1 ≤ p v ∧ p v < n

section
variable {n : Nat} {p : Nat → Int}

theorem anc_zero (v : Nat) : anc p 0 v = v := rfl
theorem anc_succ (k v : Nat) : anc p (k + 1) v = if anc p k v < 0 then -1 else p (anc p k v).toNat := rfl

theorem anc_one (v : Nat) : anc p 1 v = p v := by
  rw [anc_succ, anc_zero, if_neg (by omega)]
  simp

theorem anc_range (h : Par n p) {v : Nat} (hv : v < n) (k : Nat) : -1 ≤ anc p k v ∧ anc p k v < n := by
  induction k with
  | zero => rw [anc_zero]; omega
  | succ k ih =>
    rw [anc_succ]
    split
    · omega
    · exact h _ (by omega)

theorem anc_add (h : Par n p) {v : Nat} (hv : v < n) (j k : Nat) : anc p (j + k) v = if anc p j v < 0 then -1 else anc p k (anc p j v).toNat := by
  induction k with
  | zero =>
    have := (anc_range h hv j).1
    rw [anc_zero, Nat.add_zero]
    split <;> omega
  | succ k ih =>
    rw [← Nat.add_assoc, anc_succ, ih]
    split
    · simp
    · rw [anc_succ]

theorem anc_neg (h : Par n p) {v : Nat} (hv : v < n) {j : Nat} (hj : anc p j v < 0) {k : Nat} (hk : j ≤ k) : anc p k v = -1 := by
  have := anc_add h hv j (k - j)
  rw [show j + (k - j) = k by omega, if_pos hj] at this
  exact this

theorem anc_pos (h : Par n p) {v : Nat} (hv : v < n) {k : Nat} (hk : 0 ≤ anc p k v) {j : Nat} (hj : j ≤ k) : 0 ≤ anc p j v := by
  by_cases hn : anc p j v < 0
  · rw [anc_neg h hv hn hj] at hk
    omega
  · omega

/-- Counting. -/
def cnt : Nat → (Nat → Bool) → Nat
  | 0, _ => 0
  | n + 1, P => cnt n P + (P n).toNat
def sumTo (g : Nat → Nat) : Nat → Nat
  | 0 => 0
  | n + 1 => sumTo g n + g n

theorem sumTo_add (g h : Nat → Nat) (n : Nat) : sumTo (fun i => g i + h i) n = sumTo g n + sumTo h n := by
  induction n with
  | zero => rfl
  | succ n ih => simp only [sumTo]; rw [ih]; omega

theorem sumTo_zero {g : Nat → Nat} {n : Nat} (h : ∀ i, i < n → g i = 0) : sumTo g n = 0 := by
  induction n with
  | zero => rfl
  | succ n ih => simp only [sumTo]; rw [ih (fun i hi => h i (by omega)), h n (by omega)]

theorem sumTo_le {g : Nat → Nat} {n : Nat} (h : ∀ i, i < n → g i ≤ 1) : sumTo g n ≤ n := by
  induction n with
  | zero => simp [sumTo]
  | succ n ih => simp only [sumTo]; have := ih (fun i hi => h i (by omega)); have := h n (by omega); omega

theorem sumTo_one {n x : Nat} (hx : x < n) : sumTo (fun i => (decide (x = i)).toNat) n = 1 := by
  induction n with
  | zero => omega
  | succ n ih =>
    simp only [sumTo]
    by_cases e : x = n
    · subst e
      rw [sumTo_zero (fun i hi => by have : ¬ x = i := by omega
                                     simp [this])]
      simp
    · rw [ih (by omega)]
      simp [e]

theorem sumTo_cnt {n m : Nat} {f : Nat → Nat} (h : ∀ j, j < m → f j < n) : sumTo (fun i => cnt m (fun j => decide (f j = i))) n = m := by
  induction m with
  | zero => exact sumTo_zero (fun _ _ => rfl)
  | succ m ih =>
    have e : sumTo (fun i => cnt (m + 1) (fun j => decide (f j = i))) n = sumTo (fun i => cnt m (fun j => decide (f j = i)) + (decide (f m = i)).toNat) n := rfl
    rw [e, sumTo_add, ih (fun j hj => h j (by omega)), sumTo_one (h m (by omega))]

theorem cnt_zero {m : Nat} {P : Nat → Bool} (h : ∀ i, i < m → P i = false) : cnt m P = 0 := by
  induction m with
  | zero => rfl
  | succ m ih => simp only [cnt]; rw [ih (fun i hi => h i (by omega)), h m (by omega)]; rfl

theorem cnt_le_one {m : Nat} {P : Nat → Bool} (h : ∀ i j, i < m → j < m → P i = true → P j = true → i = j) : cnt m P ≤ 1 := by
  induction m with
  | zero => simp [cnt]
  | succ m ih =>
    simp only [cnt]
    by_cases e : P m = true
    · rw [cnt_zero (fun i hi => by
        by_cases e' : P i = true
        · have := h i m (by omega) (by omega) e' e
          omega
        · simpa using e')]
      rw [e]
      decide
    · have := ih (fun i j hi hj => h i j (by omega) (by omega))
      simp at e
      rw [e]
      simpa using this

/-- m different numbers below n: m is at most n. -/
theorem pigeon {n m : Nat} {f : Nat → Nat} (h : ∀ j, j < m → f j < n) (hi : ∀ i j, i < m → j < m → f i = f j → i = j) : m ≤ n := by
  have h1 := sumTo_cnt h
  have h2 := sumTo_le (g := fun i => cnt m (fun j => decide (f j = i))) (n := n) (fun i _ => cnt_le_one (fun a b ha hb e1 e2 => hi a b ha hb (by simp at e1 e2; omega)))
  omega

/-- Who has n ancestors has them without end. -/
theorem anc_loop (h : Par n p) {v : Nat} (hv : v < n) (hn : 0 ≤ anc p n v) (k : Nat) : 0 ≤ anc p k v := by
  by_cases hk : 0 ≤ anc p k v
  · exact hk
  exfalso
  have hex : ∃ K, anc p K v < 0 ∧ ∀ j, j < K → 0 ≤ anc p j v := by
    have : ∀ m, (∃ K, K ≤ m ∧ anc p K v < 0) → ∃ K, anc p K v < 0 ∧ ∀ j, j < K → 0 ≤ anc p j v := by
      intro m
      induction m with
      | zero =>
        rintro ⟨K, hK, hneg⟩
        exact ⟨K, hneg, fun j hj => by omega⟩
      | succ m ih =>
        rintro ⟨K, hK, hneg⟩
        by_cases hm : ∃ K, K ≤ m ∧ anc p K v < 0
        · exact ih hm
        · refine ⟨K, hneg, fun j hj => ?_⟩
          by_cases hj' : 0 ≤ anc p j v
          · exact hj'
          · exact absurd ⟨j, by omega, by omega⟩ hm
    exact this k ⟨k, Nat.le_refl _, by omega⟩
  obtain ⟨K, hK, hmin⟩ := hex
  have hKn : n < K := by
    by_cases hle : K ≤ n
    · rw [anc_neg h hv hK hle] at hn
      omega
    · omega
  have hd : ∀ i j, i < j → j < K → anc p i v ≠ anc p j v := by
    intro i j hij hj e
    have h1 := anc_add h hv i (K - j)
    have h2 := anc_add h hv j (K - j)
    rw [show j + (K - j) = K by omega] at h2
    rw [← e] at h2
    have h3 := hmin (i + (K - j)) (by omega)
    rw [h1, ← h2] at h3
    omega
  have := pigeon (n := n) (m := K) (f := fun i => (anc p i v).toNat) (fun j hj => by
    have := (anc_range h hv j).2
    have := hmin j hj
    show (anc p j v).toNat < n
    omega) (fun i j hi hj e => by
    have a := hmin i hi
    have b := hmin j hj
    have e' : anc p i v = anc p j v := by
      have : (anc p i v).toNat = (anc p j v).toNat := e
      omega
    rcases Nat.lt_trichotomy i j with h' | h' | h'
    · exact absurd e' (hd i j h' hj)
    · exact h'
    · exact absurd e'.symm (hd j i h' hi))
  omega
end

end Go.Proofs.YthpghcidocjanaaDoor

/- Plain facts on labels: the least element of each element's set. No program in sight. -/
import Derived.Test.YtiaddgagncmbeaaU
namespace Go.Proofs.Ytiaddgagncmbeaa

/-- The least j from i on, among k numbers, with r j = v. -/
def low (r : Nat → Nat) (v : Nat) : Nat → Nat → Nat
  | 0, _ => 0
  | k + 1, i => if r i = v then i else low r v k (i + 1)

def lab (n : Nat) (r : Nat → Nat) (i : Nat) : Nat := low r (r i) n 0

theorem low_spec {r : Nat → Nat} {v : Nat} : ∀ (k i j : Nat), i ≤ j → j < i + k → r j = v → r (low r v k i) = v ∧ i ≤ low r v k i ∧ low r v k i ≤ j := by
  intro k
  induction k with
  | zero => intro i j h1 h2; omega
  | succ k ih =>
    intro i j h1 h2 h3
    unfold low
    by_cases e : r i = v
    · rw [if_pos e]; exact ⟨e, Nat.le_refl _, h1⟩
    · rw [if_neg e]
      have hij : i ≠ j := fun h => e (h ▸ h3)
      have := ih (i + 1) j (by omega) (by omega) h3
      exact ⟨this.1, by omega, this.2.2⟩

/-- lab i is the least element with i's root. -/
theorem lab_spec {n : Nat} {r : Nat → Nat} {i : Nat} (hi : i < n) : r (lab n r i) = r i ∧ lab n r i ≤ i ∧ ∀ j, j < n → r j = r i → lab n r i ≤ j := by
  have h := low_spec (r := r) (v := r i) n 0 i (Nat.zero_le _) (by omega) rfl
  exact ⟨h.1, h.2.2, fun j hj e => (low_spec (r := r) (v := r i) n 0 j (Nat.zero_le _) (by omega) e).2.2⟩

theorem lab_unique {n : Nat} {r : Nat → Nat} {i m : Nat} (hi : i < n) (hm : m < n) (h1 : r m = r i) (h2 : ∀ j, j < n → r j = r i → m ≤ j) : lab n r i = m := by
  have h := lab_spec (n := n) (r := r) hi
  have a := h.2.2 m hm h1
  have b := h2 (lab n r i) (by omega) h.1
  omega

theorem lab_lt {n : Nat} {r : Nat → Nat} {i : Nat} (hi : i < n) : lab n r i < n := by have := (lab_spec (n := n) (r := r) hi).2.1; omega

theorem lab_eq_iff {n : Nat} {r : Nat → Nat} {i j : Nat} (hi : i < n) (hj : j < n) : lab n r i = lab n r j ↔ r i = r j := by
  constructor
  · intro h
    rw [← (lab_spec (r := r) hi).1, ← (lab_spec (r := r) hj).1, h]
  · intro h
    unfold lab
    rw [h]

theorem lab_lab {n : Nat} {r : Nat → Nat} {i : Nat} (hi : i < n) : lab n r (lab n r i) = lab n r i :=
  (lab_eq_iff (lab_lt hi) hi).2 (lab_spec hi).1

/-- Labels hang on which elements are together, not on the roots' names. -/
theorem lab_congr {n : Nat} {r r' : Nat → Nat} (h : ∀ i j, i < n → j < n → (r i = r j ↔ r' i = r' j)) {i : Nat} (hi : i < n) : lab n r i = lab n r' i := by
  have h' := lab_spec (n := n) (r := r') hi
  refine lab_unique hi (lab_lt hi) ((h _ _ (lab_lt hi) hi).2 h'.1) fun j hj e => h'.2.2 j hj ((h _ _ hj hi).1 e)

theorem lab_id {n i : Nat} (hi : i < n) : lab n id i = i :=
  lab_unique hi hi rfl fun j _ e => by simp at e; omega

/-- Labels after the sets of a and b were united. -/
def united (l : Nat → Nat) (a b : Nat) (i : Nat) : Nat := if l i = max (l a) (l b) then min (l a) (l b) else l i

theorem lab_join {n : Nat} {t : T} {x y a b : Nat} (ha : a < n) (hb : b < n) (hxa : (t.r a = x ∧ t.r b = y) ∨ (t.r b = x ∧ t.r a = y)) (hne : x ≠ y) {i : Nat} (hi : i < n) :
    lab n (t.join x y).r i = united (lab n t.r) a b i := by
  have hr : ∀ i, (t.join x y).r i = if t.r i = y then x else t.r i := fun i => rfl
  have sa := lab_spec (n := n) (r := t.r) ha
  have sb := lab_spec (n := n) (r := t.r) hb
  have si := lab_spec (n := n) (r := t.r) hi
  have lna : lab n t.r a ≠ lab n t.r b := by
    intro h
    have := (lab_eq_iff ha hb).1 h
    rcases hxa with ⟨h1, h2⟩ | ⟨h1, h2⟩ <;> omega
  have key : ∀ z, z < n → ((t.join x y).r z = x ↔ t.r z = t.r a ∨ t.r z = t.r b) := by
    intro z hz
    rw [hr]
    rcases hxa with ⟨h1, h2⟩ | ⟨h1, h2⟩
    · rw [h1, h2]
      split <;> omega
    · rw [h1, h2]
      split <;> omega
  have key2 : ∀ z, z < n → ¬ (t.r z = t.r a ∨ t.r z = t.r b) → (t.join x y).r z = t.r z := by
    intro z hz h
    rw [hr, if_neg]
    rcases hxa with ⟨h1, h2⟩ | ⟨h1, h2⟩ <;> omega
  unfold united
  by_cases c : t.r i = t.r a ∨ t.r i = t.r b
  · have hx := (key i hi).2 c
    have e : lab n (t.join x y).r i = min (lab n t.r a) (lab n t.r b) := by
      refine lab_unique hi (by have := lab_lt (n := n) (r := t.r) ha; omega) ?_ ?_
      · rw [hx]
        refine (key _ (by have := lab_lt (n := n) (r := t.r) ha; omega)).2 ?_
        rcases Nat.le_total (lab n t.r a) (lab n t.r b) with h | h
        · rw [Nat.min_eq_left h]; exact .inl sa.1
        · rw [Nat.min_eq_right h]; exact .inr sb.1
      · intro j hj e
        rw [hx] at e
        rcases (key j hj).1 e with h | h
        · have := sa.2.2 j hj h; omega
        · have := sb.2.2 j hj h; omega
    rw [e]
    rcases c with c | c
    · have : lab n t.r i = lab n t.r a := (lab_eq_iff hi ha).2 c
      rw [this]
      split
      · rfl
      · omega
    · have : lab n t.r i = lab n t.r b := (lab_eq_iff hi hb).2 c
      rw [this]
      split
      · rfl
      · omega
  · have hx := key2 i hi c
    have e : lab n (t.join x y).r i = lab n t.r i := by
      refine lab_unique hi (lab_lt hi) ?_ ?_
      · rw [hx, key2 _ (lab_lt hi) (by rw [si.1]; exact c), si.1]
      · intro j hj e
        rw [hx] at e
        refine si.2.2 j hj ?_
        rw [hr] at e
        split at e
        · exfalso
          rcases hxa with ⟨h1, h2⟩ | ⟨h1, h2⟩ <;> omega
        · exact e
    rw [e, if_neg]
    intro h
    rcases Nat.le_total (lab n t.r a) (lab n t.r b) with h' | h'
    · rw [Nat.max_eq_right h'] at h
      exact c (.inr ((lab_eq_iff hi hb).1 h))
    · rw [Nat.max_eq_left h'] at h
      exact c (.inl ((lab_eq_iff hi ha).1 h))

end Go.Proofs.Ytiaddgagncmbeaa

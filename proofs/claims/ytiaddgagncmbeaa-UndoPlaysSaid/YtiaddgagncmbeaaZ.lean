/- Plain facts: the sizes of all sets are n together. No program in sight. -/
import Derived.Test.YtiaddgagncmbeaaY
namespace Go.Proofs.Ytiaddgagncmbeaa

def sumTo (g : Nat → Nat) : Nat → Nat
  | 0 => 0
  | n + 1 => sumTo g n + g n

theorem sumTo_congr {g h : Nat → Nat} {n : Nat} (e : ∀ i, i < n → g i = h i) : sumTo g n = sumTo h n := by
  induction n with
  | zero => rfl
  | succ n ih => simp only [sumTo]; rw [ih (fun i hi => e i (by omega)), e n (by omega)]

theorem sumTo_add (g h : Nat → Nat) (n : Nat) : sumTo (fun i => g i + h i) n = sumTo g n + sumTo h n := by
  induction n with
  | zero => rfl
  | succ n ih => simp only [sumTo]; rw [ih]; omega

theorem sumTo_one {n x : Nat} (hx : x < n) : sumTo (fun i => (decide (x = i)).toNat) n = 1 := by
  induction n with
  | zero => omega
  | succ n ih =>
    simp only [sumTo]
    by_cases e : x = n
    · subst e
      have : sumTo (fun i => (decide (x = i)).toNat) x = 0 := by
        have h : ∀ m, m ≤ x → sumTo (fun i => (decide (x = i)).toNat) m = 0 := by
          intro m hm
          induction m with
          | zero => rfl
          | succ m ih =>
            simp only [sumTo]
            rw [ih (by omega)]
            have : ¬ x = m := by omega
            simp [this]
        exact h x (Nat.le_refl _)
      rw [this]; simp
    · rw [ih (by omega)]
      simp [e]

/-- Each of m things is counted once. -/
theorem sumTo_cnt {n m : Nat} {f : Nat → Nat} (h : ∀ j, j < m → f j < n) : sumTo (fun i => cnt m (fun j => decide (f j = i))) n = m := by
  induction m with
  | zero =>
    have : ∀ n, sumTo (fun i => cnt 0 (fun j => decide (f j = i))) n = 0 := by
      intro n
      induction n with
      | zero => rfl
      | succ n ih => simp only [sumTo, cnt]; simpa [cnt] using ih
    exact this n
  | succ m ih =>
    have e : sumTo (fun i => cnt (m + 1) (fun j => decide (f j = i))) n = sumTo (fun i => cnt m (fun j => decide (f j = i)) + (decide (f m = i)).toNat) n := rfl
    rw [e, sumTo_add, ih (fun j hj => h j (by omega)), sumTo_one (h m (by omega))]

/-- The sizes of the sets of the least elements below j. -/
def smTo (n : Nat) (t : T) (j : Nat) : Nat := sumTo (fun i => if lab n t.r i = i then t.s (t.r i) else 0) j

theorem Built.sum {n : Nat} {t : T} {log : List Nat} {past : List T} (h : Built n t log past) : smTo n t n = n := by
  have hi := h.inv
  refine Eq.trans (sumTo_congr fun i hin => ?_) (sumTo_cnt (n := n) (m := n) (f := lab n t.r) fun j hj => lab_lt hj)
  by_cases e : lab n t.r i = i
  · rw [if_pos e, hi.size _ (hi.rlt i hin) (hi.rr i hin)]
    refine cnt_congr fun j hj => ?_
    have := lab_eq_iff (r := t.r) hj hin
    rw [e] at this
    rw [decide_eq_decide]
    exact this.symm
  · rw [if_neg e]
    refine (cnt_none fun j hj => ?_).symm
    simp only [decide_eq_false_iff_not]
    intro h'
    apply e
    rw [← h']
    exact lab_lab hj

theorem smTo_succ (n : Nat) (t : T) (j : Nat) : smTo n t (j + 1) = smTo n t j + if lab n t.r j = j then t.s (t.r j) else 0 := rfl

theorem sumTo_mono {g : Nat → Nat} {j n : Nat} (h : j ≤ n) : sumTo g j ≤ sumTo g n := by
  induction n with
  | zero => have : j = 0 := by omega
            subst this; exact Nat.le_refl _
  | succ n ih =>
    by_cases e : j = n + 1
    · subst e; exact Nat.le_refl _
    · have := ih (by omega)
      simp only [sumTo]; omega

/-- How many least elements there are below j. -/
def lsTo (n : Nat) (t : T) (j : Nat) : Nat := cnt j (fun i => decide (lab n t.r i = i))

end Go.Proofs.Ytiaddgagncmbeaa

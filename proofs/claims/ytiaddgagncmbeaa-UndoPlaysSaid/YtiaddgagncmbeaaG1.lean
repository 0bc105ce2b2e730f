/- Plain facts: rows out of labels are rows out of roots. No program in sight. -/
import Derived.Test.YtiaddgagncmbeaaF9
namespace Go.Proofs.Ytiaddgagncmbeaa

theorem sumTo_zero {g : Nat → Nat} {n : Nat} (h : ∀ i, i < n → g i = 0) : sumTo g n = 0 := by
  induction n with
  | zero => rfl
  | succ n ih => simp only [sumTo]; rw [ih (fun i hi => h i (by omega)), h n (by omega)]

theorem sumTo_single (g : Nat → Nat) {n x : Nat} (hx : x < n) : sumTo (fun i => g i * (decide (x = i)).toNat) n = g x := by
  induction n with
  | zero => omega
  | succ n ih =>
    simp only [sumTo]
    by_cases e : x = n
    · subst e
      rw [sumTo_zero (fun i hi => by have : ¬ x = i := by omega
                                     simp [this])]
      simp
    · rw [ih (by omega)]
      simp [e]

theorem sumTo_map (g f : Nat → Nat) {n m : Nat} (hf : ∀ j, j < m → f j < n) : sumTo (fun i => g i * cnt m (fun j => decide (f j = i))) n = sumTo (fun j => g (f j)) m := by
  induction m with
  | zero => exact sumTo_zero (fun i _ => by simp [cnt])
  | succ m ih =>
    have e : sumTo (fun i => g i * cnt (m + 1) (fun j => decide (f j = i))) n = sumTo (fun i => g i * cnt m (fun j => decide (f j = i)) + g i * (decide (f m = i)).toNat) n := by
      refine sumTo_congr fun i _ => ?_
      simp only [cnt]
      rw [Nat.mul_add]
    rw [e, sumTo_add, ih (fun j hj => hf j (by omega)), sumTo_single g (hf m (by omega))]
    rfl

section
variable {n : Nat} {S : St}

theorem St.Ok.size_cnt (h : S.Ok n) {i : Nat} (hi : i < n) : cnt n (fun j => decide (S.t.r j = S.t.r i)) = S.t.s (S.t.r i) := by
  have hv := Built.inv h
  exact (hv.size _ (hv.rlt i hi) (hv.rr i hi)).symm

theorem St.Ok.size_lab (h : S.Ok n) {i : Nat} (hi : i < n) : cnt n (fun j => decide (S.lab n j = S.lab n i)) = S.t.s (S.t.r i) := by
  rw [← h.size_cnt hi]
  refine cnt_congr fun j hj => ?_
  have := lab_eq_iff (n := n) (r := S.t.r) hj hi
  rw [decide_eq_decide]
  exact this

theorem St.Ok.cnt_least (h : S.Ok n) {i : Nat} (hi : i < n) : cnt n (fun j => decide (S.lab n j = i)) = if S.lab n i = i then S.t.s (S.t.r i) else 0 := by
  split
  · rename_i e
    rw [← h.size_lab hi, e]
  · rename_i e
    refine cnt_none fun j hj => ?_
    simp only [decide_eq_false_iff_not]
    intro h'
    apply e
    rw [← h']
    exact lab_lab hj

theorem St.Ok.cTo_lab (h : S.Ok n) {i : Nat} (hi : i < n) : cTo (S.lab n) i n = if S.lab n i = i then S.t.s (S.t.r i) else 0 := by
  rw [← h.cnt_least hi]
  refine cnt_congr fun k hk => ?_
  by_cases e : S.lab n k = i
  · have : i ≤ k := by
      rw [← e]
      exact (lab_spec (n := n) (r := S.t.r) hk).2.1
    simp [e, this]
  · simp [e]

theorem St.Ok.s_pos (h : S.Ok n) {i : Nat} (hi : i < n) : 0 < S.t.s (S.t.r i) := by
  rw [← h.size_cnt hi]
  exact cnt_pos hi (by simp)

theorem St.Ok.rC_part (h : S.Ok n) {i : Nat} (hi : i ≤ n) : rC n (S.lab n) i = cnt i (fun j => decide (S.lab n j = j)) := by
  induction i with
  | zero => rfl
  | succ i ih =>
    have := h.s_pos (show i < n by omega)
    simp only [rC, cnt]
    rw [ih (by omega), h.cTo_lab (show i < n by omega)]
    by_cases e : S.lab n i = i
    · simp [e, this]
    · simp [e]

theorem St.Ok.rC_eq (h : S.Ok n) : rC n (S.lab n) n = n - S.log.length := by
  have h1 : cnt n (fun j => decide (S.lab n j = j)) + S.log.length = n := Built.leasts h
  have h2 := h.rC_part (Nat.le_refl n)
  omega

theorem rL_le_iff {l : Nat → Nat} {B i : Nat} : rL n l i ≤ B ↔ ∀ j, j < i → cTo l j n ≤ B := by
  induction i with
  | zero => simp [rL]
  | succ i ih =>
    simp only [rL]
    rw [Nat.max_le, ih]
    constructor
    · rintro ⟨h1, h2⟩ j hj
      by_cases e : j = i
      · subst e; exact h2
      · exact h1 j (by omega)
    · intro h
      exact ⟨fun j hj => h j (by omega), h i (by omega)⟩

theorem mxTo_le_iff {p s : Nat → Nat} {B i : Nat} : mxTo p s i ≤ B ↔ ∀ j, j < i → p j = j → s j ≤ B := by
  induction i with
  | zero => simp [mxTo]
  | succ i ih =>
    simp only [mxTo]
    split
    · rename_i e
      rw [Nat.max_le, ih]
      constructor
      · rintro ⟨h1, h2⟩ j hj hp
        by_cases e : j = i
        · subst e; exact h2
        · exact h1 j (by omega) hp
      · intro h
        exact ⟨fun j hj hp => h j (by omega) hp, h i (by omega) e⟩
    · rename_i e
      rw [ih]
      constructor
      · intro h1 j hj hp
        by_cases e' : j = i
        · subst e'; exact absurd hp e
        · exact h1 j (by omega) hp
      · intro h j hj hp
        exact h j (by omega) hp

theorem St.Ok.rL_eq (h : S.Ok n) : rL n (S.lab n) n = mxTo S.t.p S.t.s n := by
  have hv := Built.inv h
  have key : ∀ B, rL n (S.lab n) n ≤ B ↔ mxTo S.t.p S.t.s n ≤ B := by
    intro B
    rw [rL_le_iff, mxTo_le_iff]
    constructor
    · intro h1 j hj hp
      have hl : S.lab n j < n := lab_lt (n := n) (r := S.t.r) hj
      have hr : S.t.r (S.lab n j) = S.t.r j := (lab_spec (n := n) (r := S.t.r) hj).1
      have := h1 _ hl
      rw [h.cTo_lab hl, if_pos (show S.lab n (S.lab n j) = S.lab n j from lab_lab hj), hr, (hv.pr j hj).1 hp] at this
      exact this
    · intro h1 j hj
      rw [h.cTo_lab hj]
      split
      · exact h1 _ (hv.rlt j hj) ((hv.pr _ (hv.rlt j hj)).2 (hv.rr j hj))
      · omega
  have a := (key _).1 (Nat.le_refl _)
  have b := (key _).2 (Nat.le_refl _)
  omega

theorem rS_sum {l : Nat → Nat} (i : Nat) : rS n l i = sumTo (fun j => cTo l j n * cTo l j n) i := by
  induction i with
  | zero => rfl
  | succ i ih => simp only [rS, sumTo]; rw [ih]

theorem sqTo_sum {p s : Nat → Nat} (i : Nat) : sqTo p s i = sumTo (fun j => if p j = j then s j * s j else 0) i := by
  induction i with
  | zero => rfl
  | succ i ih => simp only [sqTo, sumTo]; split <;> rw [ih]; rfl

theorem St.Ok.rS_eq (h : S.Ok n) : rS n (S.lab n) n = sqTo S.t.p S.t.s n := by
  have hv := Built.inv h
  rw [rS_sum, sqTo_sum]
  have h1 := sumTo_map (fun i => S.t.s (S.t.r i)) (S.lab n) (n := n) (m := n) (fun j hj => lab_lt hj)
  have h2 := sumTo_map S.t.s S.t.r (n := n) (m := n) (fun j hj => hv.rlt j hj)
  have e1 : sumTo (fun j => cTo (S.lab n) j n * cTo (S.lab n) j n) n = sumTo (fun i => S.t.s (S.t.r i) * cnt n (fun j => decide (S.lab n j = i))) n := by
    refine sumTo_congr fun i hi => ?_
    rw [h.cTo_lab hi, h.cnt_least hi]
    split <;> simp
  have e2 : sumTo (fun j => if S.t.p j = j then S.t.s j * S.t.s j else 0) n = sumTo (fun i => S.t.s i * cnt n (fun j => decide (S.t.r j = i))) n := by
    refine sumTo_congr fun i hi => ?_
    by_cases e : S.t.p i = i
    · rw [if_pos e, ← hv.size i hi ((hv.pr i hi).1 e)]
    · rw [if_neg e, cnt_none]
      · simp
      · intro j hj
        simp only [decide_eq_false_iff_not]
        intro h'
        apply e
        refine (hv.pr i hi).2 ?_
        rw [← h']
        exact hv.rr j hj
  rw [e1, e2, h1, h2]
  refine sumTo_congr fun j hj => ?_
  have hr : S.t.r (S.lab n j) = S.t.r j := (lab_spec (n := n) (r := S.t.r) hj).1
  rw [hr]

/-- Both Trials return the same. -/
theorem St.Ok.trial_eq (h : S.Ok n) (m : Nat) (xs ys : Nat → Int) : rtrialV n S m xs ys = trialV n S m xs ys := by
  unfold rtrialV trialV
  split
  · rename_i hin
    unfold allIn2 at hin
    simp only [decide_eq_true_eq] at hin
    have hO := (h.unisTo hin).1
    rw [hO.rL_eq, hO.rC_eq, hO.rS_eq]
  · rfl
end

end Go.Proofs.Ytiaddgagncmbeaa

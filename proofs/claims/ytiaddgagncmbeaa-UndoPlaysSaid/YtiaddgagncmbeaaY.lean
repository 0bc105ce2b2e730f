/- Plain facts: which elements are together after many unions; how many sets there are. No program in sight. -/
import Derived.Test.YtiaddgagncmbeaaX
namespace Go.Proofs.Ytiaddgagncmbeaa

/-- Unions put together no more than they must: whatever is the same for the two of each pair is the same all over each set. -/
theorem St.uni_min {n : Nat} {S : St} (hO : S.Ok n) {f : Nat → Nat} (hf : ∀ i, i < n → f (S.t.r i) = f i) {a b : Nat} (ha : a < n) (hb : b < n) (hab : f a = f b) {i : Nat} (hi : i < n) : f ((S.uni a b).t.r i) = f i := by
  unfold St.uni
  split
  · exact hf i hi
  · rename_i hne
    show f (if S.t.r i = sml S.t.s S.t.r a b then big S.t.s S.t.r a b else S.t.r i) = f i
    have fa := hf a ha
    have fb := hf b hb
    have fi := hf i hi
    split
    · rename_i e
      rcases big_sml S.t.s S.t.r a b with ⟨e1, e2⟩ | ⟨e1, e2⟩
      · rw [e1]; rw [e2] at e; rw [fa, hab, ← fb, ← e, fi]
      · rw [e1]; rw [e2] at e; rw [fb, ← hab, ← fa, ← e, fi]
    · exact fi

theorem St.unis_min {n : Nat} {S : St} (hO : S.Ok n) {f : Nat → Nat} (hf : ∀ i, i < n → f (S.t.r i) = f i) {l : List (Nat × Nat)} (hl : ∀ x ∈ l, x.1 < n ∧ x.2 < n ∧ f x.1 = f x.2) {i : Nat} (hi : i < n) : f ((S.unis l).t.r i) = f i := by
  induction l generalizing S with
  | nil => exact hf i hi
  | cons x l ih =>
    have hx := hl x (by simp)
    exact ih (hO.uni hx.1 hx.2.1) (fun j hj => St.uni_min hO hf hx.1 hx.2.1 hx.2.2 hj) (fun y hy => hl y (by simp [hy]))

theorem St.uni_keep {n : Nat} {S : St} (hO : S.Ok n) {a b i j : Nat} (h : S.t.r i = S.t.r j) : (S.uni a b).t.r i = (S.uni a b).t.r j := by
  unfold St.uni
  split
  · exact h
  · show (if S.t.r i = _ then _ else S.t.r i) = if S.t.r j = _ then _ else S.t.r j
    rw [h]

theorem St.unis_ok {n : Nat} {S : St} (h : S.Ok n) {l : List (Nat × Nat)} (hl : ∀ x ∈ l, x.1 < n ∧ x.2 < n) : (S.unis l).Ok n := by
  induction l generalizing S with
  | nil => exact h
  | cons x l ih =>
    have hx := hl x (by simp)
    exact ih (h.uni hx.1 hx.2) (fun y hy => hl y (by simp [hy]))

theorem St.unis_keep {n : Nat} {S : St} (hO : S.Ok n) {l : List (Nat × Nat)} (hl : ∀ x ∈ l, x.1 < n ∧ x.2 < n) {i j : Nat} (h : S.t.r i = S.t.r j) : (S.unis l).t.r i = (S.unis l).t.r j := by
  induction l generalizing S with
  | nil => exact h
  | cons x l ih =>
    have hx := hl x (by simp)
    exact ih (hO.uni hx.1 hx.2) (fun y hy => hl y (by simp [hy])) (St.uni_keep hO h)

theorem St.uni_pair {n : Nat} {S : St} (hO : S.Ok n) {a b : Nat} (ha : a < n) (hb : b < n) : (S.uni a b).t.r a = (S.uni a b).t.r b := by
  unfold St.uni
  split
  · assumption
  · show (if S.t.r a = _ then _ else S.t.r a) = if S.t.r b = _ then _ else S.t.r b
    rcases big_sml S.t.s S.t.r a b with ⟨e1, e2⟩ | ⟨e1, e2⟩
    · rw [e1, e2]; simp
    · rw [e1, e2]; simp

theorem St.unis_pair {n : Nat} {S : St} (hO : S.Ok n) {l : List (Nat × Nat)} (hl : ∀ x ∈ l, x.1 < n ∧ x.2 < n) {x : Nat × Nat} (hx : x ∈ l) : (S.unis l).t.r x.1 = (S.unis l).t.r x.2 := by
  induction l generalizing S with
  | nil => cases hx
  | cons y l ih =>
    have hy := hl y (by simp)
    rcases List.mem_cons.1 hx with rfl | hx
    · exact St.unis_keep (hO.uni hy.1 hy.2) (fun y hy => hl y (by simp [hy])) (St.uni_pair hO hy.1 hy.2)
    · exact ih (hO.uni hy.1 hy.2) (fun y hy => hl y (by simp [hy])) hx

/-- Two lists with the same pairs, in whatever order and direction: the same sets. -/
theorem St.unis_same {n : Nat} {l m : List (Nat × Nat)} (hl : ∀ x ∈ l, x.1 < n ∧ x.2 < n) (hm : ∀ x ∈ m, x.1 < n ∧ x.2 < n) (h : ∀ x ∈ l, x ∈ m ∨ (x.2, x.1) ∈ m) {i j : Nat} (hi : i < n) (hj : j < n)
    (e : (St.zero.unis l).t.r i = (St.zero.unis l).t.r j) : (St.zero.unis m).t.r i = (St.zero.unis m).t.r j := by
  have h1 : ∀ k, k < n → (St.zero.unis m).t.r ((St.zero.unis l).t.r k) = (St.zero.unis m).t.r k := fun k hk =>
    St.unis_min (St.zero_ok n) (f := (St.zero.unis m).t.r) (fun _ _ => rfl) (fun x hx => ⟨(hl x hx).1, (hl x hx).2, by
      rcases h x hx with h | h
      · exact St.unis_pair (St.zero_ok n) hm h
      · exact (St.unis_pair (St.zero_ok n) hm h).symm⟩) hk
  rw [← h1 i hi, ← h1 j hj, e]

/-- The least elements of the sets, and the unions, are n together. -/
theorem Built.leasts {n : Nat} {t : T} {log : List Nat} {past : List T} (h : Built n t log past) : cnt n (fun i => decide (lab n t.r i = i)) + log.length = n := by
  induction h with
  | init => simp only [List.length_nil, Nat.add_zero]; exact cnt_all fun i hi => by simp [T.zero, lab_id hi]
  | @step t log past h x y hx hy rx ry hne ih =>
    have hxy : lab n t.r x ≠ lab n t.r y := by
      intro e
      have := (lab_eq_iff hx hy).1 e
      omega
    have hc : cnt n (fun i => decide (lab n t.r i = i)) = cnt n (fun i => decide (lab n (t.join x y).r i = i)) + cnt n (fun i => decide (i = max (lab n t.r x) (lab n t.r y))) := by
      refine cnt_or fun i hi => ?_
      rw [lab_join hx hy (.inl ⟨rx, ry⟩) hne hi]
      unfold united
      have lx := lab_lab (r := t.r) hx
      have ly := lab_lab (r := t.r) hy
      by_cases e : i = max (lab n t.r x) (lab n t.r y)
      · have hl : lab n t.r i = i := by
          rcases Nat.le_total (lab n t.r x) (lab n t.r y) with h' | h'
          · rw [Nat.max_eq_right h'] at e; rw [e, ly]
          · rw [Nat.max_eq_left h'] at e; rw [e, lx]
        have h1 : ¬ min (lab n t.r x) (lab n t.r y) = i := by omega
        rw [hl, if_pos e]
        simp [e]
        omega
      · by_cases e2 : lab n t.r i = i
        · rw [e2, if_neg e]
          simp [e]
        · have e3 : ¬ (if lab n t.r i = max (lab n t.r x) (lab n t.r y) then min (lab n t.r x) (lab n t.r y) else lab n t.r i) = i := by
            split
            · rename_i e4
              intro e5
              apply e2
              rcases Nat.le_total (lab n t.r x) (lab n t.r y) with h' | h'
              · rw [Nat.min_eq_left h'] at e5; rw [← e5, lx]
              · rw [Nat.min_eq_right h'] at e5; rw [← e5, ly]
            · exact e2
          simp [e, e2, e3]
    have hmx : max (lab n t.r x) (lab n t.r y) < n := by
      have := lab_lt (r := t.r) hx
      have := lab_lt (r := t.r) hy
      omega
    rw [hc, cnt_one hmx] at ih
    rw [List.length_append, List.length_singleton]
    omega

theorem St.Ok.log_of_lab {n : Nat} {S S' : St} (h : S.Ok n) (h' : S'.Ok n) (e : ∀ i, i < n → S.lab n i = S'.lab n i) : S.log.length = S'.log.length := by
  have a : cnt n (fun i => decide (S.lab n i = i)) + S.log.length = n := Built.leasts h
  have b : cnt n (fun i => decide (S'.lab n i = i)) + S'.log.length = n := Built.leasts h'
  have : cnt n (fun i => decide (S.lab n i = i)) = cnt n (fun i => decide (S'.lab n i = i)) := cnt_congr fun i hi => by rw [e i hi]
  omega

end Go.Proofs.Ytiaddgagncmbeaa

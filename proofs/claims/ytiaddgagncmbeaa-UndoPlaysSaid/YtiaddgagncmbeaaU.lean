/- Plain facts on partitions of the numbers below n: no program in sight. -/
namespace Go.Proofs.Ytiaddgagncmbeaa

/-- f with another value at i. -/
def upd (f : Nat → Nat) (i v : Nat) (j : Nat) : Nat := if j = i then v else f j

theorem upd_same (f : Nat → Nat) (i v : Nat) : upd f i v i = v := by simp [upd]
theorem upd_other (f : Nat → Nat) {i j : Nat} (v : Nat) (h : j ≠ i) : upd f i v j = f j := by simp [upd, h]

/-- p is a forest on the numbers below n, r i is the root above i, d falls on the way up. -/
structure Fo (n : Nat) (p r d : Nat → Nat) : Prop where
  lt : ∀ i, i < n → p i < n
  rlt : ∀ i, i < n → r i < n
  top : ∀ i, i < n → p i = i → r i = i
  go : ∀ i, i < n → p i ≠ i → r (p i) = r i ∧ d (p i) < d i

/-- A state: parents, sizes, roots. -/
structure T where
  p : Nat → Nat
  s : Nat → Nat
  r : Nat → Nat

def T.zero : T := ⟨id, fun _ => 1, id⟩

/-- The root y is attached to the root x. -/
def T.join (t : T) (x y : Nat) : T := ⟨upd t.p y x, upd t.s x (t.s x + t.s y), fun i => if t.r i = y then x else t.r i⟩

/-- How many numbers below n satisfy P. -/
def cnt : Nat → (Nat → Bool) → Nat
  | 0, _ => 0
  | n + 1, P => cnt n P + (P n).toNat

theorem cnt_congr {n : Nat} {P Q : Nat → Bool} (h : ∀ i, i < n → P i = Q i) : cnt n P = cnt n Q := by
  induction n with
  | zero => rfl
  | succ n ih => simp only [cnt]; rw [ih (fun i hi => h i (by omega)), h n (by omega)]

theorem cnt_le (n : Nat) (P : Nat → Bool) : cnt n P ≤ n := by
  induction n with
  | zero => simp [cnt]
  | succ n ih => simp only [cnt]; have : (P n).toNat ≤ 1 := by cases P n <;> simp
                 omega

theorem cnt_none {n : Nat} {P : Nat → Bool} (h : ∀ i, i < n → P i = false) : cnt n P = 0 := by
  induction n with
  | zero => rfl
  | succ n ih => simp only [cnt]; rw [ih (fun i hi => h i (by omega)), h n (by omega)]; rfl

theorem cnt_all {n : Nat} {P : Nat → Bool} (h : ∀ i, i < n → P i = true) : cnt n P = n := by
  induction n with
  | zero => rfl
  | succ n ih => simp only [cnt]; rw [ih (fun i hi => h i (by omega)), h n (by omega)]; rfl

theorem cnt_or {n : Nat} {P Q R : Nat → Bool} (h : ∀ i, i < n → (R i).toNat = (P i).toNat + (Q i).toNat) : cnt n R = cnt n P + cnt n Q := by
  induction n with
  | zero => rfl
  | succ n ih => simp only [cnt]; rw [ih (fun i hi => h i (by omega)), h n (by omega)]; omega

theorem cnt_one {n x : Nat} (hx : x < n) : cnt n (fun i => decide (i = x)) = 1 := by
  induction n with
  | zero => omega
  | succ n ih =>
    simp only [cnt]
    by_cases e : n = x
    · subst e
      rw [cnt_none (fun i hi => by simp; omega)]
      simp
    · rw [ih (by omega)]
      simp [e]

theorem cnt_mono {n : Nat} {P Q : Nat → Bool} (h : ∀ i, i < n → P i = true → Q i = true) : cnt n P ≤ cnt n Q := by
  induction n with
  | zero => simp [cnt]
  | succ n ih =>
    simp only [cnt]
    have := ih (fun i hi => h i (by omega))
    have h' := h n (by omega)
    cases hp : P n
    · simp; omega
    · rw [hp] at h'; rw [h' rfl]; simp; omega

theorem cnt_pos {n : Nat} {P : Nat → Bool} {x : Nat} (hx : x < n) (h : P x = true) : 0 < cnt n P := by
  have h1 := cnt_mono (n := n) (P := fun i => decide (i = x)) (Q := P) (fun i _ hi => by simp at hi; subst hi; exact h)
  rw [cnt_one hx] at h1
  omega

/-- How the states come about: 'log' the roots that were attached, 'past' the states ahead of each union. -/
inductive Built (n : Nat) : T → List Nat → List T → Prop
  | init : Built n T.zero [] []
  | step {t : T} {log : List Nat} {past : List T} : Built n t log past → (x y : Nat) → x < n → y < n → t.r x = x → t.r y = y → x ≠ y → Built n (t.join x y) (log ++ [y]) (past ++ [t])

namespace Built
variable {n : Nat} {t : T} {log : List Nat} {past : List T}

theorem len (h : Built n t log past) : past.length = log.length := by
  induction h with
  | init => rfl
  | step h x y _ _ _ _ _ ih => simp [ih]

structure Inv (n : Nat) (t : T) : Prop where
  rlt : ∀ i, i < n → t.r i < n
  plt : ∀ i, i < n → t.p i < n
  rr : ∀ i, i < n → t.r (t.r i) = t.r i
  pr : ∀ i, i < n → (t.p i = i ↔ t.r i = i)
  go : ∀ i, i < n → t.r (t.p i) = t.r i
  size : ∀ i, i < n → t.r i = i → t.s i = cnt n (fun j => decide (t.r j = i))
  out : ∀ i, n ≤ i → t.r i = i
  dep : ∃ d : Nat → Nat, ∀ i, i < n → t.p i ≠ i → d (t.p i) < d i

theorem inv (h : Built n t log past) : Inv n t := by
  induction h with
  | init =>
    refine ⟨fun i h => h, fun i h => h, fun _ _ => rfl, fun _ _ => Iff.rfl, fun _ _ => rfl, fun i hi _ => ?_, fun _ _ => rfl, fun _ => 0, fun i _ h => absurd rfl h⟩
    show 1 = _
    exact (cnt_one hi).symm
  | @step t log past h x y hx hy rx ry hne ih =>
    have hp : ∀ i, (t.join x y).p i = if i = y then x else t.p i := fun i => rfl
    have hr : ∀ i, (t.join x y).r i = if t.r i = y then x else t.r i := fun i => rfl
    have hs : ∀ i, (t.join x y).s i = if i = x then t.s x + t.s y else t.s i := fun i => rfl
    refine ⟨fun i hi => ?_, fun i hi => ?_, fun i hi => ?_, fun i hi => ?_, fun i hi => ?_, fun i hi hri => ?_, fun i hi => ?_, ?_⟩
    · rw [hr]; split
      · exact hx
      · exact ih.rlt i hi
    · rw [hp]; split
      · exact hx
      · exact ih.plt i hi
    · have h1 := ih.rr i hi
      rw [hr i]
      split
      · rw [hr, rx, if_neg hne]
      · rename_i hne'
        rw [hr, h1, if_neg hne']
    · rw [hp, hr]
      by_cases e : i = y
      · subst e; simp [ry]
      · rw [if_neg e]
        by_cases e2 : t.r i = y
        · rw [if_pos e2]
          constructor
          · intro h3
            exact absurd ((ih.pr i hi).1 h3) (by rw [e2]; exact fun h => e h.symm)
          · intro h3
            subst h3
            exact absurd (rx.symm.trans e2) hne
        · rw [if_neg e2]; exact ih.pr i hi
    · rw [hp]
      by_cases e : i = y
      · subst e; rw [if_pos rfl, hr, hr, rx, ry, if_neg hne, if_pos rfl]
      · rw [if_neg e, hr, hr, ih.go i hi]
    · rw [hr] at hri
      rw [hs]
      by_cases e : i = x
      · subst e
        rw [if_pos rfl, ih.size i hi rx, ih.size y hy ry]
        refine (cnt_or fun j hj => ?_).symm
        rw [hr]
        by_cases e1 : t.r j = y
        · have : ¬ y = i := fun h => hne h.symm
          simp [e1, this]
        · simp [e1]
      · rw [if_neg e]
        have hi' : t.r i = i := by
          by_cases e2 : t.r i = y
          · rw [if_pos e2] at hri; exact absurd hri.symm e
          · rwa [if_neg e2] at hri
        rw [ih.size i hi hi']
        refine cnt_congr fun j hj => ?_
        rw [hr]
        by_cases e1 : t.r j = y
        · have h2 : ¬ y = i := by
            intro h
            subst h
            rw [if_pos hi'] at hri
            exact e hri.symm
          have h3 : ¬ x = i := fun h => e h.symm
          simp [e1, h2, h3]
        · simp [e1]
    · rw [hr, ih.out i hi, if_neg (by omega)]
    · obtain ⟨d, hd⟩ := ih.dep
      refine ⟨fun i => if t.r i = y then d i + d x + 1 else d i, fun i hi hpi => ?_⟩
      rw [hp] at hpi ⊢
      by_cases e : i = y
      · subst e
        rw [if_pos rfl]
        simp only [rx, ry, hne, if_true, if_false]
        omega
      · rw [if_neg e] at hpi ⊢
        have h1 := hd i hi hpi
        have h2 := ih.go i hi
        simp only [h2]
        split <;> omega

theorem fo (h : Built n t log past) : ∃ d, Fo n t.p t.r d := by
  have hi := h.inv
  obtain ⟨d, hd⟩ := hi.dep
  exact ⟨d, hi.plt, hi.rlt, fun i hn he => (hi.pr i hn).1 he, fun i hn he => ⟨hi.go i hn, hd i hn he⟩⟩

theorem sum_le (h : Built n t log past) {x y : Nat} (hx : x < n) (hy : y < n) (rx : t.r x = x) (ry : t.r y = y) (hne : x ≠ y) : t.s x + t.s y ≤ n := by
  have hi := h.inv
  rw [hi.size x hx rx, hi.size y hy ry]
  rw [← cnt_or (R := fun j => decide (t.r j = x) || decide (t.r j = y))]
  · exact cnt_le _ _
  · intro i _
    by_cases e : t.r i = x
    · have : ¬ x = y := hne
      simp [e, this]
    · simp [e]

theorem s_le (h : Built n t log past) {x : Nat} (hx : x < n) (rx : t.r x = x) : t.s x ≤ n := by
  rw [h.inv.size x hx rx]; exact cnt_le _ _

theorem s_pos (h : Built n t log past) {x : Nat} (hx : x < n) (rx : t.r x = x) : 0 < t.s x := by
  rw [h.inv.size x hx rx]; exact cnt_pos hx (by simp [rx])

/-- The roots, and the unions, are n together. -/
theorem roots (h : Built n t log past) : cnt n (fun i => decide (t.r i = i)) + log.length = n := by
  induction h with
  | init => simp only [List.length_nil, Nat.add_zero]; exact cnt_all fun i _ => by simp [T.zero]
  | @step t log past h x y hx hy rx ry hne ih =>
    have hc : cnt n (fun i => decide (t.r i = i)) = cnt n (fun i => decide ((t.join x y).r i = i)) + cnt n (fun i => decide (i = y)) := by
      refine cnt_or fun i hi => ?_
      have hr : (t.join x y).r i = if t.r i = y then x else t.r i := rfl
      rw [hr]
      by_cases e : i = y
      · subst e; simp [ry, hne]
      · by_cases e2 : t.r i = y
        · have h1 : ¬ y = i := fun h => e h.symm
          have h2 : ¬ x = i := by
            intro h'
            subst h'
            exact hne (rx.symm.trans e2)
          simp [e, e2, h1, h2]
        · simp [e, e2]
    rw [hc, cnt_one hy] at ih
    rw [List.length_append, List.length_singleton]
    omega

theorem loglen (h : Built n t log past) : log.length ≤ n := by have := h.roots; omega

end Built

/-- The state when m unions are in force. -/
def T.back (t : T) (past : List T) (m : Nat) : T := past[m]?.getD t

theorem T.undo {t : T} {x y : Nat} (hy : t.p y = y) (hne : x ≠ y) :
    upd (t.join x y).p y y = t.p ∧ upd (t.join x y).s ((t.join x y).p y) ((t.join x y).s ((t.join x y).p y) - (t.join x y).s y) = t.s := by
  constructor
  · funext j
    show (if j = y then y else if j = y then x else t.p j) = t.p j
    by_cases e : j = y
    · subst e; simp [hy]
    · simp [e]
  · have h1 : (t.join x y).p y = x := by simp [T.join, upd]
    rw [h1]
    funext j
    have h2 : (t.join x y).s x = t.s x + t.s y := by simp [T.join, upd]
    have h3 : (t.join x y).s y = t.s y := by
      show (if y = x then _ else _) = _
      rw [if_neg (fun h => hne h.symm)]
    rw [h2, h3]
    show (if j = x then _ else if j = x then _ else t.s j) = t.s j
    by_cases e : j = x
    · subst e; simp
    · simp [e]

theorem Built.back {n : Nat} {t : T} {log : List Nat} {past : List T} (h : Built n t log past) : ∀ m, m ≤ log.length → Built n (t.back past m) (log.take m) (past.take m) := by
  induction h with
  | init => intro m hm; simp at hm; subst hm; exact .init
  | @step t log past h x y hx hy rx ry hne ih =>
    intro m hm
    have hl := h.len
    by_cases e : m ≤ log.length
    · have e1 : (t.join x y).back (past ++ [t]) m = t.back past m := by
        unfold T.back
        by_cases e2 : m < past.length
        · rw [List.getElem?_append_left e2]
          simp [e2]
        · have : m = past.length := by omega
          subst this
          simp
      rw [e1, List.take_append_of_le_length e, List.take_append_of_le_length (by omega)]
      exact ih m e
    · have e1 : m = log.length + 1 := by simp at hm; omega
      subst e1
      have e2 : (t.join x y).back (past ++ [t]) (log.length + 1) = t.join x y := by
        unfold T.back
        rw [List.getElem?_eq_none (by simp; omega)]
        rfl
      rw [e2, List.take_of_length_le (by simp), List.take_of_length_le (by simp; omega)]
      exact .step h x y hx hy rx ry hne

/-- The last union that is in force when m + 1 are. -/
theorem Built.last {n : Nat} {t : T} {log : List Nat} {past : List T} (h : Built n t log past) : ∀ m, (hm : m < log.length) →
    ∃ x, x < n ∧ log[m] < n ∧ (t.back past m).r x = x ∧ (t.back past m).r log[m] = log[m] ∧ x ≠ log[m] ∧ t.back past (m + 1) = (t.back past m).join x log[m] := by
  induction h with
  | init => intro m hm; simp at hm
  | @step t log past h x y hx hy rx ry hne ih =>
    intro m hm
    have hl := h.len
    have e1 : ∀ k, k ≤ log.length → (t.join x y).back (past ++ [t]) k = t.back past k := by
      intro k hk
      unfold T.back
      by_cases e2 : k < past.length
      · rw [List.getElem?_append_left e2]
        simp [e2]
      · have : k = past.length := by omega
        subst this
        simp
    by_cases e : m < log.length
    · obtain ⟨x', h1, h2, h3, h4, h5, h6⟩ := ih m e
      rw [e1 m (by omega), e1 (m + 1) (by omega)]
      simp only [List.getElem_append_left e]
      exact ⟨x', h1, h2, h3, h4, h5, h6⟩
    · have e3 : m = log.length := by simp at hm; omega
      subst e3
      rw [e1 _ (Nat.le_refl _)]
      have e2 : (t.join x y).back (past ++ [t]) (log.length + 1) = t.join x y := by
        unfold T.back
        rw [List.getElem?_eq_none (by simp; omega)]
        rfl
      have e4 : t.back past log.length = t := by
        unfold T.back
        rw [List.getElem?_eq_none (by omega)]
        rfl
      rw [e2, e4]
      simp only [List.getElem_append_right (Nat.le_refl _), Nat.sub_self, List.getElem_cons_zero]
      exact ⟨x, hx, hy, rx, ry, hne, rfl⟩

end Go.Proofs.Ytiaddgagncmbeaa

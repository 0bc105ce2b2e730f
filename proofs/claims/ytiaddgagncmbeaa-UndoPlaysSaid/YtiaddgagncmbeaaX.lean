/- Plain facts on states with their history. No program in sight. -/
import Derived.Test.YtiaddgagncmbeaaV
namespace Go.Proofs.Ytiaddgagncmbeaa

/-- The root that stays, and the root that is attached to it. -/
def big (s r : Nat → Nat) (a b : Nat) : Nat := if s (r a) < s (r b) then r b else r a
def sml (s r : Nat → Nat) (a b : Nat) : Nat := if s (r a) < s (r b) then r a else r b

/-- A state with its history. -/
structure St where
  t : T
  log : List Nat
  past : List T

def St.zero : St := ⟨T.zero, [], []⟩

def St.Ok (n : Nat) (S : St) : Prop := Built n S.t S.log S.past

/-- The state when the sets of a and b have been united. -/
def St.uni (S : St) (a b : Nat) : St :=
  if S.t.r a = S.t.r b then S else ⟨S.t.join (big S.t.s S.t.r a b) (sml S.t.s S.t.r a b), S.log ++ [sml S.t.s S.t.r a b], S.past ++ [S.t]⟩

/-- The state when m unions are in force. -/
def St.back (S : St) (m : Nat) : St := ⟨S.t.back S.past m, S.log.take m, S.past.take m⟩

theorem big_sml (s r : Nat → Nat) (a b : Nat) : (big s r a b = r a ∧ sml s r a b = r b) ∨ (big s r a b = r b ∧ sml s r a b = r a) := by
  unfold big sml
  split
  · exact .inr ⟨rfl, rfl⟩
  · exact .inl ⟨rfl, rfl⟩

theorem St.zero_ok (n : Nat) : St.zero.Ok n := .init

theorem St.Ok.uni {n : Nat} {S : St} (h : S.Ok n) {a b : Nat} (ha : a < n) (hb : b < n) : (S.uni a b).Ok n := by
  unfold St.uni
  split
  · exact h
  · rename_i hne
    have hi := Built.inv h
    have h1 := hi.rlt a ha
    have h2 := hi.rlt b hb
    have h3 := hi.rr a ha
    have h4 := hi.rr b hb
    rcases big_sml S.t.s S.t.r a b with ⟨e1, e2⟩ | ⟨e1, e2⟩
    · rw [e1, e2]
      exact .step h _ _ h1 h2 h3 h4 hne
    · rw [e1, e2]
      exact .step h _ _ h2 h1 h4 h3 (fun h => hne h.symm)

theorem St.Ok.back {n : Nat} {S : St} (h : S.Ok n) {m : Nat} (hm : m ≤ S.log.length) : (S.back m).Ok n := Built.back h m hm

theorem St.back_len {S : St} {m : Nat} (hm : m ≤ S.log.length) : (S.back m).log.length = m := by
  simp [St.back]; omega

theorem St.back_self {n : Nat} {S : St} (h : S.Ok n) : S.back S.log.length = S := by
  have hl := Built.len h
  unfold St.back
  rw [List.take_length, ← hl, List.take_length]
  have : S.t.back S.past S.past.length = S.t := by unfold T.back; simp
  rw [this]

/-- S' has grown out of S: going back to S's mark gives S. -/
def St.Pre (S S' : St) : Prop := S.log.length ≤ S'.log.length ∧ S'.back S.log.length = S

theorem St.Pre.refl {n : Nat} {S : St} (h : S.Ok n) : St.Pre S S := ⟨Nat.le_refl _, St.back_self h⟩

theorem St.back_back {S : St} {m k : Nat} (hm : m ≤ k) : (S.back k).back m = S.back m := by
  unfold St.back
  simp only [List.take_take, Nat.min_eq_left hm]
  congr 1
  unfold T.back
  by_cases h1 : m < k
  · rw [List.getElem?_take_of_lt h1]
    by_cases h2 : m < S.past.length
    · simp [h2]
    · rw [List.getElem?_eq_none (by omega), List.getElem?_eq_none (by omega)]
      rfl
  · have : m = k := by omega
    subst this
    rw [List.getElem?_eq_none (by simp; omega)]
    rfl

theorem St.Pre.trans {S S' S'' : St} (h : St.Pre S S') (h' : St.Pre S' S'') : St.Pre S S'' := by
  refine ⟨Nat.le_trans h.1 h'.1, ?_⟩
  have e := h.2
  rw [← h'.2, St.back_back h.1] at e
  exact e

theorem St.Ok.pre_uni {n : Nat} {S : St} (h : S.Ok n) (a b : Nat) : St.Pre S (S.uni a b) := by
  unfold St.uni
  split
  · exact .refl h
  · have hl := Built.len h
    refine ⟨by simp, ?_⟩
    unfold St.back
    simp only [List.take_left]
    rw [← hl, List.take_left]
    congr 1
    unfold T.back
    rw [List.getElem?_append_right (Nat.le_refl _)]
    simp

theorem St.Ok.pre_back {n : Nat} {S S' : St} (_h : S.Ok n) (hp : St.Pre S S') : S'.back S.log.length = S := hp.2

/-- Labels of a state. -/
def St.lab (n : Nat) (S : St) : Nat → Nat := Go.Proofs.Ytiaddgagncmbeaa.lab n S.t.r

theorem St.Ok.lab_uni {n : Nat} {S : St} (h : S.Ok n) {a b : Nat} (ha : a < n) (hb : b < n) {i : Nat} (hi : i < n) : (S.uni a b).lab n i = united (S.lab n) a b i := by
  unfold St.uni
  split
  · rename_i e
    have : S.lab n a = S.lab n b := (lab_eq_iff ha hb).2 e
    unfold united
    rw [this]
    simp
  · rename_i hne
    refine lab_join ha hb ?_ ?_ hi
    · rcases big_sml S.t.s S.t.r a b with ⟨e1, e2⟩ | ⟨e1, e2⟩
      · exact .inl ⟨e1.symm, e2.symm⟩
      · exact .inr ⟨e1.symm, e2.symm⟩
    · rcases big_sml S.t.s S.t.r a b with ⟨e1, e2⟩ | ⟨e1, e2⟩ <;> omega

theorem St.Ok.sum {n : Nat} {S : St} (h : S.Ok n) {a b : Nat} (ha : a < n) (hb : b < n) (hne : S.t.r a ≠ S.t.r b) : S.t.s (S.t.r a) + S.t.s (S.t.r b) ≤ n :=
  Built.sum_le h ((Built.inv h).rlt a ha) ((Built.inv h).rlt b hb) ((Built.inv h).rr a ha) ((Built.inv h).rr b hb) hne

theorem St.Ok.loglen {n : Nat} {S : St} (h : S.Ok n) : S.log.length ≤ n := Built.loglen h

theorem St.Ok.fo {n : Nat} {S : St} (h : S.Ok n) : ∃ d, Fo n S.t.p S.t.r d := Built.fo h

/-- Many unions, one after the other. -/
def St.unis (S : St) : List (Nat × Nat) → St
  | [] => S
  | x :: l => (S.uni x.1 x.2).unis l

theorem St.unis_snoc (S : St) (l : List (Nat × Nat)) (x : Nat × Nat) : S.unis (l ++ [x]) = (S.unis l).uni x.1 x.2 := by
  induction l generalizing S with
  | nil => rfl
  | cons y l ih => exact ih _

end Go.Proofs.Ytiaddgagncmbeaa

/- Plain facts: the lowest common ancestor. No program in sight. -/
import Derived.Test.YthpghcidocjanaaDoorP3
namespace Go.Proofs.YthpghcidocjanaaDoor

def inLine (n : Nat) (p : Nat → Int) (b : Nat) (x : Int) : Bool := (List.range (dep n p b + 1)).any fun k => anc p k b == x
def lcaI (n : Nat) (p : Nat → Int) (a b : Nat) : Option Nat := (List.range (dep n p a + 1)).find? fun i => inLine n p b (anc p i a)
/-- The lowest common ancestor of two nodes. -/
def cmn (n : Nat) (p : Nat → Int) (a b : Nat) : Option Int := (lcaI n p a b).map fun i => anc p i a

structure IsC (n : Nat) (p : Nat → Int) (a b i j : Nat) : Prop where
  li : i ≤ dep n p a
  lj : j ≤ dep n p b
  eq : anc p i a = anc p j b
  low : ∀ i' j', i' < i → j' ≤ dep n p b → anc p i' a ≠ anc p j' b

section
variable {n : Nat} {p : Nat → Int}

theorem inLine_iff {b : Nat} {x : Int} : inLine n p b x = true ↔ ∃ j, j ≤ dep n p b ∧ anc p j b = x := by
  unfold inLine
  rw [List.any_eq_true]
  constructor
  · rintro ⟨j, hj, h⟩
    exact ⟨j, by simp at hj; omega, by simpa using h⟩
  · rintro ⟨j, hj, h⟩
    exact ⟨j, by simp; omega, by simpa using h⟩

theorem lcaI_some {a b i : Nat} : lcaI n p a b = some i ↔ inLine n p b (anc p i a) = true ∧ i ≤ dep n p a ∧ ∀ i', i' < i → inLine n p b (anc p i' a) = false := by
  unfold lcaI
  rw [List.find?_range_eq_some]
  constructor
  · rintro ⟨h1, h2, h3⟩
    exact ⟨h1, by simp at h2; omega, fun i' h => by simpa using h3 i' h⟩
  · rintro ⟨h1, h2, h3⟩
    exact ⟨h1, by simp; omega, fun i' h => by simpa using h3 i' h⟩

theorem IsC.cmn {a b i j : Nat} (h : IsC n p a b i j) : cmn n p a b = some (anc p i a) := by
  have : lcaI n p a b = some i := lcaI_some.2 ⟨inLine_iff.2 ⟨j, h.lj, h.eq.symm⟩, h.li, fun i' hi => by
    rw [Bool.eq_false_iff]
    intro hc
    obtain ⟨j', hj', e⟩ := inLine_iff.1 hc
    exact h.low i' j' hi hj' e.symm⟩
  unfold Go.Proofs.YthpghcidocjanaaDoor.cmn
  rw [this]
  rfl

theorem cmn_cases (a b : Nat) : (∃ i j, IsC n p a b i j ∧ cmn n p a b = some (anc p i a)) ∨ ((∀ i j, i ≤ dep n p a → j ≤ dep n p b → anc p i a ≠ anc p j b) ∧ cmn n p a b = none) := by
  cases h : lcaI n p a b with
  | some i =>
    left
    obtain ⟨h1, h2, h3⟩ := lcaI_some.1 h
    obtain ⟨j, hj, e⟩ := inLine_iff.1 h1
    refine ⟨i, j, ⟨h2, hj, e.symm, fun i' j' hi hj' e' => ?_⟩, by unfold cmn; rw [h]; rfl⟩
    have := h3 i' hi
    rw [inLine_iff.2 ⟨j', hj', e'.symm⟩] at this
    cases this
  | none =>
    right
    refine ⟨fun i j hi hj e => ?_, by unfold cmn; rw [h]; rfl⟩
    unfold lcaI at h
    rw [List.find?_eq_none] at h
    exact h i (by simp; omega) (inLine_iff.2 ⟨j, hj, e.symm⟩)

theorem Forest.same_dep (h : Forest n p) {a b i j : Nat} (ha : a < n) (hb : b < n) (hi : i ≤ dep n p a) (hj : j ≤ dep n p b) (e : anc p i a = anc p j b) : dep n p a - i = dep n p b - j := by
  obtain ⟨u, h1, _, h3⟩ := h.anc_dep ha hi
  obtain ⟨v, h4, _, h6⟩ := h.anc_dep hb hj
  have : u = v := by omega
  subst this
  omega

theorem IsC.symm (hF : Forest n p) {a b i j : Nat} (ha : a < n) (hb : b < n) (h : IsC n p a b i j) : IsC n p b a j i := by
  refine ⟨h.lj, h.li, h.eq.symm, fun j' i' hj hi e => ?_⟩
  have h1 := hF.same_dep ha hb h.li h.lj h.eq
  have h2 := hF.same_dep ha hb hi (by have := h.lj; omega) e.symm
  have := h.li
  have := h.lj
  exact h.low i' j' (by omega) (by omega) e.symm

theorem cmn_comm (hF : Forest n p) {a b : Nat} (ha : a < n) (hb : b < n) : cmn n p a b = cmn n p b a := by
  rcases cmn_cases (n := n) (p := p) a b with ⟨i, j, h, e⟩ | ⟨h, e⟩
  · rw [e, (h.symm hF ha hb).cmn, h.eq]
  · rcases cmn_cases (n := n) (p := p) b a with ⟨i, j, h', e'⟩ | ⟨h', e'⟩
    · exact absurd h'.eq.symm (h j i h'.lj h'.li)
    · rw [e, e']

/-- Roots are the same where there is a common ancestor. -/
theorem Forest.root_of (hF : Forest n p) {a b i j : Nat} (ha : a < n) (hb : b < n) (hi : i ≤ dep n p a) (hj : j ≤ dep n p b) (e : anc p i a = anc p j b) :
    anc p (dep n p a) a = anc p (dep n p b) b := by
  have hd := hF.same_dep ha hb hi hj e
  have h1 := anc_add hF.par ha i (dep n p a - i)
  have h2 := anc_add hF.par hb j (dep n p b - j)
  rw [show i + (dep n p a - i) = dep n p a by omega] at h1
  rw [show j + (dep n p b - j) = dep n p b by omega] at h2
  rw [h1, h2, e, hd]

theorem cmn_none_of_roots (hF : Forest n p) {a b : Nat} (ha : a < n) (hb : b < n) (h : anc p (dep n p a) a ≠ anc p (dep n p b) b) : cmn n p a b = none := by
  rcases cmn_cases (n := n) (p := p) a b with ⟨i, j, h', _⟩ | ⟨_, e⟩
  · exact absurd (hF.root_of ha hb h'.li h'.lj h'.eq) h
  · exact e

theorem least {P : Nat → Prop} {m : Nat} (h : P m) : ∃ k, k ≤ m ∧ P k ∧ ∀ j, j < k → ¬ P j := by
  induction m with
  | zero => exact ⟨0, Nat.le_refl _, h, fun j hj => by omega⟩
  | succ m ih =>
    by_cases hm : ∃ k, k ≤ m ∧ P k
    · have : ∀ t, (∃ k, k ≤ t ∧ P k) → ∃ k, k ≤ t ∧ P k ∧ ∀ j, j < k → ¬ P j := by
        intro t
        induction t with
        | zero =>
          rintro ⟨k, hk, hp⟩
          exact ⟨k, hk, hp, fun j hj => by omega⟩
        | succ t ih2 =>
          rintro ⟨k, hk, hp⟩
          by_cases ht : ∃ k, k ≤ t ∧ P k
          · obtain ⟨k', h1, h2⟩ := ih2 ht
            exact ⟨k', by omega, h2⟩
          · exact ⟨k, hk, hp, fun j hj hpj => ht ⟨j, by omega, hpj⟩⟩
      obtain ⟨k, h1, h2⟩ := this m hm
      exact ⟨k, by omega, h2⟩
    · exact ⟨m + 1, Nat.le_refl _, h, fun j hj hp => hm ⟨j, by omega, hp⟩⟩

/-- Two nodes of one depth below one root, m steps below where they meet; after c steps they are at u and v, and there are at most 2^q left. -/
structure Meet (n : Nat) (p : Nat → Int) (a b m q u v : Nat) : Prop where
  md : m ≤ dep n p a
  dd : dep n p a = dep n p b
  at_ : anc p m a = anc p m b
  low : ∀ j, j < m → anc p j a ≠ anc p j b
  st : ∃ c, c < m ∧ anc p c a = (u : Nat) ∧ anc p c b = (v : Nat) ∧ u < n ∧ v < n ∧ m - c ≤ 2 ^ q

theorem Meet.start (hF : Forest n p) {a b : Nat} (ha : a < n) (hb : b < n) (hd : dep n p a = dep n p b) (hr : anc p (dep n p a) a = anc p (dep n p b) b) (hne : a ≠ b) {q : Nat} (hq : n ≤ 2 ^ q) :
    ∃ m, Meet n p a b m q a b := by
  obtain ⟨m, h1, h2, h3⟩ := least (P := fun k => anc p k a = anc p k b) (m := dep n p a) (by rw [hr, hd])
  have h0 : m ≠ 0 := by
    rintro rfl
    simp only [anc_zero] at h2
    omega
  have := hF.dep_lt ha
  exact ⟨m, h1, hd, h2, h3, 0, by omega, rfl, rfl, ha, hb, by omega⟩

theorem Meet.next (hF : Forest n p) {a b m q u v : Nat} (ha : a < n) (hb : b < n) (h : Meet n p a b m (q + 1) u v) :
    (upAt p q u = upAt p q v ∧ Meet n p a b m q u v) ∨ (upAt p q u ≠ upAt p q v ∧ ∃ x y : Nat, upAt p q u = (x : Nat) ∧ upAt p q v = (y : Nat) ∧ x < n ∧ y < n ∧ Meet n p a b m q x y) := by
  obtain ⟨md, dd, hat, low, c, hc, hu, hv, hun, hvn, hl⟩ := h
  have e1 : upAt p q u = anc p (c + 2 ^ q) a := by
    rw [anc_add hF.par ha c, if_neg (by omega), hu]; rfl
  have e2 : upAt p q v = anc p (c + 2 ^ q) b := by
    rw [anc_add hF.par hb c, if_neg (by omega), hv]; rfl
  rw [Nat.pow_succ] at hl
  by_cases hlt : c + 2 ^ q < m
  · right
    have hne := low (c + 2 ^ q) hlt
    obtain ⟨x, hx, hxn, _⟩ := hF.anc_dep ha (show c + 2 ^ q ≤ dep n p a by omega)
    obtain ⟨y, hy, hyn, _⟩ := hF.anc_dep hb (show c + 2 ^ q ≤ dep n p b by omega)
    exact ⟨by rw [e1, e2]; exact hne, x, y, by rw [e1, hx], by rw [e2, hy], hxn, hyn, md, dd, hat, low, c + 2 ^ q, hlt, hx, hy, hxn, hyn, by omega⟩
  · left
    refine ⟨?_, md, dd, hat, low, c, hc, hu, hv, hun, hvn, by omega⟩
    rw [e1, e2]
    have h1 := anc_add hF.par ha m (c + 2 ^ q - m)
    have h2 := anc_add hF.par hb m (c + 2 ^ q - m)
    rw [show m + (c + 2 ^ q - m) = c + 2 ^ q by omega] at h1 h2
    rw [h1, h2, hat]

theorem Meet.done (hF : Forest n p) {a b m u v : Nat} (ha : a < n) (h : Meet n p a b m 0 u v) : ∃ x : Nat, anc p 1 u = (x : Nat) ∧ anc p m a = (x : Nat) ∧ 1 ≤ dep n p u := by
  obtain ⟨md, dd, hat, low, c, hc, hu, hv, hun, hvn, hl⟩ := h
  have hm : m = c + 1 := by simp at hl; omega
  obtain ⟨u', hu', _, hd⟩ := hF.anc_dep ha (show c ≤ dep n p a by omega)
  have : u' = u := by omega
  subst this
  obtain ⟨x, hx, _, _⟩ := hF.anc_dep ha md
  refine ⟨x, ?_, hx, by omega⟩
  rw [← hx, hm, anc_add hF.par ha c, if_neg (by omega), hu]
  rfl

/-- From the levelled pair to the pair itself. -/
theorem Meet.cmn (hF : Forest n p) {a b b' m q u v : Nat} (ha : a < n) (hb : b < n) (hle : dep n p a ≤ dep n p b) (hb' : anc p (dep n p b - dep n p a) b = (b' : Nat)) (h : Meet n p a b' m q u v) :
    cmn n p a b = some (anc p m a) := by
  obtain ⟨md, dd, hat, low, _⟩ := h
  have e : ∀ k, anc p k b' = anc p (dep n p b - dep n p a + k) b := fun k => by
    rw [anc_add hF.par hb, if_neg (by omega), hb']; rfl
  refine IsC.cmn (j := dep n p b - dep n p a + m) ⟨md, by omega, by rw [← e]; exact hat, fun i' j' hi hj' e' => ?_⟩
  have h1 := hF.same_dep ha hb (show i' ≤ dep n p a by omega) hj' e'
  refine low i' hi ?_
  rw [e, e', show dep n p b - dep n p a + i' = j' by omega]

theorem cmn_self_of_level {a b : Nat} (hle : dep n p a ≤ dep n p b) (hb' : anc p (dep n p b - dep n p a) b = (a : Nat)) : cmn n p a b = some (a : Int) :=
  IsC.cmn (i := 0) (j := dep n p b - dep n p a) ⟨Nat.zero_le _, by omega, hb'.symm, fun i' _ h => by omega⟩
end

end Go.Proofs.YthpghcidocjanaaDoor

/- Plain facts on forests: depths. No program in sight. -/
import Derived.Test.YthpghcidocjanaaDoorP
namespace Go.Proofs.YthpghcidocjanaaDoor

/-- The greatest k up to m such that v has a k-th ancestor. -/
def depTo (p : Nat → Int) (v : Nat) : Nat → Nat
  | 0 => 0
  | m + 1 => if 0 ≤ anc p (m + 1) v then m + 1 else depTo p v m

/-- A forest: nobody has n ancestors. -/
structure Forest (n : Nat) (p : Nat → Int) : Prop where
  par : Par n p
  fin : ∀ v, v < n → anc p n v < 0

def dep (n : Nat) (p : Nat → Int) (v : Nat) : Nat := depTo p v n

section
variable {n : Nat} {p : Nat → Int}

theorem depTo_spec (v m : Nat) : depTo p v m ≤ m ∧ 0 ≤ anc p (depTo p v m) v ∧ ∀ k, depTo p v m < k → k ≤ m → anc p k v < 0 := by
  induction m with
  | zero => exact ⟨Nat.le_refl _, by show (0 : Int) ≤ v; omega, fun k h1 h2 => by omega⟩
  | succ m ih =>
    unfold depTo
    split
    · rename_i h
      exact ⟨Nat.le_refl _, h, fun k h1 h2 => by omega⟩
    · rename_i h
      refine ⟨by omega, ih.2.1, fun k h1 h2 => ?_⟩
      by_cases e : k = m + 1
      · subst e; omega
      · exact ih.2.2 k h1 (by omega)

theorem Forest.dep_lt (h : Forest n p) {v : Nat} (hv : v < n) : dep n p v < n := by
  have hs := depTo_spec (p := p) v n
  have hf := h.fin v hv
  by_cases e : depTo p v n = n
  · rw [e] at hs
    omega
  · show depTo p v n < n
    omega

theorem Forest.anc_iff (h : Forest n p) {v : Nat} (hv : v < n) (k : Nat) : 0 ≤ anc p k v ↔ k ≤ dep n p v := by
  have hs := depTo_spec (p := p) v n
  constructor
  · intro hk
    by_cases e : k ≤ dep n p v
    · exact e
    · exfalso
      by_cases hkn : k ≤ n
      · have := hs.2.2 k (by unfold dep at e; omega) hkn
        omega
      · have := anc_neg h.par hv (h.fin v hv) (show n ≤ k by omega)
        omega
  · intro hk
    exact anc_pos h.par hv hs.2.1 hk

theorem Forest.anc_dep (h : Forest n p) {v : Nat} (hv : v < n) {k : Nat} (hk : k ≤ dep n p v) : ∃ u, anc p k v = (u : Nat) ∧ u < n ∧ dep n p u = dep n p v - k := by
  have h0 := (h.anc_iff hv k).2 hk
  have hr := anc_range h.par hv k
  refine ⟨(anc p k v).toNat, by omega, by omega, ?_⟩
  have hu : (anc p k v).toNat < n := by omega
  have key : ∀ j, 0 ≤ anc p j (anc p k v).toNat ↔ k + j ≤ dep n p v := by
    intro j
    rw [← h.anc_iff hv (k + j), anc_add h.par hv k j, if_neg (by omega)]
  have k1 := (key (dep n p v - k)).2 (by omega)
  have k2 := (h.anc_iff hu _).1 k1
  have k3 := (key (dep n p (anc p k v).toNat)).1 ((h.anc_iff hu _).2 (Nat.le_refl _))
  omega

/-- The root above v. -/
theorem Forest.root (h : Forest n p) {v : Nat} (hv : v < n) : ∃ u, anc p (dep n p v) v = (u : Nat) ∧ u < n ∧ p u = -1 := by
  obtain ⟨u, h1, h2, h3⟩ := h.anc_dep hv (Nat.le_refl _)
  refine ⟨u, h1, h2, ?_⟩
  have hn : ¬ 0 ≤ anc p 1 u := fun h' => by have := (h.anc_iff h2 1).1 h'; omega
  rw [anc_one] at hn
  have := (h.par u h2).1
  omega

/-- Parents given in order make a forest. -/
theorem Forest.ofRise {f : Nat → Nat} (hp : Par n p) (hf : ∀ v, v < n → f v < n) (hr : ∀ v, v < n → 0 ≤ p v → f (p v).toNat < f v) : Forest n p := by
  refine ⟨hp, fun v hv => ?_⟩
  have key : ∀ k, 0 ≤ anc p k v → f (anc p k v).toNat + k ≤ f v := by
    intro k
    induction k with
    | zero => intro _; rw [anc_zero]; simp
    | succ k ih =>
      intro hk
      have hk' := anc_pos hp hv hk (Nat.le_succ k)
      have := ih hk'
      have hlt := (anc_range hp hv k).2
      rw [anc_succ, if_neg (by omega)] at hk ⊢
      have := hr (anc p k v).toNat (by omega) hk
      omega
  by_cases hn : anc p n v < 0
  · exact hn
  · have := key n (by omega)
    have := hf v hv
    omega
end

end Go.Proofs.YthpghcidocjanaaDoor

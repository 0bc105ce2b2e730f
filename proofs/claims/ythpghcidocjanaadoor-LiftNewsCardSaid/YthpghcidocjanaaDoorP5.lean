/- Plain facts: what is above what; three nodes; counting. No program in sight. -/
import Derived.Test.YthpghcidocjanaaDoorP4
namespace Go.Proofs.YthpghcidocjanaaDoor

section
variable {n : Nat} {p : Nat → Int}

/-- Different steps lead to different nodes. -/
theorem Forest.anc_inj (h : Forest n p) {v : Nat} (hv : v < n) {i j : Nat} (hi : i ≤ dep n p v) (hj : j ≤ dep n p v) (e : anc p i v = anc p j v) : i = j := by
  have := h.same_dep hv hv hi hj e
  omega

theorem inLine_self (v : Nat) : inLine n p v (v : Int) = true := inLine_iff.2 ⟨0, Nat.zero_le _, rfl⟩

/-- Above as the program tells it. -/
theorem cmn_above (h : Forest n p) {v a : Nat} (hv : v < n) : cmn n p v a = some (v : Int) ↔ inLine n p a (v : Int) = true := by
  rw [inLine_iff]
  constructor
  · intro hc
    rcases cmn_cases (n := n) (p := p) v a with ⟨i, j, h', e⟩ | ⟨_, e⟩
    · rw [e] at hc
      have h0 : anc p i v = anc p 0 v := by rw [anc_zero]; exact Option.some.inj hc
      have hi := h.anc_inj hv h'.li (Nat.zero_le _) h0
      subst hi
      exact ⟨j, h'.lj, h'.eq.symm⟩
    · rw [e] at hc; cases hc
  · rintro ⟨j, hj, e⟩
    exact IsC.cmn (i := 0) (j := j) ⟨Nat.zero_le _, hj, e.symm, fun i' _ hi => by omega⟩

theorem line_trans (h : Forest n p) {a c : Nat} (ha : a < n) {v : Int} (hc : inLine n p a (c : Int) = true) (hv : inLine n p c v = true) : inLine n p a v = true := by
  obtain ⟨i, hi, e⟩ := inLine_iff.1 hc
  obtain ⟨j, hj, e'⟩ := inLine_iff.1 hv
  obtain ⟨u, hu, hun, hud⟩ := h.anc_dep ha hi
  have : u = c := by omega
  subst this
  refine inLine_iff.2 ⟨i + j, by omega, ?_⟩
  rw [anc_add h.par ha i j, if_neg (by omega), hu]
  exact e'

/-- What the lowest common ancestor is. -/
theorem cmn_spec (h : Forest n p) {a b : Nat} (ha : a < n) (hb : b < n) {c : Int} (hc : cmn n p a b = some c) :
    ∃ k : Nat, c = k ∧ k < n ∧ inLine n p a (k : Int) = true ∧ inLine n p b (k : Int) = true ∧ dep n p k ≤ dep n p a ∧ dep n p k ≤ dep n p b ∧
      ∀ v : Nat, inLine n p a (v : Int) = true → inLine n p b (v : Int) = true → inLine n p k (v : Int) = true := by
  rcases cmn_cases (n := n) (p := p) a b with ⟨i, j, h', e⟩ | ⟨_, e⟩
  · rw [e] at hc
    cases hc
    obtain ⟨u, hu, hun, hud⟩ := h.anc_dep ha h'.li
    have hd := h.same_dep ha hb h'.li h'.lj h'.eq
    refine ⟨u, hu, hun, inLine_iff.2 ⟨i, h'.li, hu⟩, inLine_iff.2 ⟨j, h'.lj, by rw [← h'.eq]; exact hu⟩, by omega, by omega, fun v hva hvb => ?_⟩
    obtain ⟨x, hx, ex⟩ := inLine_iff.1 hva
    obtain ⟨y, hy, ey⟩ := inLine_iff.1 hvb
    have hix : i ≤ x := by
      by_cases hlt : x < i
      · exact absurd (ex.trans ey.symm) (h'.low x y hlt hy)
      · omega
    refine inLine_iff.2 ⟨x - i, by omega, ?_⟩
    have := anc_add h.par ha i (x - i)
    rw [show i + (x - i) = x by omega, if_neg (by omega), hu, Int.toNat_natCast] at this
    rw [← this]
    exact ex
  · rw [e] at hc; cases hc

theorem cmn_isSome (h : Forest n p) {a b : Nat} (ha : a < n) (hb : b < n) : (cmn n p a b).isSome = true ↔ anc p (dep n p a) a = anc p (dep n p b) b := by
  rcases cmn_cases (n := n) (p := p) a b with ⟨i, j, h', e⟩ | ⟨h', e⟩
  · rw [e]
    exact ⟨fun _ => h.root_of ha hb h'.li h'.lj h'.eq, fun _ => rfl⟩
  · rw [e]
    exact ⟨fun h => by simp at h, fun e' => absurd e' (h' _ _ (Nat.le_refl _) (Nat.le_refl _))⟩

theorem cmn_none_line {a b : Nat} (hc : cmn n p a b = none) (v : Nat) (hva : inLine n p a (v : Int) = true) : inLine n p b (v : Int) = false := by
  rw [Bool.eq_false_iff]
  intro hvb
  obtain ⟨x, hx, ex⟩ := inLine_iff.1 hva
  obtain ⟨y, hy, ey⟩ := inLine_iff.1 hvb
  rcases cmn_cases (n := n) (p := p) a b with ⟨i, j, h', e⟩ | ⟨h', e⟩
  · rw [e] at hc; cases hc
  · exact h' x y hx hy (ex.trans ey.symm)

theorem cmn_self (a : Nat) : cmn n p a a = some (a : Int) :=
  IsC.cmn (i := 0) (j := 0) ⟨Nat.zero_le _, Nat.zero_le _, rfl, fun i' _ hi => by omega⟩

/-- Two above one node: the deeper one is below the other. -/
theorem line_total (h : Forest n p) {a u v : Nat} (ha : a < n) (hu : inLine n p a (u : Int) = true) (hv : inLine n p a (v : Int) = true) (hd : dep n p v ≤ dep n p u) : inLine n p u (v : Int) = true := by
  obtain ⟨x, hx, ex⟩ := inLine_iff.1 hu
  obtain ⟨y, hy, ey⟩ := inLine_iff.1 hv
  obtain ⟨u', e1, _, d1⟩ := h.anc_dep ha hx
  obtain ⟨v', e2, _, d2⟩ := h.anc_dep ha hy
  have : u' = u := by omega
  subst this
  have : v' = v := by omega
  subst this
  refine inLine_iff.2 ⟨y - x, by omega, ?_⟩
  have := anc_add h.par ha x (y - x)
  rw [show x + (y - x) = y by omega, if_neg (by omega), ex, Int.toNat_natCast] at this
  rw [← this]
  exact ey

theorem line_dep (h : Forest n p) {a v : Nat} (ha : a < n) (hv : inLine n p a (v : Int) = true) : dep n p v ≤ dep n p a ∧ (dep n p v = dep n p a → v = a) ∧ anc p (dep n p a - dep n p v) a = (v : Int) ∧ v < n := by
  obtain ⟨x, hx, ex⟩ := inLine_iff.1 hv
  obtain ⟨v', e2, h2, d2⟩ := h.anc_dep ha hx
  have : v' = v := by omega
  subst this
  refine ⟨by omega, fun e => ?_, ?_, h2⟩
  · have : x = 0 := by omega
    subst this
    rw [anc_zero] at ex
    omega
  · rw [show dep n p a - dep n p v' = x by omega]
    exact ex

/-- Same depth on one line: the same node. -/
theorem line_same (h : Forest n p) {a u v : Nat} (ha : a < n) (hu : inLine n p a (u : Int) = true) (hv : inLine n p a (v : Int) = true) (hd : dep n p u = dep n p v) : u = v := by
  have h1 := (line_dep h ha hu).2.2.1
  have h2 := (line_dep h ha hv).2.2.1
  rw [hd, h2] at h1
  omega

/-- The lowest common ancestors of three nodes below one root. -/
theorem three (h : Forest n p) {a b c x y z : Nat} (ha : a < n) (hb : b < n) (hc : c < n) (hx : cmn n p a b = some (x : Int)) (hy : cmn n p b c = some (y : Int)) (hz : cmn n p a c = some (z : Int)) :
    (x = y ∨ y = z ∨ x = z) ∧ dep n p x + dep n p y ≤ dep n p b + dep n p z := by
  obtain ⟨k, e, xn, xa, xb, xda, xdb, xl⟩ := cmn_spec h ha hb hx
  have : k = x := by omega
  subst this
  obtain ⟨k', e', yn, yb, yc, ydb, ydc, yl⟩ := cmn_spec h hb hc hy
  have : k' = y := by omega
  subst this
  obtain ⟨k2, e2, zn, za, zc, zda, zdc, zl⟩ := cmn_spec h ha hc hz
  have : k2 = z := by omega
  subst this
  by_cases hxy : dep n p k ≤ dep n p k'
  · -- x is above y, so above c, so above z
    have h1 := line_total h hb yb xb hxy
    have h2 := line_trans h hc yc h1
    have h3 := zl _ xa h2
    have d3 := line_dep h zn h3
    refine ⟨?_, by omega⟩
    by_cases hxz : dep n p k = dep n p k2
    · exact .inr (.inr (line_same h ha xa za hxz))
    · -- z is deeper than x: then it is no ancestor of b, and y is x
      by_cases hyz : dep n p k2 ≤ dep n p k'
      · -- z above y: above b: so z above x
        have h5 := line_total h hc yc zc hyz
        have h6 := line_trans h hb yb h5
        have h7 := xl _ za h6
        have d7 := line_dep h xn h7
        omega
      · -- y above z: so above a: so y above x
        have h5 := line_total h hc zc yc (by omega)
        have h6 := line_trans h ha za h5
        have h7 := xl _ h6 yb
        have d7 := line_dep h xn h7
        exact .inl (line_same h hb xb yb (by omega))
  · -- y is above x, so above a, so above z
    have h1 := line_total h hb xb yb (by omega)
    have h2 := line_trans h ha xa h1
    have h3 := zl _ h2 yc
    have d3 := line_dep h zn h3
    refine ⟨?_, by omega⟩
    by_cases hyz : dep n p k' = dep n p k2
    · exact .inr (.inl (line_same h hc yc zc hyz))
    · by_cases hxz : dep n p k2 ≤ dep n p k
      · have h5 := line_total h ha xa za hxz
        have h6 := line_trans h hb xb h5
        have h7 := yl _ h6 zc
        have d7 := line_dep h yn h7
        omega
      · have h5 := line_total h ha za xa (by omega)
        have h6 := line_trans h hc zc h5
        have h7 := yl _ xb h6
        have d7 := line_dep h yn h7
        omega

/-- How many nodes are above one, and itself. -/
theorem line_count (h : Forest n p) {v : Nat} (hv : v < n) : cnt n (fun a => inLine n p v (a : Int)) = dep n p v + 1 := by
  have h1 := sumTo_cnt (n := n) (m := dep n p v + 1) (f := fun j => (anc p j v).toNat) (fun j hj => by
    obtain ⟨u, hu, hun, _⟩ := h.anc_dep hv (show j ≤ dep n p v by omega)
    show (anc p j v).toNat < n
    rw [hu]
    simpa using hun)
  have key : ∀ m, m ≤ n → cnt m (fun a => inLine n p v (a : Int)) = sumTo (fun i => cnt (dep n p v + 1) (fun j => decide ((anc p j v).toNat = i))) m := by
    intro m
    induction m with
    | zero => intro _; rfl
    | succ m ih =>
      intro hm
      simp only [cnt, sumTo]
      rw [ih (by omega)]
      congr 1
      cases hl : inLine n p v (m : Int) with
      | true =>
        obtain ⟨x, hx, ex⟩ := inLine_iff.1 hl
        have one : cnt (dep n p v + 1) (fun j => decide ((anc p j v).toNat = m)) ≤ 1 := cnt_le_one (fun i j hi hj e1 e2 => by
          simp at e1 e2
          have p1 := (h.anc_iff hv i).2 (by omega)
          have p2 := (h.anc_iff hv j).2 (by omega)
          have e3 : anc p i v = anc p j v := by omega
          exact h.anc_inj hv (by omega) (by omega) e3)
        have pos : 1 ≤ cnt (dep n p v + 1) (fun j => decide ((anc p j v).toNat = m)) := by
          have : ∀ K, x < K → 1 ≤ cnt K (fun j => decide ((anc p j v).toNat = m)) := by
            intro K
            induction K with
            | zero => intro h; omega
            | succ K ih2 =>
              intro hK
              simp only [cnt]
              by_cases e : x = K
              · subst e
                rw [ex]
                simp
              · have := ih2 (by omega)
                omega
          exact this _ (by omega)
        have e1 : cnt (dep n p v + 1) (fun j => decide ((anc p j v).toNat = m)) = 1 := by omega
        show (true : Bool).toNat = cnt (dep n p v + 1) (fun j => decide ((anc p j v).toNat = m))
        rw [e1]
        rfl
      | false =>
        have : cnt (dep n p v + 1) (fun j => decide ((anc p j v).toNat = m)) = 0 := cnt_zero (fun i hi => by
          rw [decide_eq_false_iff_not]
          intro e
          have p1 := (h.anc_iff hv i).2 (by omega)
          rw [Bool.eq_false_iff] at hl
          exact hl (inLine_iff.2 ⟨i, by omega, by omega⟩))
        show (false : Bool).toNat = cnt (dep n p v + 1) (fun j => decide ((anc p j v).toNat = m))
        rw [this]
        rfl
  rw [key n (Nat.le_refl _)]
  exact h1
end

end Go.Proofs.YthpghcidocjanaaDoor

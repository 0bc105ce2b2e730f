/- Plain facts: the average at one; what the bisection has reached. No program in sight. -/
import Derived.Test.YtneidejngbokcaaF10
namespace Go.Proofs.Ytneidejngbokcaa

/-- The class of the finite number at the place r. -/
def Ex (c : Cl) (r : Int) : Prop := ∃ z, c = some z ∧ Fin' z ∧ R z = r

theorem numB_nn' {x : Nat} (h : numB x = true) : isN x = false := by
  unfold numB at h
  rw [Bool.and_eq_true] at h
  exact (geB_nn h.1).1

theorem V_zero {z : Nat} (h : R z = 0) : V z = 0 := by unfold V; rw [h, mgI_zero]
theorem inf_pos : (0 : Int) < inf := by unfold inf; omega

theorem ex_add {a b : Cl} {r : Int} (ha : Ex a r) (hb : Ex b 0) : Ex (fop .add a b) r := by
  obtain ⟨x, rfl, fx, rx⟩ := ha
  obtain ⟨y, rfl, fy, ry⟩ := hb
  obtain ⟨z, hz, hr⟩ := add_rnd fx fy
  have hx := fin_R fx
  have e : R z = r := hr.exact (by omega) (by omega) (by rw [V_zero ry]; unfold V; rw [rx]; omega)
  exact ⟨z, hz, fin_of (by omega) (by omega), e⟩

theorem ex_add' {a b : Cl} {r : Int} (ha : Ex a 0) (hb : Ex b r) : Ex (fop .add a b) r := by
  obtain ⟨x, rfl, fx, rx⟩ := ha
  obtain ⟨y, rfl, fy, ry⟩ := hb
  obtain ⟨z, hz, hr⟩ := add_rnd fx fy
  have hx := fin_R fy
  have e : R z = r := hr.exact (by omega) (by omega) (by rw [V_zero rx]; unfold V; rw [ry]; omega)
  exact ⟨z, hz, fin_of (by omega) (by omega), e⟩

theorem ex_mul0 {a b : Cl} {r : Int} (ha : Ex a r) (hb : Ex b 0) : Ex (fop .mul a b) 0 := by
  obtain ⟨x, rfl, fx, rx⟩ := ha
  obtain ⟨y, rfl, fy, ry⟩ := hb
  obtain ⟨z, hz, hr⟩ := mul_rnd fx fy
  have hi := inf_pos
  have e : R z = 0 := hr.exact (by omega) (by omega) (by rw [V_zero ry, mgI_zero]; simp)
  exact ⟨z, hz, fin_of (by omega) (by omega), e⟩

theorem ex_mul1 {a b : Cl} {r : Int} (ha : Ex a r) (hb : Ex b (R one)) : Ex (fop .mul a b) r := by
  obtain ⟨x, rfl, fx, rx⟩ := ha
  obtain ⟨y, rfl, fy, ry⟩ := hb
  obtain ⟨z, hz, hr⟩ := mul_rnd fx fy
  have hx := fin_R fx
  have vy : V y = U := by rw [← one_V.1]; unfold V; rw [ry]
  have e : R z = r := hr.exact (by omega) (by omega) (by rw [vy]; unfold V; rw [rx])
  exact ⟨z, hz, fin_of (by omega) (by omega), e⟩

theorem ex_quo1 {a b : Cl} {r : Int} (ha : Ex a r) (hb : Ex b (R one)) : Ex (fop .quo a b) r := by
  obtain ⟨x, rfl, fx, rx⟩ := ha
  obtain ⟨y, rfl, fy, ry⟩ := hb
  have vy : V y = U := by rw [← one_V.1]; unfold V; rw [ry]
  have hu := U_pos
  obtain ⟨z, hz, hr⟩ := quo_rnd fx fy (V_pos_iff.1 (by omega))
  have hx := fin_R fx
  have e : R z = r := hr.exact (by omega) (by omega) (by rw [vy]; unfold V; rw [rx])
  exact ⟨z, hz, fin_of (by omega) (by omega), e⟩

theorem ex_one : Ex (some one) (R one) := ⟨one, rfl, one_V.2, rfl⟩
theorem ex_zero : Ex (some 0) 0 := ⟨0, rfl, by unfold Fin'; decide, R_zero⟩

theorem prob_one : Prob one := ⟨one_V.2, by rw [R_one]; omega, Int.le_refl _⟩

theorem kz_one {m : Nat} (hm : m ≤ 59) : kz m one = m := by
  obtain ⟨v, hf⟩ := flI_V (n := (m : Int) + 1) (by omega) (by omega)
  have r := fin_R hf
  have hr := prod_rnd (m := m) (by omega) prob_one
  rw [one_V.1] at hr
  have e : R (prodW m one) = R (flI ((m : Int) + 1)) := hr.exact (by omega) (by omega) (by
    show V (flI ((m : Int) + 1)) * U = _
    rw [v])
  have hv : V (prodW m one) = ((m : Int) + 1) * U := by rw [← v]; unfold V; rw [e]
  have ht : trn (prodW m one) = m + 1 := by
    unfold trn
    rw [hv, Int.mul_ediv_cancel _ (by have := U_pos; omega)]
    omega
  unfold kz
  omega

theorem odds_one : Ex (fop .quo (fop .sub (some one) (some one)) (some one)) 0 := by
  refine ex_quo1 ?_ ex_one
  obtain ⟨z, hz, hr⟩ := sub_rnd one_V.2 one_V.2
  have hi := inf_pos
  have e : R z = 0 := hr.exact (by omega) (by omega) (by rw [mgI_zero]; omega)
  exact ⟨z, hz, fin_of (by omega) (by omega), e⟩

theorem nb_ex {c : Cl} {e : Nat} (h : Nb c e) : ∃ r, Ex c r := by
  obtain ⟨z, h1, h2, _⟩ := h
  exact ⟨_, z, h1, h2, rfl⟩

theorem dn_at_one {m : Nat} (hm : m ≤ 59) : ∀ s, s ≤ m → ∀ j, j < m → Ex (dnW m (some one) m s j) 0
  | 0, _, j, hj => by
    unfold dnW upW
    rw [Nat.sub_self]
    show Ex (if j = m then some one else some 0) 0
    rw [if_neg (by omega)]; exact ex_zero
  | s + 1, hs, j, hj => by
    unfold dnW stepD
    split
    · have hk := kz_one hm
      obtain ⟨_, h2⟩ := dn_nb hm prob_one (by omega) s (by omega)
      have h2 := h2 (m - s)
      rw [hk] at h2
      have h3 := nb_ratio (i := m - s) (j := m - (m - s) + 1) (by omega) (by omega) (by omega)
      have e1 : ((m - (m - s) + 1 : Nat) : Int) = (m : Int) - ((m - s : Nat) : Int) + 1 := by omega
      rw [e1] at h3
      have hu := u0_eq
      have b1 : u0 + 767 + (u0 + 6) = u0 + 773 + u0 := by rw [hu]
      have b2 : 52 ≤ u0 + 773 := by omega
      have b3 : u0 + 773 ≤ 1980 := by omega
      obtain ⟨r, hr⟩ := nb_ex (h2.mul h3 b1 b2 b3)
      exact ex_mul0 hr odds_one
    · exact dn_at_one hm s (by omega) j hj

theorem sum_at_one {m : Nat} (hm : m ≤ 59) : ∀ k, k ≤ m → Ex (sumW (dnW m (some one) m m) k) 0
  | 0, _ => ex_zero
  | k + 1, hk => ex_add (sum_at_one hm k (by omega)) (dn_at_one hm m (Nat.le_refl _) k (by omega))

theorem wgt_at_one {m : Nat} (hm : m ≤ 59) : (∀ j, j < m → Ex (wgt m (some one) m j) 0) ∧ Ex (wgt m (some one) m m) (R one) := by
  have hs : Ex (sumW (dnW m (some one) m m) (m + 1)) (R one) := by
    unfold sumW
    rw [dn_one m (some one) m m (Nat.le_refl _)]
    exact ex_add' (sum_at_one hm m (Nat.le_refl _)) ex_one
  refine ⟨fun j hj => ex_quo1 (dn_at_one hm m (Nat.le_refl _) j hj) hs, ?_⟩
  unfold wgt
  rw [dn_one m (some one) m m (Nat.le_refl _)]
  exact ex_quo1 ex_one hs

theorem avC_one {n : Nat} {f : Nat → Nat} (hn : n ≤ 60) (hv : valB n f = true) : Ex (avC n (fun i => cls (f i)) one) (R (f (n - 1))) := by
  obtain ⟨h1, _, h3⟩ := valB_get hv
  have ha : absW one = one := by decide +kernel
  have hc : cls one = some one := by decide
  obtain ⟨m, rfl⟩ : ∃ m, n = m + 1 := ⟨n - 1, by omega⟩
  unfold avC
  rw [ha, hc, show m + 1 - 1 = m by omega, kz_one (by omega)]
  obtain ⟨w1, w2⟩ := wgt_at_one (m := m) (by omega)
  have ev : ∀ i, i < m + 1 → Ex (cls (f i)) (R (f i)) := fun i hi => by
    obtain ⟨hc, hb⟩ := num_bd (h3 i hi)
    exact ⟨f i, hc, hb.fin, rfl⟩
  have hs : ∀ k, k ≤ m → Ex (sumC (fun i => cls (f i)) (wgt m (some one) m) k) 0 := by
    intro k
    induction k with
    | zero => exact fun _ => ex_zero
    | succ k ih => exact fun hk => ex_add (ih (by omega)) (ex_mul0 (ev k (by omega)) (w1 k (by omega)))
  exact ex_add' (hs m (Nat.le_refl _)) (ex_mul1 (ev m (by omega)) w2)

/-- What holds of the bisection after k steps. -/
structure Rch (n : Nat) (F : Nat → Cl) (t : Nat) (k : Nat) (lh : Nat × Nat) : Prop where
  pos : 0 < R lh.1 ∨ (R lh.1 = 0 ∧ V lh.2 = ((2 ^ (u0 - k) : Nat) : Int))
  ge : ∃ a, avC n F lh.2 = some a ∧ isN a = false ∧ R t ≤ R a

theorem bs_reached {n : Nat} {f : Nat → Nat} {t : Nat} (hn : n ≤ 60) (hv : valB n f = true) (ht : numB t = true) (hlast : ordr t (f (n - 1)) ≠ some .gt) : ∀ k, k ≤ 60 → Rch n (fun i => cls (f i)) t k (bsS n (fun i => cls (f i)) (cls t) k)
  | 0, _ => by
    obtain ⟨a, ha, fa, ra⟩ := avC_one hn hv
    obtain ⟨h1, _, h3⟩ := valB_get hv
    refine ⟨.inr ⟨R_zero, ?_⟩, a, ha, fin_nn fa, ?_⟩
    · show V one = _
      rw [one_V.1, Nat.sub_zero]; rfl
    · rw [ra]
      refine Int.not_lt.1 fun hlt => hlast ?_
      rw [ordr_nn (numB_nn' ht) (numB_nn' (h3 (n - 1) (by omega))), cmp_gt hlt]
  | k + 1, hk => by
    obtain ⟨pos, ge⟩ := bs_reached hn hv ht hlast k (by omega)
    have iv := bs_iv n (fun i => cls (f i)) (cls t) k
    obtain ⟨_, _, p, _, _, _, _, me, np, p1, p2, pw⟩ := mid_spec iv
    have hu := u0_eq
    have pp : probB p = true := probB_of np (by have := iv.l0; omega) (by have := iv.h1; omega)
    obtain ⟨a, ha, fa⟩ := avC_some hn hv pp
    have hpp : 0 < R p ∨ False := .inl (by
      rcases pos with h | ⟨h, hV⟩
      · omega
      · have := pw (u0 - (k + 1)) (by omega) (by
          rw [hV, V_zero h, Int.sub_zero]
          have e : u0 - (k + 1) + 1 = u0 - k := by omega
          rw [e]) (V_zero h)
        have h2 := Nat.two_pow_pos (u0 - (k + 1))
        exact V_pos_iff.1 (by rw [this]; exact Int.natCast_pos.2 h2))
    have hpp : 0 < R p := hpp.resolve_right (fun h => h)
    show Rch n _ t (k + 1) (if ordC (avC n (fun i => cls (f i)) (mid (bsS n (fun i => cls (f i)) (cls t) k).1 (bsS n (fun i => cls (f i)) (cls t) k).2)) (cls t) = some .lt then (mid (bsS n (fun i => cls (f i)) (cls t) k).1 (bsS n (fun i => cls (f i)) (cls t) k).2, (bsS n (fun i => cls (f i)) (cls t) k).2) else ((bsS n (fun i => cls (f i)) (cls t) k).1, mid (bsS n (fun i => cls (f i)) (cls t) k).1 (bsS n (fun i => cls (f i)) (cls t) k).2))
    rw [me]
    by_cases hc : ordC (avC n (fun i => cls (f i)) p) (cls t) = some .lt
    · rw [if_pos hc]
      exact ⟨.inl hpp, ge⟩
    · rw [if_neg hc]
      refine ⟨?_, a, ha, fin_nn fa, ?_⟩
      · rcases pos with h | ⟨h, hV⟩
        · exact .inl h
        · refine .inr ⟨h, pw (u0 - (k + 1)) (by omega) ?_ (V_zero h)⟩
          rw [hV, V_zero h, Int.sub_zero]
          have e : u0 - (k + 1) + 1 = u0 - k := by omega
          rw [e]
      · have ct : cls t = some t := by unfold cls; rw [numB_nn' ht]; rfl
        rw [ha, ct] at hc
        refine Int.not_lt.1 fun hlt => hc ?_
        show ordr a t = some .lt
        rw [ordr_nn (fin_nn fa) (numB_nn' ht), cmp_lt hlt]

theorem bs_end {n : Nat} {f : Nat → Nat} {t : Nat} (hn : n ≤ 60) (hv : valB n f = true) (ht : numB t = true) (hlast : ordr t (f (n - 1)) ≠ some .gt) :
    0 < R (bsS n (fun i => cls (f i)) (cls t) 60).2 := by
  have iv := bs_iv n (fun i => cls (f i)) (cls t) 60
  rcases (bs_reached hn hv ht hlast 60 (by omega)).pos with h | ⟨_, hV⟩
  · have := iv.le; omega
  · have h2 := Nat.two_pow_pos (u0 - 60)
    exact V_pos_iff.1 (by rw [hV]; exact Int.natCast_pos.2 h2)

end Go.Proofs.Ytneidejngbokcaa

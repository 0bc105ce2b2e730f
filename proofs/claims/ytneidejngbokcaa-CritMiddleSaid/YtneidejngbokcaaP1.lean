/- Plain: where an average is greatest. No program in sight. -/
import Derived.Test.YtneidejngbokcaaC4
namespace Go.Proofs.Ytneidejngbokcaa

theorem ordr_some {x y : Nat} {o : Ordering} (h : ordr x y = some o) : isN x = false ∧ isN y = false ∧ compare (R x) (R y) = o := by
  have hx : isN x = false := by
    cases e : isN x
    · rfl
    · rw [ordr_nan (.inl e)] at h; cases h
  have hy : isN y = false := by
    cases e : isN y
    · rfl
    · rw [ordr_nan (.inr e)] at h; cases h
  rw [ordr_nn hx hy] at h
  exact ⟨hx, hy, Option.some.inj h⟩

theorem cmp_gt_iff {a b : Int} : compare a b = .gt ↔ b < a := by
  constructor
  · intro h
    by_cases h1 : a < b
    · rw [cmp_lt h1] at h; cases h
    · by_cases h2 : a = b
      · rw [cmp_eq h2] at h; cases h
      · omega
  · exact cmp_gt

theorem ordC_trans {a b c : Cl} (h : ordC a b ≠ some .gt) (h2 : ordC c b = some .gt) : ordC a c ≠ some .gt ∧ ordC a c ≠ some .eq := by
  cases b with
  | none => cases c <;> cases h2
  | some y =>
    cases c with
    | none => cases h2
    | some z =>
      obtain ⟨nz, ny, hc⟩ := ordr_some (show ordr z y = some .gt from h2)
      have hlt := cmp_gt_iff.1 hc
      cases a with
      | none => exact ⟨(fun h => by cases h), (fun h => by cases h)⟩
      | some x =>
        by_cases nx : isN x = true
        · have e : ordC (some x) (some z) = none := ordr_nan (.inl nx)
          rw [e]
          exact ⟨(fun h => by cases h), (fun h => by cases h)⟩
        · have nx' : isN x = false := by simpa using nx
          have h1 : ¬ R y < R x := fun hh => h (show ordr x y = some .gt by rw [ordr_nn nx' ny, cmp_gt hh])
          have e : ordC (some x) (some z) = some .lt := show ordr x z = some .lt by rw [ordr_nn nx' nz, cmp_lt (by omega)]
          rw [e]
          exact ⟨(fun h => by cases h), (fun h => by cases h)⟩

theorem absW_congr {p q : Nat} (h : R p = R q) : absW p = absW q := by
  rw [absW_eq, absW_eq]
  unfold R at h
  split at h <;> split at h <;> omega

theorem avC_congr {n : Nat} {F : Nat → Cl} {p q : Nat} (h : R p = R q) : avC n F p = avC n F q := by
  unfold avC; rw [absW_congr h]

/-- The greatest so far, of the numbers gone over. -/
structure PkI (n : Nat) (F : Nat → Cl) (s k K : Nat) (t : Nat × Cl) : Prop where
  nn : isN t.1 = false
  r : R t.1 = R (gridW s K)
  b : t.2 = avC n F (gridW s K)
  top : ∀ j, j < k → ordC (avC n F (gridW s j)) t.2 ≠ some .gt
  first : ∀ j, j < K → ordC (avC n F (gridW s j)) t.2 ≠ some .gt ∧ ordC (avC n F (gridW s j)) t.2 ≠ some .eq

theorem pk_spec {n s : Nat} (F : Nat → Cl) (hs1 : 1 ≤ s) (hs2 : s ≤ 1000) : ∀ k, k ≤ s + 1 → ∃ K, K ≤ s ∧ PkI n F s k K (pkS n F s k)
  | 0, _ => ⟨0, by omega, isN_zero, by rw [grid_zero hs1 hs2]; exact R_zero, avC_congr (by rw [grid_zero hs1 hs2, R_zero]), fun j hj => by omega, fun j hj => by omega⟩
  | k + 1, hk => by
    obtain ⟨K, hK, h⟩ := pk_spec F hs1 hs2 k (by omega)
    show ∃ K, K ≤ s ∧ PkI n F s (k + 1) K (if ordC (avC n F (gridW s k)) (pkS n F s k).2 = some .gt then (gridW s k, avC n F (gridW s k)) else pkS n F s k)
    by_cases hg : ordC (avC n F (gridW s k)) (pkS n F s k).2 = some .gt
    · rw [if_pos hg]
      refine ⟨k, by omega, (grid_rnd hs1 hs2 (by omega)).2.1, rfl, rfl, fun j hj => ?_, fun j hj => ordC_trans (h.top j hj) hg⟩
      by_cases e : j = k
      · subst e
        intro hh
        obtain ⟨x, hx⟩ : ∃ x, avC n F (gridW s j) = some x := by
          cases hav : avC n F (gridW s j) with
          | none => rw [hav] at hh; cases hh
          | some x => exact ⟨x, rfl⟩
        rw [hx] at hh
        obtain ⟨_, _, hc⟩ := ordr_some (show ordr x x = some .gt from hh)
        rw [cmp_eq rfl] at hc; cases hc
      · exact (ordC_trans (h.top j (by omega)) hg).1
    · rw [if_neg hg]
      refine ⟨K, hK, h.nn, h.r, h.b, fun j hj => ?_, h.first⟩
      by_cases e : j = k
      · subst e; exact hg
      · exact h.top j (by omega)

end Go.Proofs.Ytneidejngbokcaa

/- Walks: the law CritMonotone. -/
import Derived.Test.YtneidejngbokcaaE2
namespace Go.Proofs.Ytneidejngbokcaa
open Go.RowKit

theorem ordC_le {s t : Nat} (h : leB s t = true) (a : Cl) (ha : ordC a (cls s) = some .lt) : ordC a (cls t) = some .lt := by
  obtain ⟨ns, nt, hr⟩ := leB_nn h
  have cs : cls s = some s := by unfold cls; rw [ns]; rfl
  have ct : cls t = some t := by unfold cls; rw [nt]; rfl
  rw [cs] at ha
  rw [ct]
  cases a with
  | none => cases ha
  | some x =>
    obtain ⟨nx, _, hc⟩ := ordr_some (show ordr x s = some .lt from ha)
    have hlt : R x < R s := by
      by_cases h1 : R x < R s
      · exact h1
      · by_cases h2 : R x = R s
        · rw [cmp_eq h2] at hc; cases hc
        · rw [cmp_gt (by omega)] at hc; cases hc
    show ordr x t = some .lt
    rw [ordr_nn nx nt, cmp_lt (by omega)]

theorem solR_zero {n : Nat} {f : Nat → Nat} {t : Nat} (h : (solR n f t).2 = 0) : valB n f = true ∧ numB t = true ∧ srtB n f = true ∧ ordr t (f 0) ≠ some .lt ∧ ordr t (f (n - 1)) ≠ some .gt ∧ (solR n f t).1 = (bsS n (fun i => cls (f i)) (cls t) 60).2 := by
  unfold solR at h ⊢
  split at h
  · rename_i h1
    rw [if_pos h1]
    rw [Bool.and_eq_true] at h1
    split at h
    · rename_i h2
      rw [if_pos h2]
      split at h
      · cases h
      · rename_i h3
        rw [if_neg h3]
        exact ⟨h1.1, h1.2, h2, fun h => h3 (.inl h), fun h => h3 (.inr h), rfl⟩
    · cases h
  · cases h

theorem sol_mono {n : Nat} {f : Nat → Nat} {s t : Nat} (h : leB s t = true) (hs : (solR n f s).2 = 0) (ht : (solR n f t).2 = 0) : leB (solR n f s).1 (solR n f t).1 = true := by
  obtain ⟨_, _, _, _, _, es⟩ := solR_zero hs
  obtain ⟨_, _, _, _, _, et⟩ := solR_zero ht
  rw [es, et]
  have is := bs_iv n (fun i => cls (f i)) (cls s) 60
  have it := bs_iv n (fun i => cls (f i)) (cls t) 60
  refine leB_of is.nh it.nh ?_
  rcases bs_mono (n := n) (F := fun i => cls (f i)) (ordC_le h) 60 with e | e
  · rw [e]; exact Int.le_refl _
  · have := it.le; omega

set_option maxRecDepth 100000 in
set_option maxHeartbeats 2000000 in
theorem CritMonotone_at (w : World) (ao : Option Addr) (n c : Nat) (f : Nat → Nat) (hn : n ≤ maxLen) (h : FlAt w ao n f) (s t : Nat) :
    Calls Try.prog 12 #[.slice ao n c, .float .f64 s, .float .f64 t] w fun e w' => e = .returned (.bool true) ∧ Same' w w' := by
  unfold maxLen at hn
  have W := hide works_at
  by_cases h60 : 60 < n
  · have d1 : decide ((60 : Int) < n) = true := by simp; omega
    clear h
    go_enter Try.func12, Try.ntmps12
    go_wp2_with (go_at_call 14; refine (W.out _).mono ?_; rintro e w3 ⟨rfl, hf3⟩)
    go_ret
    exact ⟨rfl, hf3⟩
  have d1 : decide ((60 : Int) < n) = false := by simp; omega
  cases hl : leB s t with
  | false =>
    unfold leB ordr at hl
    rw [Bool.or_eq_false_iff] at hl
    obtain ⟨o1, o2⟩ := hl
    clear h
    go_enter Try.func12, Try.ntmps12
    go_wp2_with (go_at_call 14; refine (W.out _).mono ?_; rintro e w3 ⟨rfl, hf3⟩)
    go_ret
    exact ⟨rfl, hf3⟩
  | true =>
    have C1 := hide (Solve17_at c h s)
    have C2 := hide (fun W (hw : Same' w W) => Solve17_at c (h.keep hw) t)
    have hm := fun h1 h2 => sol_mono (n := n) (f := f) hl h1 h2
    unfold leB ordr at hl
    rw [Bool.or_eq_true, beq_iff_eq, beq_iff_eq] at hl
    generalize (solR n f s) = rs at *
    generalize (solR n f t) = rt at *
    obtain ⟨p, e1⟩ := rs
    obtain ⟨q, e2⟩ := rt
    simp only at hm C1 C2
    have hcase : ((e1 != 0) = true) ∨ ((e1 != 0) = false ∧ (e2 != 0) = true) ∨ ((e1 != 0) = false ∧ (e2 != 0) = false ∧ (FloatKind.f64.format.order p q = some .lt ∨ FloatKind.f64.format.order p q = some .eq)) := by
      by_cases h1 : e1 = 0
      · by_cases h2 : e2 = 0
        · have := hm h1 h2
          unfold leB ordr at this
          rw [Bool.or_eq_true, beq_iff_eq, beq_iff_eq] at this
          exact .inr (.inr ⟨by simp [h1], by simp [h2], this⟩)
        · exact .inr (.inl ⟨by simp [h1], by simp [h2]⟩)
      · exact .inl (by simp [h1])
    clear hm h
    rcases hl with ol | ol <;> rcases hcase with x1 | ⟨x1, x2⟩ | ⟨x1, x2, x3 | x3⟩
    all_goals
      go_enter Try.func12, Try.ntmps12
      go_wp2_with fail
      refine C1.out.mono ?_
      clear C1
      rintro e w1 ⟨rfl, hf1⟩
      go_wp2_with fail
      refine (C2.out _ hf1).mono ?_
      clear C2
      rintro e w2 ⟨rfl, hf2⟩
      go_wp2_with (go_at_call 14; refine (W.out _).mono ?_; rintro e w3 ⟨rfl, hf3⟩)
      go_ret
      exact ⟨rfl, (hf1.trans hf2).trans hf3⟩

end Go.Proofs.Ytneidejngbokcaa

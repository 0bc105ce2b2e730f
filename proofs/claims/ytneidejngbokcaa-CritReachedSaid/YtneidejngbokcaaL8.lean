/- Walks: the law CritReached. -/
import Derived.Test.YtneidejngbokcaaL5
import Derived.Test.YtneidejngbokcaaF11
namespace Go.Proofs.Ytneidejngbokcaa
open Go.RowKit

/-- What Solve hands back where it fails is nought; where it answers, it is above 0 and at most 1, and the average there is not below the target. -/
theorem sol_reached {n : Nat} {f : Nat → Nat} {t : Nat} (hn : n ≤ 60) : ((solR n f t).2 ≠ 0 ∧ (solR n f t).1 = 0) ∨
    ((solR n f t).2 = 0 ∧ valB n f = true ∧ probB (solR n f t).1 = true ∧ 0 < R (solR n f t).1 ∧ isN t = false ∧ ∃ a, avC n (fun i => cls (f i)) (solR n f t).1 = some a ∧ isN a = false ∧ R t ≤ R a) := by
  by_cases h0 : (solR n f t).2 = 0
  · right
    obtain ⟨h1, h2, h3, h4, h5, h6⟩ := solR_zero h0
    have iv := bs_iv n (fun i => cls (f i)) (cls t) 60
    have hp := bs_end hn h1 h2 h5
    rw [h6]
    obtain ⟨_, a, ha, na, ra⟩ := bs_reached hn h1 h2 h5 60 (by omega)
    exact ⟨h0, h1, probB_of iv.nh (by omega) iv.h1, hp, numB_nn' h2, a, ha, na, ra⟩
  · left
    refine ⟨h0, ?_⟩
    unfold solR at h0 ⊢
    split
    · rename_i g1
      rw [if_pos g1] at h0
      split
      · rename_i g2
        rw [if_pos g2] at h0
        split
        · rfl
        · rename_i g3
          rw [if_neg g3] at h0
          exact absurd rfl h0
      · rfl
    · rfl

set_option maxRecDepth 100000 in
set_option maxHeartbeats 2000000 in
theorem CritReached_at (w : World) (ao : Option Addr) (n c : Nat) (f : Nat → Nat) (hn : n ≤ maxLen) (h : FlAt w ao n f) (t : Nat) :
    Calls Try.prog 11 #[.slice ao n c, .float .f64 t] w fun e w' => e = .returned (.bool true) ∧ Same' w w' := by
  unfold maxLen at hn
  have W := hide works_at
  by_cases h60 : 60 < n
  · have d1 : decide ((60 : Int) < n) = true := by simp; omega
    clear h
    go_enter Try.func11, Try.ntmps11
    go_wp2_with (go_at_call 14; refine (W.out _).mono ?_; rintro e w3 ⟨rfl, hf3⟩)
    go_ret
    exact ⟨rfl, hf3⟩
  have d1 : decide ((60 : Int) < n) = false := by simp; omega
  have C1 := hide (Solve17_at c h t)
  have hS := sol_reached (n := n) (f := f) (t := t) (by omega)
  have HL := hide h
  generalize (solR n f t) = rs at *
  obtain ⟨p, er⟩ := rs
  simp only at hS C1
  clear h
  rcases hS with ⟨h1, rfl⟩ | ⟨rfl, hv, hp, hpos, nt, a, ha, na, ra⟩
  · have hb : (er != 0) = true := by simp [h1]
    have o0 : FloatKind.f64.format.order 0 0 = some .eq := by decide +kernel
    clear h1
    go_enter Try.func11, Try.ntmps11
    go_wp2_with fail
    refine C1.out.mono ?_
    clear C1
    rintro e w1 ⟨rfl, hf1⟩
    go_wp2_with (go_at_call 14; refine (W.out _).mono ?_; rintro e w3 ⟨rfl, hf3⟩)
    go_ret
    exact ⟨rfl, hf1.trans hf3⟩
  · obtain ⟨np, _, p1⟩ := probB_R hp
    have oz : FloatKind.f64.format.order p 0 = some .gt := (ordr_nn np isN_zero).trans (by rw [cmp_gt (by rw [R_zero]; exact hpos)])
    have o1 : FloatKind.f64.format.order p 4607182418800017408 = some .lt ∨ FloatKind.f64.format.order p 4607182418800017408 = some .eq := by
      have := ordr_nn np isN_one
      by_cases e : R p = R one
      · exact .inr (this.trans (by rw [cmp_eq e]))
      · exact .inl (this.trans (by rw [cmp_lt (by omega)]))
    have o2 : FloatKind.f64.format.order a t = some .gt ∨ FloatKind.f64.format.order a t = some .eq := by
      have := ordr_nn na nt
      by_cases e : R a = R t
      · exact .inr (this.trans (by rw [cmp_eq e]))
      · exact .inl (this.trans (by rw [cmp_gt (by omega)]))
    have C2 := hide (fun W (hw : Same' w W) => (Average24_ok c (HL.out.keep hw) hv hp).mono (R' := fun e w' => e = .returned (.tuple #[.float .f64 a, .int .i64 0]) ∧ Same' W w') (fun e w' ⟨x, g1, g2, g3⟩ => by
      obtain rfl := cls_word (g2.trans ha)
      exact ⟨g1, g3⟩))
    clear hv hp hpos nt ha na ra np p1
    rcases o1 with o1 | o1 <;> rcases o2 with o2 | o2
    all_goals
      go_enter Try.func11, Try.ntmps11
      go_wp2_with fail
      refine C1.out.mono ?_
      clear C1
      rintro e w1 ⟨rfl, hf1⟩
      go_wp2_with fail
      refine (C2.out _ hf1).mono ?_
      clear C2
      rintro e w2 ⟨rfl, hf2⟩
      go_wp2_with (go_at_call 14; refine (W.out _).mono ?_; rintro e w3 ⟨rfl, hf3⟩)
      go_ret
      exact ⟨rfl, (hf1.trans hf2).trans hf3⟩

end Go.Proofs.Ytneidejngbokcaa

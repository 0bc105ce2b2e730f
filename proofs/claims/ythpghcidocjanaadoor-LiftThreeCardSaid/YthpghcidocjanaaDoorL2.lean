/- The law LiftThree, walked. -/
import Derived.Test.YthpghcidocjanaaDoorL3
namespace Go.Proofs.YthpghcidocjanaaDoor
open Go.RowKit

section
variable {n : Nat} {p : Nat → Int}

theorem pair_facts (h : Forest n p) {a b : Nat} (ha : a < n) (hb : b < n) :
    (∃ x d : Nat, x < n ∧ ret2 (cmnR n p a b) = retIB (x : Nat) true ∧ ret2 (dstR n p a b) = retIB (d : Nat) true ∧ ret2 (dstR n p b a) = retIB (d : Nat) true ∧ (dep n p a : Int) + (dep n p b : Int) - 2 * (dep n p x : Int) = (d : Nat) ∧ (d = 0 ↔ a = b) ∧ cmn n p a b = some (x : Int)) ∨
    (ret2 (cmnR n p a b) = retIB 0 false ∧ ret2 (dstR n p a b) = retIB 0 false ∧ ret2 (dstR n p b a) = retIB 0 false ∧ cmn n p a b = none) := by
  unfold dstR
  rw [cmnR_in ha hb, cmnR_in hb ha, ← cmn_comm h ha hb]
  cases hc : cmn n p a b with
  | none => exact .inr ⟨rfl, rfl, rfl, rfl⟩
  | some c0 =>
    left
    obtain ⟨c, rfl, hcn, la, lb, da, db, hl⟩ := cmn_spec h ha hb hc
    have e : (dep n p a : Int) + (dep n p b : Int) - 2 * (dep n p c : Int) = ((dep n p a + dep n p b - 2 * dep n p c : Nat) : Int) := by omega
    refine ⟨c, dep n p a + dep n p b - 2 * dep n p c, hcn, rfl, ?_, ?_, e, ?_, rfl⟩
    · show retIB (depR n p a + depR n p b - 2 * depR n p c) true = _
      rw [depR_in' ha, depR_in' hb, depR_in' hcn, e]
    · show retIB (depR n p b + depR n p a - 2 * depR n p c) true = _
      rw [depR_in' ha, depR_in' hb, depR_in' hcn, show ((dep n p b : Nat) : Int) + (dep n p a : Nat) - 2 * (dep n p c : Nat) = (dep n p a : Int) + (dep n p b : Int) - 2 * (dep n p c : Int) by omega, e]
    · constructor
      · intro hz
        have h1 := (line_dep h ha la).2.1 (by omega)
        have h2 := (line_dep h hb lb).2.1 (by omega)
        omega
      · intro hz
        subst hz
        rw [cmn_self] at hc
        have := Option.some.inj hc
        have : c = a := by omega
        subst this
        omega

theorem pair_any (a b : Int) : ∃ (x d : Int) (t : Bool), ret2 (cmnR n p a b) = retIB x t ∧ ret2 (dstR n p a b) = retIB d t := by
  unfold dstR
  cases cmnR n p a b with
  | none => exact ⟨0, 0, false, rfl, rfl⟩
  | some c => exact ⟨c, _, true, rfl, rfl⟩
end

set_option maxHeartbeats 4000000 in
set_option maxRecDepth 1000000 in
theorem LiftThree_any {w : World} {ao : Option Addr} {m c : Nat} {l : Nat → Nat} (hl : ByAt w ao m l) (hmc : m ≤ c) (hm : c ≤ 9223372036854775807) (ht : TzTab w) (t : Bool) (x y z : Nat) (hx : x < 65536) (hy : y < 65536) (hz : z < 65536) :
    Calls Tryd.prog 4 #[.slice ao m c, .bool t, .int .u16 x, .int .u16 y, .int .u16 z] w fun e w' => e = .returned (.bool true) ∧ Same' w w' := by
  have C := hide (made_at hl hmc hm ht t)
  clear hl ht hmc hm
  go_enter Tryd.func4, Tryd.ntmps4
  go_wp2_with fail
  refine C.out.mono ?_
  clear C
  rintro e w1 ⟨b0, n, po, pc, p, rfl, hn, hO⟩
  have hF := hide hO.F
  by_cases h0 : n = 0
  · subst h0
    have C14 := hide (works_at hO.tz)
    have HO := hide hO.fr
    clear hO
    go_wp2_with ((go_at_call 14; refine C14.out.mono ?_; clear C14; rintro e w' ⟨rfl, hf⟩))
    go_ret
    exact ⟨rfl, HO.out.trans hf⟩
  · have hn0 : 0 < n := by omega
    obtain ⟨a, ha⟩ : ∃ v : Nat, (x : Int) % (n : Int) = (v : Nat) := ⟨x % n, (Int.natCast_emod x n).symm⟩
    obtain ⟨b, hb⟩ : ∃ v : Nat, (y : Int) % (n : Int) = (v : Nat) := ⟨y % n, (Int.natCast_emod y n).symm⟩
    obtain ⟨c', hc⟩ : ∃ v : Nat, (z : Int) % (n : Int) = (v : Nat) := ⟨z % n, (Int.natCast_emod z n).symm⟩
    have han : a < n := by
      have := Int.emod_lt_of_pos (x : Int) (show (0 : Int) < n by omega)
      omega
    have hbn : b < n := by
      have := Int.emod_lt_of_pos (y : Int) (show (0 : Int) < n by omega)
      omega
    have hcn : c' < n := by
      have := Int.emod_lt_of_pos (z : Int) (show (0 : Int) < n by omega)
      omega
    have g0 : ((n : Int) == 0) = false := by rw [beq_eq_false_iff_ne]; omega
    have hn0' : (0 : Int) < n := by omega
    have x1 : IntKind.i64.wrap (x : Int) = x := by rw [IntKind.wrap_i64]; omega
    have y1 : IntKind.i64.wrap (y : Int) = y := by rw [IntKind.wrap_i64]; omega
    have z1 : IntKind.i64.wrap (z : Int) = z := by rw [IntKind.wrap_i64]; omega
    have x3 : (x : Int).tmod (n : Int) = a := by rw [Int.tmod_eq_emod_of_nonneg (by omega)]; exact ha
    have y3 : (y : Int).tmod (n : Int) = b := by rw [Int.tmod_eq_emod_of_nonneg (by omega)]; exact hb
    have z3 : (z : Int).tmod (n : Int) = c' := by rw [Int.tmod_eq_emod_of_nonneg (by omega)]; exact hc
    have HN := hide (And.intro hn (And.intro han (And.intro hbn hcn)))
    clear ha hb hc hx hy hz h0 hn0 han hbn hcn hn
    go_wp2_with fail
    go_quiet (fail)
    have hO := hO.step ((Fr.refl _ _).drewN nq)
    clear x1 y1 z1 x3 y3 z3
    obtain ⟨hn, han, hbn, hcn⟩ := HN.out
    rcases pair_facts hF.out han hbn with ⟨X, D, hX, k1, k2, k3, k4, k5, k6⟩ | ⟨k1, k2, k3, k6⟩
    · have da := hF.out.dep_lt han
      have db := hF.out.dep_lt hbn
      have dx := hF.out.dep_lt hX
      have e1 := depR_in' (p := p) han
      have e2 := depR_in' (p := p) hbn
      have e3 := depR_in' (p := p) hX
      rcases pair_facts hF.out hbn hcn with ⟨Y, E, hY, l1, l2, l3, l4, l5, l6⟩ | ⟨l1, l2, l3, l6⟩
      · rcases pair_facts hF.out han hcn with ⟨Z, H, hZ, m1, m2, m3, m4, m5, m6⟩ | ⟨m1, m2, m3, m6⟩
        · have h3 := three hF.out han hbn hcn k6 l6 m6
          have dc := hF.out.dep_lt hcn
          have hH : H ≤ D + E := by omega
          have g9 : decide ((D : Int) + (E : Int) < (H : Int)) = false := by rw [decide_eq_false_iff_not]; omega
          have g8 : (H : Int) ≤ (D : Int) + (E : Int) := by omega
          have D9 : (D : Int) < 1000 := by omega
          have E9 : (E : Int) < 1000 := by omega
          obtain ⟨B, hB⟩ : ∃ B, B = decide (a = b) := ⟨_, rfl⟩
          have g1 : ((a : Int) == (b : Int)) = B := by rw [hB, Bool.eq_iff_iff, beq_iff_eq, decide_eq_true_eq]; omega
          have g2 : ((D : Int) == 0) = B := by rw [hB, Bool.eq_iff_iff, beq_iff_eq, decide_eq_true_eq]; rw [← k5]; omega
          have g3 : (B != B) = false := by simp
          have g4 : ((D : Int) != (D : Int)) = false := by simp
          have KK := hide (And.intro k1 (And.intro k2 (And.intro k3 (And.intro l1 (And.intro l2 (And.intro m1 (And.intro m2 (And.intro e1 (And.intro e2 e3)))))))))
          generalize dep n p a = u at *
          generalize dep n p b = v at *
          generalize dep n p X = s at *
          have u9 : (u : Int) < 300 := by omega
          have v9 : (v : Int) < 300 := by omega
          have s9 : (s : Int) < 300 := by omega
          obtain ⟨h3, _⟩ := h3
          clear k1 k2 k3 k5 k6 l1 l2 l3 l4 l5 l6 m1 m2 m3 m4 m5 m6 e1 e2 e3 hB da db dx dc hH han hbn hcn hX hY hZ hn
          have cases3 : ((X : Int) != (Y : Int)) = false ∨ ((((X : Int) != (Y : Int)) = true) ∧ ((Y : Int) != (Z : Int)) = false) ∨ (((X : Int) != (Y : Int)) = true ∧ ((Y : Int) != (Z : Int)) = true ∧ ((X : Int) != (Z : Int)) = false) := by
            by_cases q1 : X = Y
            · left; subst q1; simp
            · right
              have q1' : ((X : Int) != (Y : Int)) = true := by rw [bne_iff_ne]; omega
              by_cases q2 : Y = Z
              · left; subst q2; exact ⟨q1', by simp⟩
              · right
                have q2' : ((Y : Int) != (Z : Int)) = true := by rw [bne_iff_ne]; omega
                have q3 : X = Z := by omega
                subst q3
                exact ⟨q1', q2', by simp⟩
          clear h3
          rcases cases3 with c1 | ⟨c1, c2⟩ | ⟨c1, c2, c3⟩
          all_goals
            go_wp2_with (first
              | (go_at_call 13; refine (hO.depth _).mono ?_; rintro e w2 ⟨he, rfl⟩; (first | rw [KK.out.2.2.2.2.2.2.2.1] at he | rw [KK.out.2.2.2.2.2.2.2.2.1] at he | rw [KK.out.2.2.2.2.2.2.2.2.2] at he); subst he)
              | (go_at_call 17; refine (hO.common _ _).mono ?_; clear hO; rintro e w2 ⟨he, hO⟩; (first | rw [KK.out.1] at he | rw [KK.out.2.2.2.1] at he | rw [KK.out.2.2.2.2.2.1] at he); subst he)
              | (go_at_call 18; refine (hO.dist _ _).mono ?_; clear hO; rintro e w2 ⟨he, hO⟩; (first | rw [KK.out.2.1] at he | rw [KK.out.2.2.1] at he | rw [KK.out.2.2.2.2.1] at he | rw [KK.out.2.2.2.2.2.2.1] at he); subst he)
              | (go_at_call 14; refine (works_at hO.tz).mono ?_; rintro e w3 ⟨rfl, hf⟩))
            go_ret
            exact ⟨rfl, hO.fr.trans hf⟩
        · have h1 := (cmn_isSome hF.out han hbn).1 (by rw [k6]; rfl)
          have h2 := (cmn_isSome hF.out hbn hcn).1 (by rw [l6]; rfl)
          have h3 := (cmn_isSome hF.out han hcn).2 (h1.trans h2)
          rw [m6] at h3
          cases h3
      · obtain ⟨Z, H, T, m1, m2⟩ := pair_any (n := n) (p := p) (a : Int) (c' : Int)
        obtain ⟨B, hB⟩ : ∃ B, B = decide (a = b) := ⟨_, rfl⟩
        have g1 : ((a : Int) == (b : Int)) = B := by rw [hB, Bool.eq_iff_iff, beq_iff_eq, decide_eq_true_eq]; omega
        have g2 : ((D : Int) == 0) = B := by rw [hB, Bool.eq_iff_iff, beq_iff_eq, decide_eq_true_eq]; rw [← k5]; omega
        have g3 : (B != B) = false := by simp
        have g4 : ((D : Int) != (D : Int)) = false := by simp
        have g5 : (T != T) = false := by simp
        have KK := hide (And.intro k1 (And.intro k2 (And.intro k3 (And.intro l1 (And.intro l2 (And.intro m1 (And.intro m2 (And.intro e1 (And.intro e2 e3)))))))))
        generalize dep n p a = u at *
        generalize dep n p b = v at *
        generalize dep n p X = s at *
        have u9 : (u : Int) < 300 := by omega
        have v9 : (v : Int) < 300 := by omega
        have s9 : (s : Int) < 300 := by omega
        clear k1 k2 k3 k5 k6 l1 l2 l3 l6 m1 m2 e1 e2 e3 hB da db dx han hbn hcn hX hn
        go_wp2_with (first
          | (go_at_call 13; refine (hO.depth _).mono ?_; rintro e w2 ⟨he, rfl⟩; (first | rw [KK.out.2.2.2.2.2.2.2.1] at he | rw [KK.out.2.2.2.2.2.2.2.2.1] at he | rw [KK.out.2.2.2.2.2.2.2.2.2] at he); subst he)
          | (go_at_call 17; refine (hO.common _ _).mono ?_; clear hO; rintro e w2 ⟨he, hO⟩; (first | rw [KK.out.1] at he | rw [KK.out.2.2.2.1] at he | rw [KK.out.2.2.2.2.2.1] at he); subst he)
          | (go_at_call 18; refine (hO.dist _ _).mono ?_; clear hO; rintro e w2 ⟨he, hO⟩; (first | rw [KK.out.2.1] at he | rw [KK.out.2.2.1] at he | rw [KK.out.2.2.2.2.1] at he | rw [KK.out.2.2.2.2.2.2.1] at he); subst he)
          | (go_at_call 14; refine (works_at hO.tz).mono ?_; rintro e w3 ⟨rfl, hf⟩))
        go_ret
        exact ⟨rfl, hO.fr.trans hf⟩
    · obtain ⟨Y, E, T1, l1, l2⟩ := pair_any (n := n) (p := p) (b : Int) (c' : Int)
      obtain ⟨Z, H, T, m1, m2⟩ := pair_any (n := n) (p := p) (a : Int) (c' : Int)
      have g5 : (T != T) = false := by simp
      have g6 : (T1 != T1) = false := by simp
      have KK := hide (And.intro k1 (And.intro k2 (And.intro k3 (And.intro l1 (And.intro l2 (And.intro m1 m2))))))
      clear k1 k2 k3 k6 l1 l2 m1 m2 han hbn hcn hn
      go_wp2_with (first
        | (go_at_call 17; refine (hO.common _ _).mono ?_; clear hO; rintro e w2 ⟨he, hO⟩; (first | rw [KK.out.1] at he | rw [KK.out.2.2.2.1] at he | rw [KK.out.2.2.2.2.2.1] at he); subst he)
        | (go_at_call 18; refine (hO.dist _ _).mono ?_; clear hO; rintro e w2 ⟨he, hO⟩; (first | rw [KK.out.2.1] at he | rw [KK.out.2.2.1] at he | rw [KK.out.2.2.2.2.1] at he | rw [KK.out.2.2.2.2.2.2] at he); subst he)
        | (go_at_call 14; refine (works_at hO.tz).mono ?_; rintro e w3 ⟨rfl, hf⟩))
      go_ret
      exact ⟨rfl, hO.fr.trans hf⟩

end Go.Proofs.YthpghcidocjanaaDoor

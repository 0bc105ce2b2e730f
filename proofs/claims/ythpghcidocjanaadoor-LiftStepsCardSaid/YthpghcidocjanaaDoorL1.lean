/- The law LiftSteps, walked. -/
import Derived.Test.YthpghcidocjanaaDoorT20
import Derived.BigGuardPart
namespace Go.Proofs.YthpghcidocjanaaDoor
open Go.RowKit

section
variable {n : Nat} {p : Nat → Int}

theorem upR_some {v k u : Nat} (hv : v < n) (hk : k ≤ dep n p v) (hu : anc p k v = (u : Nat)) : ret2 (upR n p v k) = retIB (u : Nat) true := by
  have : upR n p v k = some (u : Int) := by
    unfold upR
    rw [if_pos (by simp; omega)]
    simp [hu]
  rw [this]
  rfl

theorem upR_none {v k : Nat} (hk : dep n p v < k) : ret2 (upR n p v k) = retIB 0 false := by
  have : upR n p v k = none := by
    unfold upR
    rw [if_neg (by simp; omega)]
  rw [this]
  rfl

theorem rootR_some {v u : Nat} (hv : v < n) (hu : anc p (dep n p v) v = (u : Nat)) : ret2 (rootR n p v) = retIB (u : Nat) true := by
  have : rootR n p v = some (u : Int) := by
    unfold rootR
    rw [if_pos (by omega)]
    simp [hu]
  rw [this]
  rfl

theorem depR_in {v : Nat} (hv : v < n) : depR n p v = (dep n p v : Nat) := by
  unfold depR
  rw [if_pos (by omega)]
  simp

/-- One step up. -/
theorem step_one (hF : Forest n p) {v : Nat} (hv : v < n) :
    (∃ u : Nat, p v = (u : Nat) ∧ u < n ∧ 1 ≤ dep n p v ∧ ret2 (upR n p v 1) = retIB (u : Nat) true ∧ depR n p u = (dep n p v : Int) - 1) ∨ (p v = -1 ∧ ret2 (upR n p v 1) = retIB 0 false) := by
  by_cases h : 0 ≤ p v
  · obtain ⟨u, hu, hun, hd⟩ := hF.dep_up hv h
    exact .inl ⟨u, hu, hun, by omega, upR_some (k := 1) hv (by omega) (by rw [anc_one]; exact hu), by rw [depR_in hun]; omega⟩
  · have h1 := (hF.par v hv).1
    have hd : dep n p v < 1 := by
      by_cases hd : dep n p v < 1
      · exact hd
      · have := (hF.anc_iff hv 1).2 (by omega)
        rw [anc_one] at this
        omega
    exact .inr ⟨by omega, upR_none (k := 1) hd⟩

/-- Up by x, then by y. -/
theorem step_two (hF : Forest n p) {v : Nat} (hv : v < n) (x y : Nat) :
    (x ≤ dep n p v ∧ ∃ a : Nat, ret2 (upR n p v x) = retIB (a : Nat) true ∧ ∃ (c : Int) (t : Bool), ret2 (upR n p a y) = retIB c t ∧ ret2 (upR n p v ((x : Int) + (y : Int))) = retIB c t) ∨
    (dep n p v < x ∧ ret2 (upR n p v x) = retIB 0 false ∧ ∃ (c : Int) (t : Bool), ret2 (upR n p v ((x : Int) + (y : Int))) = retIB c t) := by
  by_cases h : x ≤ dep n p v
  · left
    obtain ⟨a, ha, han, had⟩ := hF.anc_dep hv h
    refine ⟨h, a, upR_some hv h ha, _, _, rfl, ?_⟩
    by_cases h2 : x + y ≤ dep n p v
    · obtain ⟨c, hc, hcn, _⟩ := hF.anc_dep hv h2
      have e : anc p y a = (c : Nat) := by
        have := anc_add hF.par hv x y
        rw [if_neg (by omega), ha, hc] at this
        simpa using this.symm
      have h3 := upR_some (n := n) han (show y ≤ dep n p a by omega) e
      have h4 := upR_some (n := n) hv h2 hc
      rw [show ((x + y : Nat) : Int) = (x : Int) + y by omega] at h4
      exact h4.trans h3.symm
    · have h3 := upR_none (n := n) (p := p) (v := a) (k := y) (by omega)
      have h4 := upR_none (n := n) (p := p) (v := v) (k := x + y) (by omega)
      rw [show ((x + y : Nat) : Int) = (x : Int) + y by omega] at h4
      exact h4.trans h3.symm
  · exact .inr ⟨by omega, upR_none (by omega), _, _, rfl⟩
end

set_option maxHeartbeats 4000000 in
set_option maxRecDepth 2000000 in
theorem LiftSteps_any {w : World} {ao : Option Addr} {m c : Nat} {l : Nat → Nat} (hl : ByAt w ao m l) (hmc : m ≤ c) (hm : c ≤ 9223372036854775807) (ht : TzTab w) (t : Bool) (x j k : Nat) (hx : x < 65536) (hj : j < 65536) (hk : k < 65536) :
    Calls Tryd.prog 3 #[.slice ao m c, .bool t, .int .u16 x, .int .u16 j, .int .u16 k] w fun e w' => e = .returned (.bool true) ∧ Same' w w' := by
  have C := hide (made_at hl hmc hm ht t)
  clear hl ht hmc hm
  go_enter Tryd.func3, Tryd.ntmps3
  go_wp2_with fail
  refine C.out.mono ?_
  clear C
  rintro e w1 ⟨b, n, po, pc, p, rfl, hn, hO⟩
  have hF := hide hO.F
  by_cases h0 : n = 0
  · subst h0
    have hd : depR 0 p 0 = 0 := by unfold depR; rw [if_neg (by omega)]
    have C0 := hO.depth 0
    rw [hd] at C0
    have C0 := hide C0
    have C14 := hide (works_at hO.tz)
    have HO := hide hO.fr
    clear hO hd
    go_wp2_with (first | (go_at_call 13; refine C0.out.mono ?_; clear C0; rintro e w' ⟨rfl, rfl⟩) | (go_at_call 14; refine C14.out.mono ?_; clear C14; rintro e w' ⟨rfl, hf⟩))
    go_ret
    exact ⟨rfl, HO.out.trans hf⟩
  · have hn0 : 0 < n := by omega
    obtain ⟨v, hv⟩ : ∃ v : Nat, (x : Int) % (n : Int) = (v : Nat) := ⟨x % n, (Int.natCast_emod x n).symm⟩
    have hvn : v < n := by
      have := Int.emod_lt_of_pos (x : Int) (show (0 : Int) < n by omega)
      omega
    obtain ⟨D, hD⟩ : ∃ D, dep n p v = D := ⟨_, rfl⟩
    have hDn := hF.out.dep_lt hvn
    obtain ⟨X, hX⟩ : ∃ X : Nat, (j : Int) % ((D : Int) + 2) = (X : Nat) := ⟨j % (D + 2), (Int.natCast_emod j (D + 2)).symm⟩
    obtain ⟨Y, hY⟩ : ∃ Y : Nat, (k : Int) % ((D : Int) + 2) = (Y : Nat) := ⟨k % (D + 2), (Int.natCast_emod k (D + 2)).symm⟩
    have hXD : (X : Int) < (D : Int) + 2 := by rw [← hX]; exact Int.emod_lt_of_pos _ (by omega)
    have hYD : (Y : Int) < (D : Int) + 2 := by rw [← hY]; exact Int.emod_lt_of_pos _ (by omega)
    obtain ⟨r, hr, hrn, hpr⟩ := hF.out.root hvn
    have Kd := depR_in (p := p) hvn
    have Kr := rootR_some hvn hr
    have KD := upR_some (n := n) (p := p) (k := D) (u := r) hvn (Nat.le_of_eq hD.symm) (by rw [← hD]; exact hr)
    have KD1 := upR_none (n := n) (p := p) (v := v) (k := D + 1) (by omega)
    rw [show ((D + 1 : Nat) : Int) = (D : Int) + 1 by omega] at KD1
    have K0 : ret2 (upR n p (v : Int) 0) = retIB (v : Nat) true := upR_some (k := 0) hvn (by omega) (anc_zero (p := p) v)
    have K1 := step_one hF.out hvn
    have K2 := step_two hF.out hvn X Y
    rw [hD] at hDn Kd K1 K2
    obtain ⟨ad, rfl, _⟩ := hO.key v hvn
    have HK : Hid (∀ W', On w b n (some ad) p W' → W'.cell? (ad.add r) = some (.int .i64 (-1)) ∧ W'.cell? (ad.add v) = some (.int .i64 (p v))) := by
      intro W' h'
      obtain ⟨a1, e1, c1⟩ := h'.key r hrn
      obtain ⟨a2, e2, c2⟩ := h'.key v hvn
      cases e1
      cases e2
      rw [hpr] at c1
      exact ⟨c1, c2⟩
    have g1 : ((v : Int) != (v : Int)) = false := by simp
    have g2 : ((r : Int) != (r : Int)) = false := by simp
    have g3 : decide ((r : Int) < 0) = false := by simp
    have g4 : decide (n ≤ r) = false := by simp; omega
    have g0 : ((n : Int) == 0) = false := by rw [beq_eq_false_iff_ne]; omega
    have hx2 : (x : Int) < 65536 := by omega
    have hrn' : (r : Int) < n := by omega
    have hn0' : (0 : Int) < n := by omega
    have hv0 : (v : Int) < n := by omega
    have hD2 : (D : Int) < 300 := by omega
    have HX := hide (And.intro hX (And.intro hY (And.intro hXD (And.intro hYD (And.intro hj (And.intro hk K2))))))
    have KK := hide (And.intro Kd (And.intro Kr (And.intro KD (And.intro KD1 (And.intro K0 HK)))))
    clear hpr hr hD hx hj hk hX hY hXD hYD hF h0 hrn hn0 hvn hDn hn Kd Kr KD KD1 K0 K2 HK
    rcases K1 with ⟨u, hu, hun, h1D, K1, Kdu⟩ | ⟨hu, K1⟩
    · have g5 : ((u : Int) != (u : Int)) = false := by simp
      have g6 : decide (0 ≤ (u : Int)) = true := by simp
      have g7 : (((D : Int) - 1) != ((D : Int) - 1)) = false := by simp
      have h1 : 1 ≤ (D : Int) := by omega
      have KL := hide (And.intro K1 (And.intro hu Kdu))
      clear hu hun h1D K1 Kdu
      go_wp2_with (first
        | (go_at_call 13; refine (hO.depth _).mono ?_; rintro e w2 ⟨he, rfl⟩; (first | rw [KK.out.1] at he | rw [KL.out.2.2] at he); subst he)
        | (go_at_call 15; refine (hO.root _).mono ?_; clear hO; rintro e w2 ⟨he, hO⟩; rw [KK.out.2.1] at he; subst he)
        | (go_at_call 16; refine (hO.up _ _).mono ?_; clear hO; rintro e w2 ⟨he, hO⟩; (first | rw [KK.out.2.2.1] at he | rw [KK.out.2.2.2.1] at he | (rw [KK.out.2.2.2.2.1] at he; have hcr := (KK.out.2.2.2.2.2.out _ hO).1) | rw [KL.out.1] at he; have hcv := (KK.out.2.2.2.2.2.out _ hO).2; rw [KL.out.2.1] at hcv); subst he))
      obtain ⟨hX, hY, hXD, hYD, hj, hk, K2⟩ := HX.out
      have j3 : IntKind.i64.wrap (j : Int) = j := by rw [IntKind.wrap_i64]; omega
      have k3 : IntKind.i64.wrap (k : Int) = k := by rw [IntKind.wrap_i64]; omega
      have d3 : IntKind.i64.wrap ((D : Int) + 2) = (D : Int) + 2 := by rw [IntKind.wrap_i64]; omega
      have x3 : (j : Int).tmod ((D : Int) + 2) = X := by rw [Int.tmod_eq_emod_of_nonneg (by omega)]; exact hX
      have y3 : (k : Int).tmod ((D : Int) + 2) = Y := by rw [Int.tmod_eq_emod_of_nonneg (by omega)]; exact hY
      have K2 := hide K2
      clear hX hY hj hk HX
      go_quiet (fail)
      clear j3 k3 d3 x3 y3
      have hO := hO.step ((Fr.refl _ _).drewN nq)
      rcases K2.out with ⟨hle, a, KX, c', t', KY, KXY⟩ | ⟨hgt, KX, c', t', KXY⟩
      · have e1 : decide (X ≤ D) = true := by simp; omega
        have KX := hide (And.intro KX (And.intro KY KXY))
        clear hle KY KXY KK KL K2
        go_wp2_with (first
          | (go_at_call 16; refine (hO.up _ _).mono ?_; clear hO; rintro e w2 ⟨he, hO⟩; (first | rw [KX.out.1] at he | rw [KX.out.2.2] at he | rw [KX.out.2.1] at he); subst he)
          | (go_at_call 14; refine (works_at hO.tz).mono ?_; rintro e w3 ⟨rfl, hf⟩))
        go_ret
        exact ⟨rfl, hO.fr.trans hf⟩
      · have e1 : decide (X ≤ D) = false := by simp; omega
        have KX := hide (And.intro KX KXY)
        clear hgt KXY KK KL K2
        go_wp2_with (first
          | (go_at_call 16; refine (hO.up _ _).mono ?_; clear hO; rintro e w2 ⟨he, hO⟩; (first | rw [KX.out.1] at he | rw [KX.out.2] at he); subst he)
          | (go_at_call 14; refine (works_at hO.tz).mono ?_; rintro e w3 ⟨rfl, hf⟩))
        go_ret
        exact ⟨rfl, hO.fr.trans hf⟩
    · have KL := hide (And.intro K1 (And.intro hu trivial))
      clear hu K1
      go_wp2_with (first
        | (go_at_call 13; refine (hO.depth _).mono ?_; rintro e w2 ⟨he, rfl⟩; (first | rw [KK.out.1] at he | rw [KL.out.2.2] at he); subst he)
        | (go_at_call 15; refine (hO.root _).mono ?_; clear hO; rintro e w2 ⟨he, hO⟩; rw [KK.out.2.1] at he; subst he)
        | (go_at_call 16; refine (hO.up _ _).mono ?_; clear hO; rintro e w2 ⟨he, hO⟩; (first | rw [KK.out.2.2.1] at he | rw [KK.out.2.2.2.1] at he | (rw [KK.out.2.2.2.2.1] at he; have hcr := (KK.out.2.2.2.2.2.out _ hO).1) | rw [KL.out.1] at he; have hcv := (KK.out.2.2.2.2.2.out _ hO).2; rw [KL.out.2.1] at hcv); subst he))
      obtain ⟨hX, hY, hXD, hYD, hj, hk, K2⟩ := HX.out
      have j3 : IntKind.i64.wrap (j : Int) = j := by rw [IntKind.wrap_i64]; omega
      have k3 : IntKind.i64.wrap (k : Int) = k := by rw [IntKind.wrap_i64]; omega
      have d3 : IntKind.i64.wrap ((D : Int) + 2) = (D : Int) + 2 := by rw [IntKind.wrap_i64]; omega
      have x3 : (j : Int).tmod ((D : Int) + 2) = X := by rw [Int.tmod_eq_emod_of_nonneg (by omega)]; exact hX
      have y3 : (k : Int).tmod ((D : Int) + 2) = Y := by rw [Int.tmod_eq_emod_of_nonneg (by omega)]; exact hY
      have K2 := hide K2
      clear hX hY hj hk HX
      go_quiet (fail)
      clear j3 k3 d3 x3 y3
      have hO := hO.step ((Fr.refl _ _).drewN nq)
      rcases K2.out with ⟨hle, a, KX, c', t', KY, KXY⟩ | ⟨hgt, KX, c', t', KXY⟩
      · have e1 : decide (X ≤ D) = true := by simp; omega
        have KX := hide (And.intro KX (And.intro KY KXY))
        clear hle KY KXY KK KL K2
        go_wp2_with (first
          | (go_at_call 16; refine (hO.up _ _).mono ?_; clear hO; rintro e w2 ⟨he, hO⟩; (first | rw [KX.out.1] at he | rw [KX.out.2.2] at he | rw [KX.out.2.1] at he); subst he)
          | (go_at_call 14; refine (works_at hO.tz).mono ?_; rintro e w3 ⟨rfl, hf⟩))
        go_ret
        exact ⟨rfl, hO.fr.trans hf⟩
      · have e1 : decide (X ≤ D) = false := by simp; omega
        have KX := hide (And.intro KX KXY)
        clear hgt KXY KK KL K2
        go_wp2_with (first
          | (go_at_call 16; refine (hO.up _ _).mono ?_; clear hO; rintro e w2 ⟨he, hO⟩; (first | rw [KX.out.1] at he | rw [KX.out.2] at he); subst he)
          | (go_at_call 14; refine (works_at hO.tz).mono ?_; rintro e w3 ⟨rfl, hf⟩))
        go_ret
        exact ⟨rfl, hO.fr.trans hf⟩

end Go.Proofs.YthpghcidocjanaaDoor

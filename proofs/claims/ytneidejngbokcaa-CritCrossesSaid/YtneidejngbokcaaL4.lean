/- Walks: the law CritFirst. -/
import Derived.Test.YtneidejngbokcaaL1
import Derived.Test.YtneidejngbokcaaC9
import Derived.Test.YtneidejngbokcaaP1
namespace Go.Proofs.Ytneidejngbokcaa
open Go.RowKit

theorem sgK_zero {n : Nat} (F : Nat → Cl) {m : Nat} (G : Nat → Cl) {s : Nat} (hs1 : 1 ≤ s) (hs2 : s ≤ 1000) : sgK n F m G s 0 = sg0 n F m G := by
  unfold sgK sg0
  rw [avC_congr (p := gridW s 0) (q := 0) (by rw [grid_zero hs1 hs2, R_zero]), avC_congr (p := gridW s 0) (q := 0) (by rw [grid_zero hs1 hs2, R_zero])]

theorem CrOut.at {n : Nat} {F : Nat → Cl} {m : Nat} {G : Nat → Cl} {s r j : Nat} {bo : Bool} (h : CrOut n F m G s r bo) (hj : j ≤ s) (hall : ∀ i, i < j → sgK n F m G s i = sg0 n F m G) (hne : sgK n F m G s j ≠ sg0 n F m G) : r = gridW s j ∧ bo = true := by
  rcases h with ⟨hb, k, hk, hr, hk2, hall2⟩ | ⟨hb, hr, hall2⟩
  · have e : k = j := by
      rcases Nat.lt_trichotomy k j with h | h | h
      · exact absurd (hall k h) hk2
      · exact h
      · exact absurd (hall2 j h) hne
    subst e
    exact ⟨hr, hb⟩
  · exact absurd (hall2 j hj) hne

theorem CrOut.none {n : Nat} {F : Nat → Cl} {m : Nat} {G : Nat → Cl} {s r : Nat} {bo : Bool} (h : CrOut n F m G s r bo) (hall : ∀ i, i < s + 1 → sgK n F m G s i = sg0 n F m G) : r = 0 ∧ bo = false := by
  rcases h with ⟨hb, k, hk, hr, hk2, hall2⟩ | ⟨hb, hr, hall2⟩
  · exact absurd (hall k (by omega)) hk2
  · exact ⟨hr, hb⟩

set_option maxHeartbeats 1000000 in
theorem sign25_at (w : World) (x y : Nat) : Calls Try.prog 25 #[.float .f64 x, .float .f64 y] w fun e w' => e = .returned (.int .i64 (sgC (cls x) (cls y))) ∧ w = w' := by
  have hs : sgC (cls x) (cls y) = if ordr x y = some .lt then -1 else if ordr x y = some .gt then 1 else 0 := by unfold sgC; rw [ordC_cls]
  have HS := hide hs
  clear hs
  rcases ho : FloatKind.f64.format.order x y with _ | _ | _ | _
  all_goals
    have HO : Hid (ordr x y = _) := hide ho
    go_enter Try.func25, Try.ntmps25
    go_wp2_with fail
    go_ret
    refine ⟨ret_int ?_, rfl⟩
    rw [HS.out, HO.out]; rfl

set_option maxRecDepth 100000 in
set_option maxHeartbeats 2000000 in
theorem CritFirst_at (w : World) (ao zo : Option Addr) (n c m d : Nat) (f g : Nat → Nat) (hn : n ≤ maxLen) (hm : m ≤ maxLen) (h : FlAt w ao n f) (h2 : FlAt w zo m g) (z : Nat) (hz : z < 256) :
    Calls Try.prog 10 #[.slice ao n c, .slice zo m d, .int .u8 z] w fun e w' => e = .returned (.bool true) ∧ Same' w w' := by
  unfold maxLen at hn hm
  have W := hide works_at
  obtain ⟨s, hs⟩ : ∃ s : Nat, s = z % 40 + 1 := ⟨_, rfl⟩
  have hs1 : 1 ≤ s := by omega
  have hs2 : s ≤ 1000 := by omega
  have hse : (z : Int) % 40 + 1 = (s : Int) := by omega
  have HSS := hide hs
  clear hs
  have HL := hide h
  have HL2 := hide h2
  cases hb : (valB n f && valB m g) with
  | false =>
    have C1 := hide (Cross15_err (s := (s : Int)) c d h h2 (.inl hb))
    clear h h2 hb
    go_enter Try.func10, Try.ntmps10
    go_wp2_with (first
      | (go_at_call 15; refine C1.out.mono ?_; clear C1; rintro e w1 ⟨rfl, hf1⟩)
      | (go_at_call 14; refine (W.out _).mono ?_; rintro e w3 ⟨rfl, hf3⟩))
    go_ret
    exact ⟨rfl, hf1.trans hf3⟩
  | true =>
    rw [Bool.and_eq_true] at hb
    obtain ⟨hv, hu⟩ := hb
    have C1 := hide (Cross15_ok c d h h2 hv hu hs1 hs2)
    by_cases h60 : 60 < n ∨ 60 < m
    · have hd : decide ((60 : Int) < n) = true ∨ (decide ((60 : Int) < n) = false ∧ decide ((60 : Int) < m) = true) := by simp; omega
      clear h h2 hv hu h60
      rcases hd with d1 | ⟨d1, d2⟩
      all_goals
        go_enter Try.func10, Try.ntmps10
        go_wp2_with (first
          | (go_at_call 15; refine C1.out.mono ?_; clear C1; rintro e w1 ⟨p, bo, rfl, hcr, hf1⟩; clear hcr)
          | (go_at_call 14; refine (W.out _).mono ?_; rintro e w3 ⟨rfl, hf3⟩))
        go_ret
        exact ⟨rfl, hf1.trans hf3⟩
    have d1 : decide ((60 : Int) < n) = false := by simp; omega
    have d2 : decide ((60 : Int) < m) = false := by simp; omega
    have HV := hide hv
    have HU := hide hu
    have C4 := fun W => hide (Grid21_ok W hs1 hs2)
    clear h h2 hv hu h60
    go_enter Try.func10, Try.ntmps10
    go_wp2_with fail
    refine C1.out.mono ?_
    clear C1
    rintro e w1 ⟨p, bo, rfl, hcr, hf1⟩
    have HCR := hide hcr
    clear hcr
    go_wp2_with fail
    refine (C4 _).out.mono ?_
    clear C4
    rintro e w3 ⟨go, gc, rfl, hG⟩
    have HG := hide hG.fl
    have HF := hide (hf1.trans hG.fr)
    clear hG hf1
    obtain ⟨fst, hfst⟩ : ∃ fst, fst = sg0 n (fun i => cls (f i)) m (fun i => cls (g i)) := ⟨_, rfl⟩
    have hfst0 : sgK n (fun i => cls (f i)) m (fun i => cls (g i)) s 0 = fst := by rw [hfst]; exact sgK_zero _ _ hs1 hs2
    have HFST := hide hfst
    have HF0 := hide hfst0
    clear hfst hfst0
    go_wp2_with fail
    go_loopg [13, 14] (s + 1) (fun z t i wr => ∃ (j : Nat) (v : Int), j + z = s + 1 ∧ i = .int .i64 j ∧ t = .int .i64 v ∧ (0 < j → v = fst) ∧ (∀ i, i < j → sgK n (fun i => cls (f i)) m (fun i => cls (g i)) s i = fst) ∧ Same' w3 wr)
    case atStart => exact ⟨0, 0, by omega, rfl, rfl, fun h => by omega, fun i hi => by omega, Fr.refl _ _⟩
    case round =>
      obtain ⟨j, v, hj, rfl, rfl, hv, hall, hf⟩ := hrel
      have HALL := hide hall
      have HVV := hide hv
      clear hall hv
      by_cases hlt : j < s + 1
      · have hd : decide (j < s + 1) = true := by simpa using hlt
        have hd1 : decide (j ≤ s) = true := by simp; omega
        have hd2 : decide ((j : Int) < s + 1) = true := by simp; omega
        have hi : (j : Int) < s + 1 := by omega
        obtain ⟨gd, rfl, e1⟩ := (HG.out.keep hf) j hlt
        have hpj := grid_prob hs1 hs2 (show j ≤ s by omega)
        have C5 := hide (Average24_ok c (HL.out.keep (HF.out.trans hf)) HV.out hpj)
        have C6 := fun W (hf2 : Same' wr W) => hide (Average24_ok d (HL2.out.keep ((HF.out.trans hf).trans hf2)) HU.out hpj)
        have HHJ := hide hj
        have on := ord_self (grid_rnd hs1 hs2 (show j ≤ 1000 by omega)).2.1
        have S25 := hide sign25_at
        obtain ⟨r, hr⟩ : ∃ r, r = sgK n (fun i => cls (f i)) m (fun i => cls (g i)) s j := ⟨_, rfl⟩
        have HR := hide hr
        clear hj hr hpj
        by_cases hj0 : j = 0
        · have hz0 : ((j : Int) == 0) = true := by simp [hj0]
          have hrf : r = fst := by rw [HR.out, hj0]; exact HF0.out
          have HRF := hide hrf
          have HJ0 := hide hj0
          clear hj0 hrf
          go_wp2_with fail
          refine C5.out.mono ?_
          clear C5
          rintro e w4 ⟨x, rfl, hx, hf4⟩
          have HX := hide hx
          clear hx
          have e2 := cell_same e1 hf4
          clear e1
          go_wp2_with fail
          refine (C6 _ hf4).out.mono ?_
          clear C6
          rintro e w5 ⟨y, rfl, hy, hf5⟩
          have hsg : sgC (cls x) (cls y) = r := by rw [HX.out, hy, HR.out]; rfl
          have S := hide (fun W => (S25.out W x y).mono (R' := fun e w' => e = .returned (.int .i64 r) ∧ W = w') (fun e w' h => by rw [hsg] at h; exact h))
          clear hsg hy S25
          go_wp2_with (go_at_call 25; refine (S.out _).mono ?_; rintro e w6 ⟨rfl, rfl⟩)
          go_roundg (gk - 1)
          case measure => have := HHJ.out; omega
          case rel => exact ⟨j + 1, r, by have := HHJ.out; omega, by go_num, rfl, fun _ => HRF.out, fun i hi => by (have := HJ0.out); (have e : i = 0 := by omega); subst e; exact HF0.out, (hf.trans hf4).trans hf5⟩
        · have hz0 : ((j : Int) == 0) = false := by simp [hj0]
          have hvf : v = fst := HVV.out (by omega)
          subst hvf
          have HJ0 := hide hj0
          clear hj0
          by_cases hrf : r = v
          · have hne : (r != v) = false := by simp [hrf]
            have HRF := hide hrf
            clear hrf
            go_wp2_with fail
            refine C5.out.mono ?_
            clear C5
            rintro e w4 ⟨x, rfl, hx, hf4⟩
            have HX := hide hx
            clear hx
            have e2 := cell_same e1 hf4
            clear e1
            go_wp2_with fail
            refine (C6 _ hf4).out.mono ?_
            clear C6
            rintro e w5 ⟨y, rfl, hy, hf5⟩
            have hsg : sgC (cls x) (cls y) = r := by rw [HX.out, hy, HR.out]; rfl
            have S := hide (fun W => (S25.out W x y).mono (R' := fun e w' => e = .returned (.int .i64 r) ∧ W = w') (fun e w' h => by rw [hsg] at h; exact h))
            clear hsg hy S25
            go_wp2_with (go_at_call 25; refine (S.out _).mono ?_; rintro e w6 ⟨rfl, rfl⟩)
            go_roundg (gk - 1)
            case measure => have := HHJ.out; omega
            case rel => exact ⟨j + 1, v, by have := HHJ.out; omega, by go_num, rfl, fun _ => rfl, fun i hi => by by_cases e : i = j; (· subst e; rw [← HR.out]; exact HRF.out); exact HALL.out i (by omega), (hf.trans hf4).trans hf5⟩
          · have hne : (r != v) = true := by simp [hrf]
            obtain ⟨hpe, hbe⟩ := HCR.out.at (j := j) (by omega) (fun i hi => by rw [← HFST.out]; exact HALL.out i hi) (by rw [← HFST.out, ← HR.out]; exact hrf)
            subst hpe
            subst hbe
            clear hrf
            go_wp2_with fail
            refine C5.out.mono ?_
            clear C5
            rintro e w4 ⟨x, rfl, hx, hf4⟩
            have HX := hide hx
            clear hx
            have e2 := cell_same e1 hf4
            clear e1
            go_wp2_with fail
            refine (C6 _ hf4).out.mono ?_
            clear C6
            rintro e w5 ⟨y, rfl, hy, hf5⟩
            have e3 := cell_same e2 hf5
            clear e2
            have hsg : sgC (cls x) (cls y) = r := by rw [HX.out, hy, HR.out]; rfl
            have S := hide (fun W => (S25.out W x y).mono (R' := fun e w' => e = .returned (.int .i64 r) ∧ W = w') (fun e w' h => by rw [hsg] at h; exact h))
            clear hsg hy S25
            go_wp2_with (first
              | (go_at_call 25; refine (S.out _).mono ?_; rintro e w6 ⟨rfl, rfl⟩)
              | (go_at_call 14; refine (W.out _).mono ?_; rintro e w7 ⟨rfl, hf7⟩))
            go_ret
            exact ⟨rfl, (((HF.out.trans hf).trans hf4).trans hf5).trans hf7⟩
      · have hd : decide (j < s + 1) = false := by simpa using hlt
        have hd1 : decide (j ≤ s) = false := by simp; omega
        have hd2 : decide ((j : Int) < s + 1) = false := by simp; omega
        have o0 : FloatKind.f64.format.order 0 0 = some .eq := by decide +kernel
        obtain ⟨hpe, hbe⟩ := HCR.out.none (fun i hi => by rw [← HFST.out]; exact HALL.out i (by omega))
        subst hpe
        subst hbe
        go_wp2_with (go_at_call 14; refine (W.out _).mono ?_; rintro e w4 ⟨rfl, hf4⟩)
        go_ret
        exact ⟨rfl, (HF.out.trans hf).trans hf4⟩

end Go.Proofs.Ytneidejngbokcaa

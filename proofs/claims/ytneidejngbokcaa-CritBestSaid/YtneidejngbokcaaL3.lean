/- Walks: the law CritBest. -/
import Derived.Test.YtneidejngbokcaaL1
import Derived.Test.YtneidejngbokcaaC9
import Derived.Test.YtneidejngbokcaaP1
namespace Go.Proofs.Ytneidejngbokcaa
open Go.RowKit

set_option maxRecDepth 100000 in
set_option maxHeartbeats 2000000 in
theorem CritBest_at (w : World) (ao : Option Addr) (n c : Nat) (f : Nat → Nat) (hn : n ≤ maxLen) (h : FlAt w ao n f) (z : Nat) (hz : z < 256) :
    Calls Try.prog 9 #[.slice ao n c, .int .u8 z] w fun e w' => e = .returned (.bool true) ∧ Same' w w' := by
  unfold maxLen at hn
  have W := hide works_at
  obtain ⟨s, hs⟩ : ∃ s : Nat, s = z % 40 + 1 := ⟨_, rfl⟩
  have hs1 : 1 ≤ s := by omega
  have hs2 : s ≤ 1000 := by omega
  have hse : (z : Int) % 40 + 1 = (s : Int) := by omega
  have HSS := hide hs
  clear hs
  have HL := hide h
  cases hb : valB n f with
  | false =>
    have C1 := hide (Peak23_err (s := (s : Int)) c h (.inl hb))
    clear h hb
    go_enter Try.func9, Try.ntmps9
    go_wp2_with (first
      | (go_at_call 23; refine C1.out.mono ?_; clear C1; rintro e w1 ⟨rfl, hf1⟩)
      | (go_at_call 14; refine (W.out _).mono ?_; rintro e w3 ⟨rfl, hf3⟩))
    go_ret
    exact ⟨rfl, hf1.trans hf3⟩
  | true =>
    have C1 := hide (Peak23_ok c h hb hs1 hs2)
    by_cases h60 : 60 < n
    · have d1 : decide ((60 : Int) < n) = true := by simp; omega
      clear h hb
      go_enter Try.func9, Try.ntmps9
      go_wp2_with (first
        | (go_at_call 23; refine C1.out.mono ?_; clear C1; rintro e w1 ⟨rfl, hf1⟩)
        | (go_at_call 14; refine (W.out _).mono ?_; rintro e w3 ⟨rfl, hf3⟩))
      go_ret
      exact ⟨rfl, hf1.trans hf3⟩
    have d1 : decide ((60 : Int) < n) = false := by simp; omega
    have HV := hide hb
    obtain ⟨K, hK, hP⟩ := pk_spec (n := n) (fun i => cls (f i)) hs1 hs2 (s + 1) (Nat.le_refl _)
    obtain ⟨p, hpe⟩ : ∃ p, p = (pkS n (fun i => cls (f i)) s (s + 1)).1 := ⟨_, rfl⟩
    obtain ⟨b, hbe⟩ : ∃ b, b = (pkS n (fun i => cls (f i)) s (s + 1)).2 := ⟨_, rfl⟩
    have np : isN p = false := by rw [hpe]; exact hP.nn
    have rp : R p = R (gridW s K) := by rw [hpe]; exact hP.r
    have vb : b = avC n (fun i => cls (f i)) p := by rw [avC_congr rp, hbe]; exact hP.b
    have ht : ∀ j, j < s + 1 → ordC (avC n (fun i => cls (f i)) (gridW s j)) b ≠ some .gt := by rw [hbe]; exact hP.top
    have hfi : ∀ j, j < K → ordC (avC n (fun i => cls (f i)) (gridW s j)) b ≠ some .gt ∧ ordC (avC n (fun i => cls (f i)) (gridW s j)) b ≠ some .eq := by rw [hbe]; exact hP.first
    have pp : probB p = true := probB_of np (by rw [rp]; exact grid_lo hs1 hs2 (by omega)) (by rw [rp]; exact grid_hi hs1 hs2 hK)
    rw [← hpe] at C1
    have HT := hide ht
    have HFI := hide hfi
    have HVB := hide vb
    have HRP := hide rp
    have HNP := hide np
    have C3 := fun W (hf : Same' w W) => hide (Average24_ok c (HL.out.keep hf) HV.out pp)
    have C4 := fun W => hide (Grid21_ok W hs1 hs2)
    clear hP hpe hbe ht hfi vb rp np h hb pp
    go_enter Try.func9, Try.ntmps9
    go_wp2_with fail
    refine C1.out.mono ?_
    clear C1
    rintro e w1 ⟨rfl, hf1⟩
    go_wp2_with fail
    refine (C3 _ hf1).out.mono ?_
    clear C3
    rintro e w2 ⟨a0, rfl, ha0, hf2⟩
    have HA0 := hide (ha0.trans HVB.out.symm)
    clear ha0
    go_wp2_with fail
    refine (C4 _).out.mono ?_
    clear C4
    rintro e w3 ⟨go, gc, rfl, hG⟩
    have HG := hide hG.fl
    have HF := hide ((hf1.trans hf2).trans hG.fr)
    clear hG hf1 hf2
    go_wp2_with fail
    go_loopg [12, 13] (s + 1) (fun z t i wr => ∃ j : Nat, j + z = s + 1 ∧ i = .int .i64 j ∧ t = .bool (decide (K < j)) ∧ Same' w3 wr)
    case atStart => exact ⟨0, by omega, rfl, by simp, Fr.refl _ _⟩
    case round =>
      obtain ⟨j, hj, rfl, rfl, hf⟩ := hrel
      by_cases hlt : j < s + 1
      · have hd : decide (j < s + 1) = true := by simpa using hlt
        have hd1 : decide (j ≤ s) = true := by simp; omega
        have hd2 : decide ((j : Int) < s + 1) = true := by simp; omega
        have hi : (j : Int) < s + 1 := by omega
        obtain ⟨gd, rfl, e1⟩ := (HG.out.keep hf) j hlt
        have C5 := hide (Average24_ok c (HL.out.keep (HF.out.trans hf)) HV.out (grid_prob hs1 hs2 (show j ≤ s by omega)))
        have hnj : isN (gridW s j) = false := (grid_rnd hs1 hs2 (show j ≤ 1000 by omega)).2.1
        have hoj : ordr (gridW s j) p = some (compare (R (gridW s j)) (R (gridW s K))) := by rw [ordr_nn hnj HNP.out, HRP.out]
        have HC := hide (HG.out.keep hf)
        have HHJ := hide hj
        clear hnj hj
        have hcase : (j < K) ∨ j = K ∨ K < j := by omega
        rcases hcase with hjk | hjk | hjk
        · have o1 : FloatKind.f64.format.order (gridW s j) p = some .lt := hoj.trans (by rw [cmp_lt (grid_lt hs1 hs2 hjk hK)])
          have hfd : decide (K < j) = false := by simp; omega
          have HR : Hid (decide (K < j + 1) = false) := by show decide (K < j + 1) = false; simp; omega
          have HJ := hide hjk
          clear hoj
          go_wp2_with (go_at_call 24; refine C5.out.mono ?_; clear C5; rintro e w4 ⟨a, rfl, ha, hf4⟩; (have g1 : (FloatKind.f64.format.order a a0 == some Ordering.gt) = false := beq_eq_false_iff_ne.2 (by have h := (HFI.out j HJ.out).1; rwa [← ha, ← HA0.out, ordC_cls] at h)); (have g2 : (FloatKind.f64.format.order a a0 == some Ordering.eq) = false := beq_eq_false_iff_ne.2 (by have h := (HFI.out j HJ.out).2; rwa [← ha, ← HA0.out, ordC_cls] at h)); (have e2 := cell_same e1 hf4); clear e1 ha)
          go_roundg (gk - 1)
          case measure => have := HHJ.out; omega
          case rel => exact ⟨j + 1, by have := HHJ.out; omega, by go_num, by rw [HR.out], hf.trans hf4⟩
        · have o1 : FloatKind.f64.format.order (gridW s j) p = some .eq := hoj.trans (by rw [cmp_eq (by rw [hjk])])
          have hfd : decide (K < j) = false := by simp; omega
          have HR : Hid (decide (K < j + 1) = true) := by show decide (K < j + 1) = true; simp; omega
          clear hoj hjk
          go_wp2_with (go_at_call 24; refine C5.out.mono ?_; clear C5; rintro e w4 ⟨a, rfl, ha, hf4⟩; (have g1 : (FloatKind.f64.format.order a a0 == some Ordering.gt) = false := beq_eq_false_iff_ne.2 (by have h := HT.out j hlt; rwa [← ha, ← HA0.out, ordC_cls] at h)); (have e2 := cell_same e1 hf4); clear e1 ha)
          go_roundg (gk - 1)
          case measure => have := HHJ.out; omega
          case rel => exact ⟨j + 1, by have := HHJ.out; omega, by go_num, by rw [HR.out], hf.trans hf4⟩
        · have o1 : FloatKind.f64.format.order (gridW s j) p = some .gt := hoj.trans (by rw [cmp_gt (grid_lt hs1 hs2 hjk (by omega))])
          have hfd : decide (K < j) = true := by simp; omega
          have HR : Hid (decide (K < j + 1) = true) := by show decide (K < j + 1) = true; simp; omega
          clear hoj hjk
          go_wp2_with (go_at_call 24; refine C5.out.mono ?_; clear C5; rintro e w4 ⟨a, rfl, ha, hf4⟩; (have g1 : (FloatKind.f64.format.order a a0 == some Ordering.gt) = false := beq_eq_false_iff_ne.2 (by have h := HT.out j hlt; rwa [← ha, ← HA0.out, ordC_cls] at h)); (have e2 := cell_same e1 hf4); clear e1 ha)
          go_roundg (gk - 1)
          case measure => have := HHJ.out; omega
          case rel => exact ⟨j + 1, by have := HHJ.out; omega, by go_num, by rw [HR.out], hf.trans hf4⟩
      · have hd : decide (j < s + 1) = false := by simpa using hlt
        have hd1 : decide (j ≤ s) = false := by simp; omega
        have hd2 : decide ((j : Int) < s + 1) = false := by simp; omega
        have hfd : decide (K < j) = true := by simp; omega
        go_wp2_with (go_at_call 14; refine (W.out _).mono ?_; rintro e w4 ⟨rfl, hf4⟩)
        go_ret
        exact ⟨rfl, (HF.out.trans hf).trans hf4⟩

end Go.Proofs.Ytneidejngbokcaa

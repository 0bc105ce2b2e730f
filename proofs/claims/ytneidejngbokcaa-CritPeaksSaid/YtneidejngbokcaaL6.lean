/- Walks: the law CritPeaks. -/
import Derived.Test.YtneidejngbokcaaE4
namespace Go.Proofs.Ytneidejngbokcaa
open Go.RowKit

theorem rpK_lt (n : Nat) (F : Nat → Cl) (s : Nat) : rpK n F s (s + 1) ≤ s := by
  have h2 := rpK_le n F s s
  show (if _ then s else rpK n F s s) ≤ s
  split <;> omega

set_option maxRecDepth 100000 in
set_option maxHeartbeats 2000000 in
theorem CritPeaks_at (w : World) (ao : Option Addr) (n c : Nat) (f : Nat → Nat) (hn : n ≤ maxLen) (h : FlAt w ao n f) (s : Int) :
    Calls Try.prog 13 #[.slice ao n c, .int .i64 s] w fun e w' => e = .returned (.bool true) ∧ Same' w w' := by
  unfold maxLen at hn
  have W := hide works_at
  by_cases h60 : 60 < n
  · have d1 : decide ((60 : Int) < n) = true := by simp; omega
    clear h
    go_enter Try.func13, Try.ntmps13
    go_wp2_with (go_at_call 14; refine (W.out _).mono ?_; rintro e w3 ⟨rfl, hf3⟩)
    go_ret
    exact ⟨rfl, hf3⟩
  have d1 : decide ((60 : Int) < n) = false := by simp; omega
  by_cases hmid : 40 < s ∧ s ≤ 1000
  · obtain ⟨k, rfl⟩ : ∃ k : Nat, s = k := ⟨s.toNat, by omega⟩
    have d2 : decide ((40 : Int) < k) = true := by simp; omega
    have d3 : decide ((k : Int) ≤ 1000) = true := by simp; omega
    have d4 : decide (k ≤ 1000) = true := by simp; omega
    cases hb : valB n f with
    | true =>
      have C1 := hide (Peak23_ok (s := k) c h hb (by omega) (by omega))
      have C2 := hide (fun W (hw : Same' w W) => Peak26_ok (s := 1) c (h.keep hw) hb (by omega) (by omega))
      obtain ⟨p, hp⟩ : ∃ p, p = (pkS n (fun i => cls (f i)) k (k + 1)).1 := ⟨_, rfl⟩
      obtain ⟨q, hq⟩ : ∃ q, q = gridW 1 (rpK n (fun i => cls (f i)) 1 (1 + 1)) := ⟨_, rfl⟩
      rw [← hp] at C1
      rw [← hq] at C2
      clear h hb hp hq hmid
      go_enter Try.func13, Try.ntmps13
      go_wp2_with fail
      refine C1.out.mono ?_
      clear C1
      rintro e w1 ⟨rfl, hf1⟩
      go_wp2_with fail
      refine (C2.out _ hf1).mono ?_
      clear C2
      rintro e w2 ⟨rfl, hf2⟩
      go_wp2_with (go_at_call 14; refine (W.out _).mono ?_; rintro e w3 ⟨rfl, hf3⟩)
      go_ret
      exact ⟨rfl, (hf1.trans hf2).trans hf3⟩
    | false =>
      have C1 := hide (Peak23_err (s := (k : Int)) c h (.inl hb))
      have C2 := hide (fun W (hw : Same' w W) => Peak26_err (s := 1) c (h.keep hw) (.inl hb))
      clear h hb hmid
      go_enter Try.func13, Try.ntmps13
      go_wp2_with fail
      refine C1.out.mono ?_
      clear C1
      rintro e w1 ⟨rfl, hf1⟩
      go_wp2_with fail
      refine (C2.out _ hf1).mono ?_
      clear C2
      rintro e w2 ⟨rfl, hf2⟩
      go_wp2_with (go_at_call 14; refine (W.out _).mono ?_; rintro e w3 ⟨rfl, hf3⟩)
      go_ret
      exact ⟨rfl, (hf1.trans hf2).trans hf3⟩
  have hd : decide ((40 : Int) < s) = false ∨ (decide ((40 : Int) < s) = true ∧ decide (s ≤ 1000) = false) := by
    simp; omega
  by_cases hok : valB n f = true ∧ 1 ≤ s ∧ s ≤ 1000
  · obtain ⟨hb, hs1, hs2⟩ := hok
    obtain ⟨k, rfl⟩ : ∃ k : Nat, s = k := ⟨s.toNat, by omega⟩
    have C1 := hide (Peak23_ok (s := k) c h hb (by omega) (by omega))
    have C2 := hide (fun W (hw : Same' w W) => Peak26_ok (s := k) c (h.keep hw) hb (by omega) (by omega))
    obtain ⟨r1, r2, r3⟩ := pk_rp (n := n) (s := k) (fun i => cls (f i)) (by omega) (by omega) (k + 1)
    have r4 : isN (gridW k (rpK n (fun i => cls (f i)) k (k + 1))) = false := (grid_rnd (by omega) (by omega) (by have := rpK_lt n (fun i => cls (f i)) k; omega)).2.1
    obtain ⟨p, hp⟩ : ∃ p, p = (pkS n (fun i => cls (f i)) k (k + 1)).1 := ⟨_, rfl⟩
    obtain ⟨q, hq⟩ : ∃ q, q = gridW k (rpK n (fun i => cls (f i)) k (k + 1)) := ⟨_, rfl⟩
    rw [← hp] at C1 r1 r3
    rw [← hq] at C2 r1 r4
    have oe : FloatKind.f64.format.order p q = some .eq := (ordr_nn r3 r4).trans (by rw [cmp_eq r1])
    have d2 : decide ((40 : Int) < k) = false := by simp; omega
    clear h hb hp hq r1 r2 r3 r4 hmid hd
    go_enter Try.func13, Try.ntmps13
    go_wp2_with fail
    refine C1.out.mono ?_
    clear C1
    rintro e w1 ⟨rfl, hf1⟩
    go_wp2_with fail
    refine (C2.out _ hf1).mono ?_
    clear C2
    rintro e w2 ⟨rfl, hf2⟩
    go_wp2_with (go_at_call 14; refine (W.out _).mono ?_; rintro e w3 ⟨rfl, hf3⟩)
    go_ret
    exact ⟨rfl, (hf1.trans hf2).trans hf3⟩
  · have hbad : valB n f = false ∨ s < 1 ∨ 1000 < s := by
      cases hb : valB n f
      · exact .inl rfl
      · rw [hb] at hok; simp at hok; omega
    have C1 := hide (Peak23_err (s := s) c h hbad)
    have C2 := hide (fun W (hw : Same' w W) => Peak26_err (s := s) c (h.keep hw) hbad)
    have o0 : FloatKind.f64.format.order 0 0 = some .eq := by decide +kernel
    clear h hbad hok hmid
    rcases hd with d2 | ⟨d2, d3⟩
    all_goals
      go_enter Try.func13, Try.ntmps13
      go_wp2_with fail
      refine C1.out.mono ?_
      clear C1
      rintro e w1 ⟨rfl, hf1⟩
      go_wp2_with fail
      refine (C2.out _ hf1).mono ?_
      clear C2
      rintro e w2 ⟨rfl, hf2⟩
      go_wp2_with (go_at_call 14; refine (W.out _).mono ?_; rintro e w3 ⟨rfl, hf3⟩)
      go_ret
      exact ⟨rfl, (hf1.trans hf2).trans hf3⟩

end Go.Proofs.Ytneidejngbokcaa

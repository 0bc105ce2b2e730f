/- Walks: the law CritCrosses. -/
import Derived.Test.YtneidejngbokcaaE5
namespace Go.Proofs.Ytneidejngbokcaa
open Go.RowKit

set_option maxRecDepth 100000 in
set_option maxHeartbeats 2000000 in
theorem CritCrosses_at (w : World) (ao zo : Option Addr) (n c m d : Nat) (f g : Nat → Nat) (hn : n ≤ maxLen) (hm : m ≤ maxLen) (h : FlAt w ao n f) (h2 : FlAt w zo m g) (s : Int) :
    Calls Try.prog 3 #[.slice ao n c, .slice zo m d, .int .i64 s] w fun e w' => e = .returned (.bool true) ∧ Same' w w' := by
  unfold maxLen at hn hm
  have W := hide works_at
  by_cases h60 : 60 < n ∨ 60 < m
  · have hd : decide ((60 : Int) < n) = true ∨ (decide ((60 : Int) < n) = false ∧ decide ((60 : Int) < m) = true) := by simp; omega
    clear h h2 h60
    rcases hd with d1 | ⟨d1, d2⟩
    all_goals
      go_enter Try.func3, Try.ntmps3
      go_wp2_with (go_at_call 14; refine (W.out _).mono ?_; rintro e w3 ⟨rfl, hf3⟩)
      go_ret
      exact ⟨rfl, hf3⟩
  have d1 : decide ((60 : Int) < n) = false := by simp; omega
  have d1' : decide ((60 : Int) < m) = false := by simp; omega
  by_cases hmid : 40 < s ∧ s ≤ 1000
  · obtain ⟨k, rfl⟩ : ∃ k : Nat, s = k := ⟨s.toNat, by omega⟩
    have d2 : decide ((40 : Int) < k) = true := by simp; omega
    have d3 : decide ((k : Int) ≤ 1000) = true := by simp; omega
    have d4 : decide (k ≤ 1000) = true := by simp; omega
    cases hb : (valB n f && valB m g) with
    | true =>
      have hb' := hb
      rw [Bool.and_eq_true] at hb'
      have C1 := hide (Cross15_ok (s := k) c d h h2 hb'.1 hb'.2 (by omega) (by omega))
      have C2 := hide (fun W (hw : Same' w W) => Cross16_ok (s := 1) c d (h.keep hw) (h2.keep hw) hb'.1 hb'.2 (by omega) (by omega))
      clear h h2 hb hb' hmid h60
      go_enter Try.func3, Try.ntmps3
      go_wp2_with fail
      refine C1.out.mono ?_
      clear C1
      rintro e w1 ⟨p, b1, rfl, hc1, hf1⟩
      clear hc1
      go_wp2_with fail
      refine (C2.out _ hf1).mono ?_
      clear C2
      rintro e w2 ⟨q, b2, rfl, hc2, hf2⟩
      clear hc2
      go_wp2_with (go_at_call 14; refine (W.out _).mono ?_; rintro e w3 ⟨rfl, hf3⟩)
      go_ret
      exact ⟨rfl, (hf1.trans hf2).trans hf3⟩
    | false =>
      have C1 := hide (Cross15_err (s := (k : Int)) c d h h2 (.inl hb))
      have C2 := hide (fun W (hw : Same' w W) => Cross16_err (s := 1) c d (h.keep hw) (h2.keep hw) (.inl hb))
      clear h h2 hb hmid h60
      go_enter Try.func3, Try.ntmps3
      go_wp2_with fail
      refine C1.out.mono ?_
      clear C1
      rintro e w1 ⟨rfl, hf1⟩
      go_wp2_with fail
      refine (C2.out _ hf1).mono ?_
      clear C2
      rintro e w2 ⟨rfl, hf2⟩
      go_wp2_with (go_at_call 14; refine (W.out _).mono ?_; rintro e w3 ⟨rfl, hf3⟩)
      go_ret
      exact ⟨rfl, (hf1.trans hf2).trans hf3⟩
  have hd : decide ((40 : Int) < s) = false ∨ (decide ((40 : Int) < s) = true ∧ decide (s ≤ 1000) = false) := by
    simp; omega
  by_cases hok : (valB n f && valB m g) = true ∧ 1 ≤ s ∧ s ≤ 1000
  · obtain ⟨hb, hs1, hs2⟩ := hok
    rw [Bool.and_eq_true] at hb
    obtain ⟨k, rfl⟩ : ∃ k : Nat, s = k := ⟨s.toNat, by omega⟩
    have C1 := hide (Cross15_ok (s := k) c d h h2 hb.1 hb.2 (by omega) (by omega))
    have C2 := hide (fun W (hw : Same' w W) => Cross16_ok (s := k) c d (h.keep hw) (h2.keep hw) hb.1 hb.2 (by omega) (by omega))
    have d2 : decide ((40 : Int) < k) = false := by simp; omega
    clear h h2 hb hd h60
    go_enter Try.func3, Try.ntmps3
    go_wp2_with fail
    refine C1.out.mono ?_
    clear C1
    rintro e w1 ⟨p, b1, rfl, hc1, hf1⟩
    have HC1 := hide hc1
    clear hc1
    go_wp2_with fail
    refine (C2.out _ hf1).mono ?_
    clear C2
    rintro e w2 ⟨q, b2, rfl, hc2, hf2⟩
    have oe := ord_self (HC1.out.nn (by omega) (by omega))
    obtain ⟨rfl, rfl⟩ := HC1.out.uniq hc2
    clear hc2 HC1 hmid
    cases b1
    all_goals
      go_wp2_with (go_at_call 14; refine (W.out _).mono ?_; rintro e w3 ⟨rfl, hf3⟩)
      go_ret
      exact ⟨rfl, (hf1.trans hf2).trans hf3⟩
  · have hbad : (valB n f && valB m g) = false ∨ s < 1 ∨ 1000 < s := by
      cases hb : (valB n f && valB m g)
      · exact .inl rfl
      · rw [hb] at hok; simp at hok; omega
    have C1 := hide (Cross15_err (s := s) c d h h2 hbad)
    have C2 := hide (fun W (hw : Same' w W) => Cross16_err (s := s) c d (h.keep hw) (h2.keep hw) hbad)
    have o0 : FloatKind.f64.format.order 0 0 = some .eq := by decide +kernel
    clear h h2 hbad hok hmid h60
    rcases hd with d2 | ⟨d2, d3⟩
    all_goals
      go_enter Try.func3, Try.ntmps3
      go_wp2_with fail
      refine C1.out.mono ?_
      clear C1
      rintro e w1 ⟨rfl, hf1⟩
      go_wp2_with fail
      refine (C2.out _ hf1).mono ?_
      clear C2
      rintro e w2 ⟨rfl, hf2⟩
      go_wp2_with (go_at_call 14; refine (W.out _).mono ?_; rintro e w3 ⟨rfl, hf3⟩)
      go_ret
      exact ⟨rfl, (hf1.trans hf2).trans hf3⟩

end Go.Proofs.Ytneidejngbokcaa

/- Walks: the code's valid and Average. -/
import Derived.Test.YtneidejngbokcaaB6
namespace Go.Proofs.Ytneidejngbokcaa
open Go.RowKit

theorem isN_abs (x : Nat) : isN (absW x) = isN x := by
  rw [absW_eq]; unfold isN rg; simp

/-- A number of an amount that is not too great, by its amount. -/
theorem numB_abs (x : Nat) : numB x = leB (absW x) 5057542381537067008 := by
  have hk : isN 5057542381537067008 = false := by decide
  have hk2 : isN 14280914418391842816 = false := by decide
  have r1 : R 5057542381537067008 = 5057542381537067008 := by decide
  have r2 : R 14280914418391842816 = -5057542381537067008 := by decide
  by_cases hx : isN x = true
  · have h1 : leB (absW x) 5057542381537067008 = false := by
      unfold leB; rw [ordr_nan (.inl (by rw [isN_abs]; exact hx))]; rfl
    have h2 : numB x = false := by
      unfold numB leB geB; rw [ordr_nan (.inl hx), ordr_nan (.inl hx)]; rfl
    rw [h1, h2]
  · have hx' : isN x = false := by simpa using hx
    have ha : isN (absW x) = false := by rw [isN_abs]; exact hx'
    have hRa := R_abs x
    have hR : R x = rg x ∨ R x = -(rg x : Int) := by unfold R; split <;> simp
    rw [Bool.eq_iff_iff]
    constructor
    · intro h
      unfold numB at h
      rw [Bool.and_eq_true] at h
      have g1 := (geB_nn h.1).2.2
      have g2 := (leB_nn h.2).2.2
      exact leB_of ha hk (by rw [hRa]; omega)
    · intro h
      have g := (leB_nn h).2.2
      rw [hRa] at g
      unfold numB
      rw [Bool.and_eq_true]
      exact ⟨geB_of hx' hk2 (by rw [r2]; omega), leB_of hx' hk (by rw [r1]; omega)⟩

theorem valB_get {n : Nat} {f : Nat → Nat} (h : valB n f = true) : 1 ≤ n ∧ n ≤ 16385 ∧ ∀ i, i < n → numB (f i) = true := by
  unfold valB at h
  simp only [Bool.and_eq_true, decide_eq_true_eq] at h
  exact ⟨h.1.1, h.1.2, fun i hi => List.all_eq_true.1 h.2 i (List.mem_range.2 hi)⟩

set_option maxHeartbeats 1000000 in
theorem cvalid_at {w : World} {ao : Option Addr} {n : Nat} (c : Nat) {f : Nat → Nat} {p : Nat} (h : FlAt w ao n f) (hv : valB n f = true) (hp : probB p = true) : Calls Try.prog 37 #[.slice ao n c, .float .f64 p] w fun e w' => e = .returned (.bool true) ∧ w = w' := by
  obtain ⟨hn1, hn2, hall⟩ := valB_get hv
  have HL := hide h
  have HA := hide hall
  unfold probB geB leB at hp
  simp only [Bool.and_eq_true, Bool.or_eq_true, beq_iff_eq] at hp
  obtain ⟨p1, p2⟩ := hp
  have d1 : ((n : Int) == 0) = false := by simp; omega
  have d2 : decide ((16385 : Int) < n) = false := by simp; omega
  clear h hall hv
  unfold ordr at p1 p2
  rcases p1 with p1 | p1 <;> rcases p2 with p2 | p2
  all_goals
    go_enter Try.func37, Try.ntmps37
    go_wp2_with fail
    go_loopg [26] n (fun z i wr => ∃ k : Nat, k + z = n ∧ i = .int .i64 k ∧ w = wr)
    case atStart => exact ⟨0, by omega, rfl, rfl⟩
    case round =>
      obtain ⟨k, hk, rfl, rfl⟩ := hrel
      by_cases hlt : k < n
      · have hd : decide (k < n) = true := by simpa using hlt
        obtain ⟨ad, rfl, hc⟩ := HL.out k hlt
        have hki : (k : Int) < n := by omega
        have hb := HA.out k hlt
        rw [numB_abs] at hb
        unfold leB ordr at hb
        rw [Bool.or_eq_true, beq_iff_eq, beq_iff_eq] at hb
        rcases hb with hb | hb
        all_goals
          go_wp2_with (go_at_call 48; refine (Abs_w _ _).mono ?_; rintro e w' ⟨rfl, rfl⟩)
          go_roundg (gk - 1)
          case measure => omega
          case rel => exact ⟨k + 1, by omega, by go_num, rfl⟩
      · have hd : decide (k < n) = false := by simpa using hlt
        go_wp2_with fail
        go_ret
        exact ⟨rfl, rfl⟩

set_option maxHeartbeats 1000000 in
theorem Average24_ok {w : World} {ao : Option Addr} {n : Nat} (c : Nat) {f : Nat → Nat} {p : Nat} (h : FlAt w ao n f) (hv : valB n f = true) (hp : probB p = true) : Calls Try.prog 24 #[.slice ao n c, .float .f64 p] w fun e w' =>
    ∃ a, e = .returned (.tuple #[.float .f64 a, .int .i64 0]) ∧ cls a = avC n (fun i => cls (f i)) p ∧ Same' w w' := by
  obtain ⟨hn1, hn2, _⟩ := valB_get hv
  have C1 := hide (cvalid_at c h hv hp)
  have HH := hide h
  obtain ⟨m, rfl⟩ : ∃ m, n = m + 1 := ⟨n - 1, by omega⟩
  have C3 := hide (binomial_at w (m := m) (by omega) (prob_abs hp))
  clear hp hv h
  go_enter Try.func24, Try.ntmps24
  go_wp2_with (go_at_call 37; refine C1.out.mono ?_; rintro e w' ⟨rfl, rfl⟩)
  refine C3.out.mono ?_
  rintro e w1 ⟨g, x, rfl, hR, hx, hf⟩
  have C4 := hide (weighted_at (w := w1) c (m + 1) (f := f) (g := x) (by omega) (HH.out.keep hf) hR.fl)
  have HX := hide hx
  clear hx
  go_wp2_with (go_at_call 38; refine C4.out.mono ?_; rintro e w2 ⟨s, rfl, hs, hf2⟩)
  have HS := hide hs
  clear hs
  go_wp2_with fail
  go_ret2
  exact ⟨s, rfl, by rw [HS.out]; exact sumC_congr fun i hi => HX.out i hi, hf.trans hf2⟩

theorem average28_at (w : World) (ao : Option Addr) (n c : Nat) : Calls Try.prog 28 #[.slice ao n c] w fun e w' => e = .returned (.func (.func 42) #[] #[.pointer (some ⟨w.heap.size, 0, none⟩)]) ∧ w' = w.alloc (.cells #[.slice ao n c] 22) := by
  go_enter Try.func28, Try.ntmps28
  go_wp2_with fail
  go_ret
  exact ⟨rfl, rfl⟩

set_option maxHeartbeats 1000000 in
theorem at42 {w : World} {b : Nat} {ao : Option Addr} {n c : Nat} {f : Nat → Nat} {p : Nat} (hb : w.cell? ⟨b, 0, none⟩ = some (.slice ao n c)) (h : FlAt w ao n f) (hv : valB n f = true) (hp : probB p = true) : Calls Try.prog 42 #[.float .f64 p, .pointer (some ⟨b, 0, none⟩)] w fun e w' =>
    ∃ a, e = .returned (.float .f64 a) ∧ cls a = avC n (fun i => cls (f i)) p ∧ Same' w w' := by
  have C := hide (Average24_ok c h hv hp)
  clear h hv hp
  go_enter Try.func42, Try.ntmps42
  go_wp2_with (go_at_call 24; refine C.out.mono ?_; rintro e w2 ⟨s, rfl, hs, hf2⟩)
  have HS := hide hs
  clear hs
  go_wp2_with fail
  go_ret
  exact ⟨s, rfl, HS.out, hf2⟩

set_option maxHeartbeats 1000000 in
theorem average32_at {w : World} {ao : Option Addr} {n : Nat} (c : Nat) {f : Nat → Nat} {p : Nat} (h : FlAt w ao n f) (hv : valB n f = true) (hp : probB p = true) : Calls Try.prog 32 #[.slice ao n c, .float .f64 p] w fun e w' =>
    ∃ a, e = .returned (.float .f64 a) ∧ cls a = avC n (fun i => cls (f i)) p ∧ Same' w w' := by
  have C := hide (Average44_ok c h hv hp)
  clear h hv hp
  go_enter Try.func32, Try.ntmps32
  go_wp2_with (go_at_call 44; refine C.out.mono ?_; rintro e w2 ⟨s, rfl, hs, hf2⟩)
  have HS := hide hs
  clear hs
  go_wp2_with fail
  go_ret
  exact ⟨s, rfl, HS.out, hf2⟩

end Go.Proofs.Ytneidejngbokcaa

/- Walks: has, Union, Same, Size, Count, Mark. -/
import Derived.Test.YtiaddgagncmbeaaW2
namespace Go.Proofs.Ytiaddgagncmbeaa
open Go.RowKit

/-- Whether the first m of xs are elements. -/
def allIn (n m : Nat) (xs : Nat → Int) : Bool := decide (∀ i, i < m → 0 ≤ xs i ∧ xs i < n)

set_option maxHeartbeats 400000 in
theorem has_any (L : Lay) (n : Nat) (p s : Nat → Nat) (log : List Nat) (w : World) (hS : SetsAt w L n p s log) (hn : n ≤ 65536) (g m c : Nat) (xs : Nat → Int) (hm : m ≤ 2)
    (hc : ∀ i, i < m → w.cell? ⟨g, i, none⟩ = some (.int .i64 (xs i))) :
    Calls Try.prog 38 #[.pointer (some ⟨L.b, 0, none⟩), .slice (some ⟨g, 0, none⟩) m c] w fun e w' => e = .returned (.bool (allIn n m xs)) ∧ w = w' := by
  have h1 := hS.c1
  have h0 := hide hS.c0
  clear hS
  go_enter Try.func38, Try.ntmps38
  go_wp2
  go_loop [6, 9] (fun _ k => ∃ j : Nat, j ≤ m ∧ (∀ i, i < j → 0 ≤ xs i ∧ xs i < n) ∧ k = .int .i64 j) (fun _ k => m - (intOf k).toNat)
  case atStart => exact ⟨0, Nat.zero_le _, by intro i hi; omega, rfl⟩
  case round =>
    obtain ⟨j, hj, hall, rfl⟩ := hrel
    have HA := hide hall
    clear hall
    by_cases hlt : j < m
    · have hcj := hc j hlt
      clear hc
      by_cases hx : 0 ≤ xs j ∧ xs j < n
      · have HX := hide hx
        obtain ⟨hx0, hx1⟩ := hx
        go_wp2_with (go_at_call 30; refine (valid_at L.b true _ h0.out).mono ?_; rintro e w' ⟨rfl, rfl⟩)
        go_round
        case rel =>
          refine ⟨j + 1, by omega, fun i hi => ?_, by go_num⟩
          by_cases e : i = j
          · subst e; exact HX.out
          · exact HA.out i (by omega)
        case measure => simp [intOf]; omega
      · have hf : allIn n m xs = false := by
          unfold allIn
          simp only [decide_eq_false_iff_not]
          intro h
          exact hx (h j hlt)
        have HX := hide hx
        have HFF := hide hf
        clear hf hx
        by_cases hx0 : xs j < 0
        · go_wp2_with (go_at_call 30; refine (valid_at L.b true _ h0.out).mono ?_; rintro e w' ⟨rfl, rfl⟩)
          go_ret
          exact ⟨ret_bool HFF.out.symm, rfl⟩
        · have hx1 : (n : Int) ≤ xs j := by
            have := HX.out
            omega
          go_wp2_with (go_at_call 30; refine (valid_at L.b true _ h0.out).mono ?_; rintro e w' ⟨rfl, rfl⟩)
          go_ret
          exact ⟨ret_bool HFF.out.symm, rfl⟩
    · have hf : allIn n m xs = true := by
        unfold allIn
        simp only [decide_eq_true_eq]
        intro i hi
        exact HA.out i (by omega)
      have HFF := hide hf
      clear hf hc
      go_wp2
      go_ret
      exact ⟨ret_bool HFF.out.symm, rfl⟩

/-- has asked of two, of one. -/
def in2 (n : Nat) (a b : Int) : Bool := decide (0 ≤ a ∧ a < n) && decide (0 ≤ b ∧ b < n)
def in1 (n : Nat) (a : Int) : Bool := decide (0 ≤ a ∧ a < n)

theorem has2 (L : Lay) (n : Nat) (p s : Nat → Nat) (log : List Nat) (w : World) (hS : SetsAt w L n p s log) (hn : n ≤ 65536) (a b : Int) :
    Calls Try.prog 38 #[.pointer (some ⟨L.b, 0, none⟩), .slice (some ⟨w.heap.size, 0, none⟩) 2 2] (w.alloc (.cells #[.int .i64 a, .int .i64 b] 3)) fun e w' => e = .returned (.bool (in2 n a b)) ∧ w.alloc (.cells #[.int .i64 a, .int .i64 b] 3) = w' := by
  have h := has_any L n p s log _ (hS.keep ((Fr.refl (fun _ => False) w).alloc (.cells #[.int .i64 a, .int .i64 b] 3)) (fun _ _ h => h)) hn w.heap.size 2 2 (fun i => if i = 0 then a else b) (by omega)
    (by intro i hi; match i, hi with | 0, _ => simp | 1, _ => simp)
  refine h.mono fun e w' h => ⟨h.1.trans (ret_bool ?_), h.2⟩
  rw [Bool.eq_iff_iff]
  simp only [allIn, in2, decide_eq_true_eq, Bool.and_eq_true]
  constructor
  · intro h
    exact ⟨by simpa using h 0 (by omega), by simpa using h 1 (by omega)⟩
  · rintro ⟨h0, h1⟩ i hi
    match i, hi with
    | 0, _ => simpa using h0
    | 1, _ => simpa using h1

theorem has1 (L : Lay) (n : Nat) (p s : Nat → Nat) (log : List Nat) (w : World) (hS : SetsAt w L n p s log) (hn : n ≤ 65536) (a : Int) :
    Calls Try.prog 38 #[.pointer (some ⟨L.b, 0, none⟩), .slice (some ⟨w.heap.size, 0, none⟩) 1 1] (w.alloc (.cells #[.int .i64 a] 3)) fun e w' => e = .returned (.bool (in1 n a)) ∧ w.alloc (.cells #[.int .i64 a] 3) = w' := by
  have h := has_any L n p s log _ (hS.keep ((Fr.refl (fun _ => False) w).alloc (.cells #[.int .i64 a] 3)) (fun _ _ h => h)) hn w.heap.size 1 1 (fun _ => a) (by omega)
    (by intro i hi; match i, hi with | 0, _ => simp)
  refine h.mono fun e w' h => ⟨h.1.trans (ret_bool ?_), h.2⟩
  rw [Bool.eq_iff_iff]
  simp only [allIn, in1, decide_eq_true_eq]
  exact ⟨fun h => h 0 (by omega), fun h _ _ => h⟩

theorem has2g (L : Lay) (n : Nat) (p s : Nat → Nat) (log : List Nat) (w : World) (g : Nat) (hg : g = w.heap.size) (hS : SetsAt w L n p s log) (hn : n ≤ 65536) (a b : Int) :
    Calls Try.prog 38 #[.pointer (some ⟨L.b, 0, none⟩), .slice (some ⟨g, 0, none⟩) 2 2] (w.alloc (.cells #[.int .i64 a, .int .i64 b] 3)) fun e w' => e = .returned (.bool (in2 n a b)) ∧ w.alloc (.cells #[.int .i64 a, .int .i64 b] 3) = w' := by
  subst hg
  exact has2 L n p s log w hS hn a b

/-- Sets that are not valid have no elements. -/
theorem has_bad (v : Value) (w : World) (g m c : Nat) (x : Value) (hm : 0 < m) (hm2 : m ≤ 2) (hc : w.cell? ⟨g, 0, none⟩ = some x)
    (hv : Calls Try.prog 30 #[v] w fun e w' => e = .returned (.bool false) ∧ w = w') :
    Calls Try.prog 38 #[v, .slice (some ⟨g, 0, none⟩) m c] w fun e w' => e = .returned (.bool false) ∧ w = w' := by
  have HV := hide hv
  clear hv
  go_enter Try.func38, Try.ntmps38
  go_wp2
  refine wp_loop_rounds 1 ?_
  rw [rounds_succ]
  go_wp2_with (go_at_call 30; refine HV.out.mono ?_; rintro e w' ⟨rfl, rfl⟩)
  go_ret
  exact ⟨rfl, rfl⟩

end Go.Proofs.Ytiaddgagncmbeaa

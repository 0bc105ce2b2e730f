/- Walks: points, an iterator over the numbers of a grid. -/
import Derived.Test.YtneidejngbokcaaC2
import Derived.Test.YtneidejngbokcaaF7
namespace Go.Proofs.Ytneidejngbokcaa
open Go.RowKit Go.Shelf

attribute [local go_sem] Oper.semAt_some

theorem points_at (n : Int) (w : World) : Calls Try.prog 30 #[.int .i64 n] w fun e w' => e = .returned (.func (.func 43) #[] #[.pointer (some ⟨w.heap.size, 0, none⟩)]) ∧ w' = w.alloc (.cells #[.int .i64 n] 3) := by
  go_enter Try.func30, Try.ntmps30
  go_wp2_with fail
  go_ret
  exact ⟨rfl, rfl⟩

set_option maxHeartbeats 1000000 in
theorem points1_at (l bs n : Nat) (h1 : 1 ≤ n) (h2 : n ≤ 1000) (I1 I2 Ix : Nat → World → Prop) (B Bx : World → Prop)
    (hc1 : ∀ k W, I1 k W → W.cell? ⟨bs, 0, none⟩ = some (.int .i64 n))
    (hc2 : ∀ k W, I2 k W → I1 (k + 1) W)
    (hY : ∀ k W, k ≤ n → I1 k W → B W → YieldAt Fence.wide (8 - 1 - 1) Try.prog l #[.float .f64 (gridW n k)] W fun e W' => (e = .returned (.bool true) ∧ I2 k W' ∧ B W') ∨ (e = .returned (.bool false) ∧ Ix k W' ∧ Bx W'))
    (W : World) (h0 : I1 0 W) (hB0 : B W) :
    CallsIn Fence.wide (8 - 1) Try.prog 43 #[.func (.yield l) #[] #[], .pointer (some ⟨bs, 0, none⟩)] W fun e W' => (∃ v, e = .returned v) ∧ ((I1 (n + 1) W' ∧ B W') ∨ (∃ k, Ix k W' ∧ Bx W')) := by
  have hcb := hc1 _ _ h0
  refine callsIn_of_wp Try.func43 rfl trivial ?_ rfl
  simp only [Try.ntmps43, List.size_toArray, List.length_cons, List.length_nil, Nat.reduceAdd, Nat.reduceSub, Array.replicate_succ, Array.replicate_zero, List.push_toArray, List.append_toArray, List.nil_append, List.cons_append]
  gi_wp2
  gi_loopg [6] (n + 1) (fun z i wr => ∃ k : Nat, k + z = n + 1 ∧ i = .int .i64 k ∧ I1 k wr ∧ B wr)
  case atStart => exact ⟨0, by omega, rfl, h0, hB0⟩
  case round =>
    obtain ⟨k, hk, rfl, hi, hb⟩ := hrel
    have hc := hc1 _ _ hi
    have HC2 := hide hc2
    have HY := hide hY
    clear hc1 hc2 hY h0 hB0 hcb
    by_cases hlt : k ≤ n
    · have hd : decide (k ≤ n) = true := by simpa using hlt
      have hd2 : decide ((k : Int) < n + 1) = true := by simp; omega
      obtain ⟨q, _, _⟩ := grid_rnd h1 h2 (show k ≤ 1000 by omega)
      have hq : ∀ w, (binOp .quo 24 (.float .f64 (floatOfInt .f64 (k : Int))) (.float .f64 (floatOfInt .f64 (n : Int)))).run Try.prog w = .ok (.float .f64 (gridW n k)) w := fun w => run_float_arith w .quo 24 .f64 _ _ _ q
      clear q
      obtain ⟨fn, tmps, assign, body, hy, hR⟩ := HY.out k wr hlt hi hb
      gi_wp2_with (refine hR.mono ?_; clear hR; rintro e W2 (⟨rfl, hi2, hb2⟩ | ⟨rfl, hi2, hb2⟩))
      · gi_roundg (gk - 1)
        case measure => omega
        case rel => exact ⟨k + 1, by omega, by go_num, HC2.out _ _ hi2, hb2⟩
      · refine bodyPost_ret (results_none rfl _ _ _) rfl ?_
        exact ⟨⟨_, rfl⟩, .inr ⟨_, hi2, hb2⟩⟩
    · have hd : decide (k ≤ n) = false := by simpa using hlt
      have hd2 : decide ((k : Int) < n + 1) = false := by simp; omega
      obtain rfl : k = n + 1 := by omega
      gi_wp2
      go_end0
      exact ⟨⟨_, rfl⟩, .inl ⟨hi, hb⟩⟩
end Go.Proofs.Ytneidejngbokcaa

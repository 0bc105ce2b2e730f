/- Walks: Ldexp at 1 and 100, numbers, valid. -/
import Derived.Test.YtneidejngbokcaaB7
namespace Go.Proofs.Ytneidejngbokcaa
open Go.RowKit

theorem abs_one : absW 4607182418800017408 = 4607182418800017408 := by decide +kernel

set_option maxHeartbeats 1000000 in
theorem IsInf_one (w : World) : Calls Try.prog 66 #[.float .f64 4607182418800017408, .int .i64 0] w fun e w' => e = .returned (.bool false) ∧ w = w' := by
  have o1 : FloatKind.f64.format.order 4607182418800017408 9218868437227405311 = some .lt := by decide +kernel
  have C := fun w => hide (Abs_w w 4607182418800017408)
  rw [abs_one] at C
  go_enter Try.func66, Try.ntmps66
  go_wp2_with (go_at_call 48; refine (C _).out.mono ?_; rintro e w' ⟨rfl, rfl⟩)
  go_ret
  exact ⟨rfl, rfl⟩

set_option maxHeartbeats 1000000 in
theorem IsNaN_one (w : World) : Calls Try.prog 67 #[.float .f64 4607182418800017408] w fun e w' => e = .returned (.bool false) ∧ w = w' := by
  have o1 : FloatKind.f64.format.order 4607182418800017408 4607182418800017408 = some .eq := by decide +kernel
  go_enter Try.func67, Try.ntmps67
  go_wp2_with fail
  go_ret
  exact ⟨rfl, rfl⟩

set_option maxHeartbeats 1000000 in
theorem normalize_one (w : World) : Calls Try.prog 68 #[.float .f64 4607182418800017408] w fun e w' => e = .returned (.tuple #[.float .f64 4607182418800017408, .int .i64 0]) ∧ w = w' := by
  have o1 : FloatKind.f64.format.order 4607182418800017408 4503599627370496 = some .gt := by decide +kernel
  have C := fun w => hide (Abs_w w 4607182418800017408)
  rw [abs_one] at C
  go_enter Try.func68, Try.ntmps68
  go_wp2_with (go_at_call 48; refine (C _).out.mono ?_; rintro e w' ⟨rfl, rfl⟩)
  go_ret2
  exact ⟨rfl, rfl⟩

set_option maxHeartbeats 1000000 in
theorem ldexp_one (w : World) : Calls Try.prog 59 #[.float .f64 4607182418800017408, .int .i64 100] w fun e w' => e = .returned (.float .f64 5057542381537067008) ∧ w = w' := by
  have o1 : FloatKind.f64.format.order 4607182418800017408 0 = some .gt := by decide +kernel
  have hm : ∀ w, (binOp .mul 24 (.float .f64 4607182418800017408) (.float .f64 5057542381537067008)).run Try.prog w = .ok (.float .f64 5057542381537067008) w := fun w => run_float_arith w .mul 24 .f64 _ _ _ (by decide +kernel)
  have b1 : bits .and .i64 1023 2047 = 1023 := by decide +kernel
  have b2 : bits .andNot .u64 4607182418800017408 9218868437227405312 = 0 := by decide +kernel
  have b3 : bits .or .u64 0 5057542381537067008 = 5057542381537067008 := by decide +kernel
  go_enter Try.func59, Try.ntmps59
  go_wp2_with (first
    | (go_at_call 66; refine (IsInf_one _).mono ?_; rintro e w' ⟨rfl, rfl⟩)
    | (go_at_call 67; refine (IsNaN_one _).mono ?_; rintro e w' ⟨rfl, rfl⟩)
    | (go_at_call 68; refine (normalize_one _).mono ?_; rintro e w' ⟨rfl, rfl⟩))
  go_ret
  exact ⟨rfl, rfl⟩

theorem Ldexp_one (w : World) : Calls Try.prog 45 #[.float .f64 4607182418800017408, .int .i64 100] w fun e w' => e = .returned (.float .f64 5057542381537067008) ∧ w = w' := by
  have C := fun w => hide (ldexp_one w)
  go_enter Try.func45, Try.ntmps45
  go_wp2_with (go_at_call 59; refine (C _).out.mono ?_; rintro e w' ⟨rfl, rfl⟩)
  go_ret
  exact ⟨rfl, rfl⟩

set_option maxHeartbeats 1000000 in
theorem numbers1_at {w : World} {b x : Nat} (hb : w.cell? ⟨b, 0, none⟩ = some (.float .f64 5057542381537067008)) : Calls Try.prog 47 #[.float .f64 x, .pointer (some ⟨b, 0, none⟩)] w fun e w' => e = .returned (.bool (!numB x)) ∧ ∃ n, w' = w.drewN n := by
  rw [numB_abs]
  go_enter Try.func47, Try.ntmps47
  go_wp2_with fail
  go_quiet ((go_at_call 48; exact Calls.quiet_of_same ((Abs_w _ x).mono fun _ _ h => ⟨h.1, h.2.symm⟩)))
  go_wp2_with fail
  go_ret
  refine ⟨ret_bool ?_, nq, rfl⟩
  unfold leB ordr
  rw [Bool.not_or]

theorem same_drewN (w : World) (n : Nat) : Same' w (w.drewN n) := (Fr.refl _ w).drewN n

theorem numbers1_s {w : World} {b x : Nat} (hb : w.cell? ⟨b, 0, none⟩ = some (.float .f64 5057542381537067008)) : Calls Try.prog 47 #[.float .f64 x, .pointer (some ⟨b, 0, none⟩)] w fun e w' => e = .returned (.bool (!numB x)) ∧ Same' w w' :=
  (numbers1_at hb).mono fun _ _ ⟨h, n, hw⟩ => ⟨h, by rw [hw]; exact same_drewN w n⟩

/-- Whether all the numbers of a row are of an amount that is not too great. -/
def allN (n : Nat) (f : Nat → Nat) : Bool := (List.range n).all fun i => numB (f i)
theorem allN_bad {n i : Nat} {f : Nat → Nat} (hi : i < n) (h : numB (f i) = false) : allN n f = false := by
  unfold allN
  rw [Bool.eq_false_iff]
  intro hc
  have := List.all_eq_true.1 hc i (List.mem_range.2 hi)
  rw [h] at this; cases this
theorem allN_ok {n : Nat} {f : Nat → Nat} (h : ∀ i, i < n → numB (f i) = true) : allN n f = true := List.all_eq_true.2 fun i hi => h i (List.mem_range.1 hi)

theorem cell_same {w w' : World} {a : Addr} {v : Value} (h : w.cell? a = some v) (hf : Same' w w') : w'.cell? a = some v := (hf.cell (block_lt_of_cell h) id).trans h

set_option maxHeartbeats 1000000 in
theorem index60_at {w : World} {b : Nat} {ao : Option Addr} {n : Nat} (c : Nat) {f : Nat → Nat} (hn : n ≤ 16385) (hb : w.cell? ⟨b, 0, none⟩ = some (.float .f64 5057542381537067008)) (h : FlAt w ao n f) :
    Calls Try.prog 60 #[.slice ao n c, .func (.func 47) #[] #[.pointer (some ⟨b, 0, none⟩)]] w fun e w' => ∃ r : Int, e = .returned (.int .i64 r) ∧ decide (0 ≤ r) = !allN n f ∧ Same' w w' := by
  have HL := hide h
  have HB := hide hb
  clear h hb
  go_enter Try.func60, Try.ntmps60
  go_wp2_with fail
  go_loopg [8] n (fun z i wr => ∃ k : Nat, k + z = n ∧ i = .int .i64 k ∧ (∀ j, j < k → numB (f j) = true) ∧ Same' w wr)
  case atStart => exact ⟨0, by omega, rfl, fun j hj => by omega, Fr.refl _ w⟩
  case round =>
    obtain ⟨k, hk, rfl, hall, hf⟩ := hrel
    have HA := hide hall
    clear hall
    by_cases hlt : k < n
    · have hd : decide (k < n) = true := by simpa using hlt
      obtain ⟨ad, rfl, hc⟩ := (HL.out.keep hf) k hlt
      have hki : (k : Int) < n := by omega
      have C := hide (numbers1_s (x := f k) (cell_same HB.out hf))
      cases hnb : numB (f k) with
      | true =>
        rw [hnb] at C
        have HN := hide hnb
        clear hnb
        go_wp2_with (go_at_call 47; refine C.out.mono ?_; clear C; rintro e w2 ⟨rfl, hf2⟩)
        go_roundg (gk - 1)
        case measure => omega
        case rel => exact ⟨k + 1, by omega, by go_num, fun j hj => by by_cases e : j = k; (· subst e; exact HN.out); exact HA.out j (by omega), hf.trans hf2⟩
      | false =>
        rw [hnb] at C
        have HN := hide (allN_bad hlt hnb)
        clear hnb
        go_wp2_with (go_at_call 47; refine C.out.mono ?_; clear C; rintro e w2 ⟨rfl, hf2⟩)
        go_ret
        exact ⟨k, rfl, by rw [HN.out]; simp, hf.trans hf2⟩
    · have hd : decide (k < n) = false := by simpa using hlt
      have HN := hide (allN_ok (n := n) (f := f) (fun i hi => HA.out i (by omega)))
      go_wp2_with fail
      go_ret
      exact ⟨-1, rfl, by rw [HN.out]; rfl, hf⟩

set_option maxHeartbeats 1000000 in
theorem contains46_at {w : World} {b : Nat} {ao : Option Addr} {n : Nat} (c : Nat) {f : Nat → Nat} (hn : n ≤ 16385) (hb : w.cell? ⟨b, 0, none⟩ = some (.float .f64 5057542381537067008)) (h : FlAt w ao n f) :
    Calls Try.prog 46 #[.slice ao n c, .func (.func 47) #[] #[.pointer (some ⟨b, 0, none⟩)]] w fun e w' => e = .returned (.bool (!allN n f)) ∧ Same' w w' := by
  have C := hide (index60_at c hn hb h)
  clear hb h
  go_enter Try.func46, Try.ntmps46
  go_wp2_with (go_at_call 60; refine C.out.mono ?_; clear C; rintro e w2 ⟨r, rfl, hr, hf⟩)
  go_wp2_with fail
  go_ret
  exact ⟨rfl, hf⟩

set_option maxHeartbeats 1000000 in
theorem numbers33_at {w : World} {ao : Option Addr} {n : Nat} (c : Nat) {f : Nat → Nat} (hn : n ≤ 16385) (h : FlAt w ao n f) :
    Calls Try.prog 33 #[.slice ao n c] w fun e w' => e = .returned (.bool (allN n f)) ∧ Same' w w' := by
  have L := fun w => hide (Ldexp_one w)
  have C := hide (contains46_at (w := w.alloc (.cells #[.float .f64 5057542381537067008] 24)) (b := w.heap.size) c hn (by simp) (h.keep ((Fr.refl _ w).alloc _)))
  clear h
  go_enter Try.func33, Try.ntmps33
  go_wp2_with (first
    | (go_at_call 45; refine (L _).out.mono ?_; rintro e w' ⟨rfl, rfl⟩)
    | (go_at_call 46; refine C.out.mono ?_; clear C; rintro e w2 ⟨rfl, hf⟩))
  go_ret
  exact ⟨by simp, ((Fr.refl _ w).alloc _).trans hf⟩

theorem valB_eq (n : Nat) (f : Nat → Nat) : valB n f = (decide (1 ≤ n) && decide (n ≤ 16385) && allN n f) := rfl

set_option maxHeartbeats 1000000 in
theorem valid41_at {w : World} {ao : Option Addr} {n : Nat} (c : Nat) {f : Nat → Nat} (h : FlAt w ao n f) :
    Calls Try.prog 41 #[.slice ao n c] w fun e w' => e = .returned (.bool (!valB n f)) ∧ Same' w w' := by
  by_cases h1 : n < 1
  · have d1 : decide ((n : Int) < 1) = true := by simp; omega
    rw [valB_out (.inl h1)]
    go_enter Try.func41, Try.ntmps41
    go_wp2_with fail
    go_ret
    exact ⟨rfl, Fr.refl _ w⟩
  by_cases h2 : 16385 < n
  · have d1 : decide ((n : Int) < 1) = false := by simp; omega
    have d2 : decide ((16385 : Int) < n) = true := by simp; omega
    rw [valB_out (.inr h2)]
    go_enter Try.func41, Try.ntmps41
    go_wp2_with fail
    go_ret
    exact ⟨rfl, Fr.refl _ w⟩
  have d1 : decide ((n : Int) < 1) = false := by simp; omega
  have d2 : decide ((16385 : Int) < n) = false := by simp; omega
  have C := hide (numbers33_at c (by omega) h)
  have HV : Hid (valB n f = allN n f) := by rw [valB_eq, decide_eq_true (by omega), decide_eq_true (by omega)]; rfl
  clear h
  go_enter Try.func41, Try.ntmps41
  go_wp2_with (go_at_call 33; refine C.out.mono ?_; clear C; rintro e w2 ⟨rfl, hf⟩)
  go_ret
  exact ⟨ret_bool (by rw [HV.out]), hf⟩

end Go.Proofs.Ytneidejngbokcaa

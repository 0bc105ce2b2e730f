/- Walks: Mean, the code's. -/
import Derived.Test.YtneidejngbokcaaB9
namespace Go.Proofs.Ytneidejngbokcaa
open Go.RowKit

/-- The mean of n numbers, and their variance, as classes. -/
def mnC (n : Nat) (F : Nat → Cl) : Cl := fop .quo (sumW F n) (fI n)
def sqC (F : Nat → Cl) (M : Cl) : Nat → Cl
  | 0 => some 0
  | k + 1 => fop .add (sqC F M k) (fop .mul (fop .sub (F k) M) (fop .sub (F k) M))
def vrC (n : Nat) (F : Nat → Cl) : Cl := fop .quo (sqC F (mnC n F) n) (fI n)

set_option maxHeartbeats 1000000 in
theorem Mean19_err {w : World} {ao : Option Addr} {n : Nat} (c : Nat) {f : Nat → Nat} (h : FlAt w ao n f) (hv : valB n f = false) :
    Calls Try.prog 19 #[.slice ao n c] w fun e w' => e = .returned (.tuple #[.float .f64 0, .float .f64 0, .int .i64 2]) ∧ Same' w w' := by
  have C := hide (valid27_one (c := c) h)
  rw [hv] at C
  clear h hv
  go_enter Try.func19, Try.ntmps19
  go_wp2_with (go_at_call 27; refine C.out.mono ?_; clear C; rintro e w2 ⟨rfl, hf⟩)
  go_ret3
  exact ⟨rfl, ((Fr.refl _ w).alloc _).trans hf⟩

set_option maxHeartbeats 1000000 in
theorem Mean19_ok {w : World} {ao : Option Addr} {n : Nat} (c : Nat) {f : Nat → Nat} (h : FlAt w ao n f) (hv : valB n f = true) :
    Calls Try.prog 19 #[.slice ao n c] w fun e w' => ∃ a v, e = .returned (.tuple #[.float .f64 a, .float .f64 v, .int .i64 0]) ∧ cls a = mnC n (fun i => cls (f i)) ∧ cls v = vrC n (fun i => cls (f i)) ∧ Same' w w' := by
  have C := hide (valid27_one (c := c) h)
  rw [hv] at C
  have HL := hide h
  obtain ⟨hn1, hn2, _⟩ := valB_get hv
  clear h hv
  go_enter Try.func19, Try.ntmps19
  go_wp2_with (go_at_call 27; refine C.out.mono ?_; clear C; rintro e w2 ⟨rfl, hf⟩)
  have HF := hide (((Fr.refl (fun _ => False) w).alloc (.cells #[.slice ao n c] 22)).trans hf)
  clear hf
  go_loopg [2, 20] n (fun z s i wr => ∃ (k y : Nat), k + z = n ∧ i = .int .i64 k ∧ s = .float .f64 y ∧ cls y = sumW (fun i => cls (f i)) k ∧ Same' w wr)
  case atStart => exact ⟨0, 0, by omega, rfl, rfl, rfl, HF.out⟩
  case round =>
    clear HF
    obtain ⟨k, y, hk, rfl, rfl, hy, hf⟩ := hrel
    have HY := hide hy
    clear hy
    by_cases hlt : k < n
    · have hd : decide (k < n) = true := by simpa using hlt
      obtain ⟨ad, rfl, hc⟩ := (HL.out.keep hf) k hlt
      have hki : (k : Int) < n := by omega
      go_wp2_with (refine wpList_arithK (Same' w) hf (fun w h => h.to rfl rfl rfl rfl) rfl .add 24 24 _ _ rfl (by simp) _ _ rfl rfl ?_)
      rintro r w3 hr hf3
      have H1 := hide hr
      clear hr
      go_wp2_with fail
      go_roundg (gk - 1)
      case measure => omega
      case rel => exact ⟨k + 1, r, by omega, by go_num, rfl, by rw [H1.out, HY.out]; rfl, hf3⟩
    · have hd : decide (k < n) = false := by simpa using hlt
      obtain rfl : k = n := by omega
      go_wp2_with (refine wpList_arithK (Same' w) hf (fun w h => h.to rfl rfl rfl rfl) rfl .quo 24 24 _ _ rfl (by simp) _ _ rfl rfl ?_)
      rintro M w3 hM hf3
      rw [HY.out, cls_flI] at hM
      have hM' : cls M = mnC k (fun i => cls (f i)) := hM
      have H1 := hide hM'
      have HF := hide hf3
      clear hM hM' HY hf hf3 hd hlt hk
      go_wp2_with fail
      go_loopg [3, 33] k (fun z s i wr => ∃ (j y : Nat), j + z = k ∧ i = .int .i64 j ∧ s = .float .f64 y ∧ cls y = sqC (fun i => cls (f i)) (mnC k (fun i => cls (f i))) j ∧ Same' w wr)
      case atStart => exact ⟨0, 0, by omega, rfl, rfl, rfl, HF.out⟩
      case round =>
        clear HF
        obtain ⟨j, y, hj, rfl, rfl, hy, hf⟩ := hrel
        have HY := hide hy
        clear hy
        by_cases hlt : j < k
        · have hd : decide (j < k) = true := by simpa using hlt
          obtain ⟨ad, rfl, hc⟩ := (HL.out.keep hf) j hlt
          have hki : (j : Int) < k := by omega
          go_wp2_with (refine wpList_arithK (Same' w) hf (fun w h => h.to rfl rfl rfl rfl) rfl .sub 24 24 _ _ rfl (by simp) _ _ rfl rfl ?_)
          rintro r w4 hr hf4
          have H2 := hide hr
          clear hr hf
          go_wp2_with (refine wpList_arithK (Same' w) hf4 (fun w h => h.to rfl rfl rfl rfl) rfl .mul 24 24 _ _ rfl (by simp) _ _ rfl rfl ?_)
          rintro q w5 hq hf5
          have H3 := hide hq
          clear hq hf4
          go_wp2_with (refine wpList_arithK (Same' w) hf5 (fun w h => h.to rfl rfl rfl rfl) rfl .add 24 24 _ _ rfl (by simp) _ _ rfl rfl ?_)
          rintro s w6 hs hf6
          have H4 := hide hs
          clear hs hf5
          go_wp2_with fail
          go_roundg (gk - 1)
          case measure => omega
          case rel => exact ⟨j + 1, s, by omega, by go_num, rfl, by rw [H4.out, H3.out, H2.out, HY.out, H1.out]; rfl, hf6⟩
        · have hd : decide (j < k) = false := by simpa using hlt
          obtain rfl : j = k := by omega
          go_wp2_with (refine wpList_arithK (Same' w) hf (fun w h => h.to rfl rfl rfl rfl) rfl .quo 24 24 _ _ rfl (by simp) _ _ rfl rfl ?_)
          rintro v w4 hv hf4
          rw [HY.out, cls_flI] at hv
          have hv' : cls v = vrC j (fun i => cls (f i)) := hv
          have H2 := hide hv'
          have HF := hide hf4
          clear hv hv' hf4 hf HY
          go_wp2_with fail
          go_ret3
          exact ⟨M, v, rfl, H1.out, H2.out, HF.out⟩
end Go.Proofs.Ytneidejngbokcaa

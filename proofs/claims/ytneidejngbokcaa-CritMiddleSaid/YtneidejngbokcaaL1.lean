/- Walks: the document's Mean, and the law CritMeans. -/
import Derived.Test.YtneidejngbokcaaD1
import Derived.Test.YtneidejngbokcaaF8
namespace Go.Proofs.Ytneidejngbokcaa
open Go.RowKit

theorem same_drew (w : World) {w' : World} (h : Same' w w') : Same' w w'.drew := h.to rfl rfl rfl rfl

set_option maxHeartbeats 1000000 in
theorem Mean20_err {w : World} {ao : Option Addr} {n : Nat} (c : Nat) {f : Nat → Nat} (h : FlAt w ao n f) (hv : valB n f = false) :
    Calls Try.prog 20 #[.slice ao n c] w fun e w' => e = .returned (.tuple #[.float .f64 0, .float .f64 0, .int .i64 2]) ∧ Same' w w' := by
  have C := values_at c h
  rw [hv] at C
  have C' := hide C
  clear h hv C
  go_enter Try.func20, Try.ntmps20
  go_wp2_with (go_at_call 31; refine C'.out.mono ?_; clear C'; rintro e w2 ⟨rfl, rfl⟩)
  go_ret3
  exact ⟨rfl, Fr.refl _ _⟩

set_option maxHeartbeats 1000000 in
theorem Mean20_ok {w : World} {ao : Option Addr} {n : Nat} (c : Nat) {f : Nat → Nat} (h : FlAt w ao n f) (hv : valB n f = true) :
    Calls Try.prog 20 #[.slice ao n c] w fun e w' => ∃ a v, e = .returned (.tuple #[.float .f64 a, .float .f64 v, .int .i64 0]) ∧ cls a = mnC n (fun i => cls (f i)) ∧ cls v = vrC n (fun i => cls (f i)) ∧ Same' w w' := by
  have C := values_at c h
  rw [hv] at C
  have C' := hide C
  have HL := hide h
  obtain ⟨hn1, hn2, _⟩ := valB_get hv
  clear h hv C
  go_enter Try.func20, Try.ntmps20
  go_wp2_with (go_at_call 31; refine C'.out.mono ?_; clear C'; rintro e w2 ⟨rfl, rfl⟩)
  go_loopg [5, 6] n (fun z s i wr => ∃ (k y : Nat), k + z = n ∧ i = .int .i64 k ∧ s = .float .f64 y ∧ cls y = sumW (fun i => cls (f i)) k ∧ Same' w wr)
  case atStart => exact ⟨0, 0, by omega, rfl, rfl, rfl, Fr.refl _ _⟩
  case round =>
    obtain ⟨k, y, hk, rfl, rfl, hy, hf⟩ := hrel
    have HY := hide hy
    clear hy
    by_cases hlt : k < n
    · have hd : decide (k < n) = true := by simpa using hlt
      obtain ⟨ad, rfl, hc⟩ := (HL.out.keep hf) k hlt
      have hki : (k : Int) < n := by omega
      go_wp2_with (refine wpList_arithK (Same' w) hf (fun _ h => same_drew w h) rfl .add 24 24 _ _ rfl (by simp) _ _ rfl rfl ?_)
      rintro r w3 hr hf3
      have H1 := hide hr
      clear hr
      go_wp2_with fail
      go_roundg (gk - 1)
      case measure => omega
      case rel => exact ⟨k + 1, r, by omega, by go_num, rfl, by rw [H1.out, HY.out]; rfl, hf3⟩
    · have hd : decide (k < n) = false := by simpa using hlt
      obtain rfl : k = n := by omega
      go_wp2_with (refine wpList_arithK (Same' w) hf (fun _ h => same_drew w h) rfl .quo 24 24 _ _ rfl (by simp) _ _ rfl rfl ?_)
      rintro M w3 hM hf3
      rw [HY.out, cls_flI] at hM
      have hM' : cls M = mnC k (fun i => cls (f i)) := hM
      have H1 := hide hM'
      have HF := hide hf3
      clear hM hM' HY hf hf3 hd hlt hk
      go_wp2_with fail
      go_loopg [8, 9] k (fun z s i wr => ∃ (j y : Nat), j + z = k ∧ i = .int .i64 j ∧ s = .float .f64 y ∧ cls y = sqC (fun i => cls (f i)) (mnC k (fun i => cls (f i))) j ∧ Same' w wr)
      case atStart => exact ⟨0, 0, by omega, rfl, rfl, rfl, HF.out⟩
      case round =>
        clear HF
        obtain ⟨j, y, hj, rfl, rfl, hy, hf⟩ := hrel
        have HY := hide hy
        clear hy
        by_cases hlt : j < k
        · have hd : decide (j < k) = true := by simpa using hlt
          obtain ⟨ad, rfl, hc⟩ := (HL.out.keep hf) j hlt
          have hki : (j : Int) < k := by omega
          go_wp2_with (refine wpList_arithK (Same' w) hf (fun _ h => same_drew w h) rfl .sub 24 24 _ _ rfl (by simp) _ _ rfl rfl ?_)
          rintro r w4 hr hf4
          have H2 := hide hr
          clear hr hf
          go_wp2_with (refine wpList_arithK (Same' w) hf4 (fun _ h => same_drew w h) rfl .mul 24 24 _ _ rfl (by simp) _ _ rfl rfl ?_)
          rintro q w5 hq hf5
          have H3 := hide hq
          clear hq hf4
          go_wp2_with (refine wpList_arithK (Same' w) hf5 (fun _ h => same_drew w h) rfl .add 24 24 _ _ rfl (by simp) _ _ rfl rfl ?_)
          rintro s w6 hs hf6
          have H4 := hide hs
          clear hs hf5
          go_wp2_with fail
          go_roundg (gk - 1)
          case measure => omega
          case rel => exact ⟨j + 1, s, by omega, by go_num, rfl, by rw [H4.out, H3.out, H2.out, HY.out, H1.out]; rfl, hf6⟩
        · have hd : decide (j < k) = false := by simpa using hlt
          obtain rfl : j = k := by omega
          go_wp2_with (refine wpList_arithK (Same' w) hf (fun _ h => same_drew w h) rfl .quo 24 24 _ _ rfl (by simp) _ _ rfl rfl ?_)
          rintro v w4 hv hf4
          rw [HY.out, cls_flI] at hv
          have hv' : cls v = vrC j (fun i => cls (f i)) := hv
          have H2 := hide hv'
          have HF := hide hf4
          clear hv hv' hf4 hf HY
          go_wp2_with fail
          go_ret3
          exact ⟨M, v, rfl, H1.out, H2.out, HF.out⟩

theorem ord_self {x : Nat} (h : isN x = false) : FloatKind.f64.format.order x x = some .eq := by
  have := ordr_nn h h
  rw [cmp_eq rfl] at this
  exact this

theorem cls_nn {a x : Nat} (h : cls a = some x) : isN a = false := by
  unfold cls at h
  cases e : isN a
  · rfl
  · rw [e] at h; cases h

set_option maxHeartbeats 1000000 in
theorem CritMeans_at (w : World) (ao : Option Addr) (n c : Nat) (f : Nat → Nat) (hn : n ≤ maxLen) (h : FlAt w ao n f) :
    Calls Try.prog 5 #[.slice ao n c] w fun e w' => e = .returned (.bool true) ∧ Same' w w' := by
  unfold maxLen at hn
  have W := hide works_at
  by_cases h1 : 1000 < n
  · have d1 : decide ((1000 : Int) < n) = true := by simp; omega
    clear h
    go_enter Try.func5, Try.ntmps5
    go_wp2_with (go_at_call 14; refine (W.out _).mono ?_; rintro e w1 ⟨rfl, hf⟩)
    go_ret
    exact ⟨rfl, hf⟩
  have d1 : decide ((1000 : Int) < n) = false := by simp; omega
  have HL := hide h
  cases hb : valB n f with
  | false =>
    have C1 := hide (Mean19_err c h hb)
    have C2 := hide (fun W (h : FlAt W ao n f) => Mean20_err (w := W) c h hb)
    have o0 : FloatKind.f64.format.order 0 0 = some .eq := by decide +kernel
    clear h hb
    go_enter Try.func5, Try.ntmps5
    go_wp2_with (first
      | (go_at_call 19; refine C1.out.mono ?_; clear C1; rintro e w1 ⟨rfl, hf1⟩)
      | (go_at_call 20; refine (C2.out _ (HL.out.keep hf1)).mono ?_; clear C2; rintro e w2 ⟨rfl, hf2⟩)
      | (go_at_call 14; refine (W.out _).mono ?_; rintro e w3 ⟨rfl, hf3⟩))
    go_ret
    exact ⟨rfl, (hf1.trans hf2).trans hf3⟩
  | true =>
    obtain ⟨a0, ha0, _⟩ := mean_bd hb
    obtain ⟨v0, hv0⟩ := var_bd hb
    have C1 := hide ((Mean19_ok c h hb).mono (R' := fun e w' => e = .returned (.tuple #[.float .f64 a0, .float .f64 v0, .int .i64 0]) ∧ Same' w w') (fun e w' ⟨a, v, h1, h2, h3, h4⟩ => by
      obtain rfl := cls_word (h2.trans ha0)
      obtain rfl := cls_word (h3.trans hv0)
      exact ⟨h1, h4⟩))
    have C2 := hide (fun W h => (Mean20_ok (w := W) (ao := ao) c h hb).mono (R' := fun e w' => e = .returned (.tuple #[.float .f64 a0, .float .f64 v0, .int .i64 0]) ∧ Same' W w') (fun e w' ⟨a, v, h1, h2, h3, h4⟩ => by
      obtain rfl := cls_word (h2.trans ha0)
      obtain rfl := cls_word (h3.trans hv0)
      exact ⟨h1, h4⟩))
    have na : isN a0 = false := by
      unfold mnC fop at ha0
      split at ha0
      · exact floatBits_ok ha0
      · cases ha0
    have nv : isN v0 = false := by
      unfold vrC fop at hv0
      split at hv0
      · exact floatBits_ok hv0
      · cases hv0
    have oa := ord_self na
    have ov := ord_self nv
    clear h hb ha0 hv0 na nv
    go_enter Try.func5, Try.ntmps5
    go_wp2_with (first
      | (go_at_call 19; refine C1.out.mono ?_; clear C1; rintro e w1 ⟨rfl, hf1⟩)
      | (go_at_call 20; refine (C2.out _ (HL.out.keep hf1)).mono ?_; clear C2; rintro e w2 ⟨rfl, hf2⟩)
      | (go_at_call 14; refine (W.out _).mono ?_; rintro e w3 ⟨rfl, hf3⟩))
    go_ret
    exact ⟨rfl, (hf1.trans hf2).trans hf3⟩
end Go.Proofs.Ytneidejngbokcaa

/- The walk of UndoCounts. -/
import Derived.Test.YtiaddgagncmbeaaW13
import Derived.Test.YtiaddgagncmbeaaZ
import Derived.Test.YtiaddgagncmbeaaQ
namespace Go.Proofs.Ytiaddgagncmbeaa
open Go.RowKit

theorem SetsS.size_in {L : Lay} {n : Nat} {S : St} {w : World} (hS : SetsS w L n S) (hO : S.Ok n) (hn : n ≤ 65536) {a : Nat} (ha : a < n) :
    Calls Try.prog 22 #[.pointer (some ⟨L.b, 0, none⟩), .int .i64 a] w fun e w' => e = .returned (.int .i64 (S.t.s (S.t.r a) : Nat)) ∧ Same' w w' := by
  obtain ⟨d, hF⟩ := hO.fo
  exact Size_in L n S.t.p S.t.s S.t.r d S.log w hS hF hn a ha

set_option maxRecDepth 100000 in
set_option maxHeartbeats 4000000 in
theorem UndoCounts_any (w : World) (v1 : Value) (n1 : Nat) (xs ys : Nat → Nat) (h1 : SlB w v1 n1 xs ys) (hm1 : n1 ≤ 9223372036854775807) :
    Calls Try.prog 6 #[v1] w fun e w' => e = .returned (.bool true) ∧ Same' w w' := by
  have H1 := hide h1
  obtain ⟨a1, c1, rfl, _⟩ := h1
  by_cases hs : n1 ≤ 100
  · have c := made_any w (.slice a1 n1 c1) n1 xs ys H1.out hs
    have C := hide c
    clear c
    go_enter Try.func6, Try.ntmps6
    go_wp2_with fail
    refine C.out.mono ?_
    clear C
    rintro e w1 ⟨L1, rfl, hS1, hf1, hmem⟩
    have hO1 : (St.zero.unis (bp xs ys n1)).Ok 50 := ((St.zero_ok 50).unis (bp_lt xs ys n1)).1
    obtain ⟨A, hA⟩ : ∃ A, A = St.zero.unis (bp xs ys n1) := ⟨_, rfl⟩
    rw [← hA] at hS1 hO1
    clear hA hmem
    obtain ⟨k, hk⟩ : ∃ k, A.log.length = k := ⟨_, rfl⟩
    have hk50 : k ≤ 50 := by have := hO1.loglen; omega
    have m1 := hS1.mark
    have ct1 := hS1.count hO1 (by omega)
    rw [hk] at m1 ct1
    have C1 := hide m1
    have C2 := hide ct1
    have HS1 := hide hS1
    have HO1 := hide hO1
    have HK := hide hk
    clear m1 ct1 hS1 hO1 hk
    go_wp2_with fail
    refine C1.out.mono ?_
    clear C1
    rintro e w' ⟨rfl, rfl⟩
    go_wp2_with fail
    refine C2.out.mono ?_
    clear C2
    rintro e w2 ⟨rfl, hf2⟩
    have c := (HS1.out.same hf2).labels HO1.out (by omega)
    have C := hide c
    have HF2 := hide (hf1.trans hf2)
    have HS2 := hide (HS1.out.same hf2)
    clear c hf1 hf2 HS1
    go_wp2_with fail
    refine C.out.mono ?_
    clear C
    rintro e w3 ⟨g, rfl, hg, _, hf3⟩
    have HG := hide hg
    have HS3 := hide (HS2.out.same hf3)
    have HF3 := hide (HF2.out.trans hf3)
    clear hg hf3 HF2 HS2
    go_wp2_with fail
    go_loopg [5, 6, 7] 50 (fun q sum sets i wr => ∃ j : Nat, q + j = 50 ∧ i = .int .i64 j ∧ sum = .int .i64 (smTo 50 A.t j : Nat) ∧ sets = .int .i64 (lsTo 50 A.t j : Nat) ∧ Same' w3 wr)
    case atStart => exact ⟨0, rfl, rfl, rfl, rfl, Fr.refl _ _⟩
    case round =>
      obtain ⟨j, hj, rfl, rfl, rfl, hfr⟩ := hrel
      have hsm : smTo 50 A.t j ≤ 50 := by
        have h := Built.sum HO1.out
        have h2 : smTo 50 A.t j ≤ smTo 50 A.t 50 := sumTo_mono (by omega)
        omega
      have hls : lsTo 50 A.t j ≤ j := cnt_le _ _
      by_cases hlt : j < 50
      · obtain ⟨l, hl⟩ : ∃ l, l = A.lab 50 j := ⟨_, rfl⟩
        have sp := lab_spec (n := 50) (r := A.t.r) hlt
        have hlj : l ≤ j := by rw [hl]; exact sp.2.1
        have hll : A.lab 50 l = l := by rw [hl]; exact lab_lab hlt
        have hrl : A.t.r l = A.t.r j := by rw [hl]; exact sp.1
        have hcell := HG.out.keep hfr (fun h => h)
        have q1 := hcell.num j hlt
        rw [← hl] at q1
        have q2 := hcell.num l (by omega)
        rw [hll] at q2
        have hl50 : l < 50 := by omega
        have HL := hide (And.intro hl (And.intro hll hrl))
        have HFR := hide hfr
        have HSR := hide (HS3.out.same hfr)
        clear sp hcell hl hll hrl
        have t1 : ((l : Int) != (l : Int)) = false := by simp
        have t2 : ¬ ((j : Int) < (l : Int)) := by omega
        have t2' : decide (j < l) = false := by simp; omega
        have t0' : decide ((l : Int) < 0) = false := by simp
        have k1 : ∀ x : Wd (fun _ => False) wr, x.w.cell? ⟨g, j, none⟩ = some (.int .i64 (l : Nat)) := fun x => (x.h.cell (block_lt_of_cell q1) (fun h => h)).trans q1
        have k2 : ∀ x : Wd (fun _ => False) wr, x.w.cell? ⟨g, l, none⟩ = some (.int .i64 (l : Nat)) := fun x => (x.h.cell (block_lt_of_cell q2) (fun h => h)).trans q2
        have C1 := hide (fun x : Wd (fun _ => False) wr => ((HSR.out.same x.h).same_in HO1.out (by omega) (a := j) (b := l) hlt hl50).mono (R' := fun e w' => e = .returned (.bool true) ∧ Same' x.w w') fun e w' h => ⟨h.1.trans (ret_bool (by simp [HL.out.2.2])), h.2⟩)
        have C2 := hide (fun x : Wd (fun _ => False) wr => (HSR.out.same x.h).size_in HO1.out (by omega) (a := j) hlt)
        have C3 := hide (fun x : Wd (fun _ => False) wr => ((HSR.out.same x.h).size_in HO1.out (by omega) (a := l) hl50).mono (R' := fun e w' => e = .returned (.int .i64 (A.t.s (A.t.r j) : Nat)) ∧ Same' x.w w') fun e w' h => ⟨h.1.trans (ret_nat (by rw [HL.out.2.2])), h.2⟩)
        go_wp2_with fail
        refine wp_region_wd (fun _ => False) wr (by kernel_rfl) (by kernel_rfl) (Fr.refl _ _) ?_
        repeat (go_big_quiet_step (first | (go_at_call 21; exact Wd.quiet (C1.out _)) | (go_at_call_of 22 (j : Int); exact Wd.quiet (C2.out _)) | (go_at_call_of 22 (l : Int); exact Wd.quiet (C3.out _))))
        refine wpQuiet_nil ?_
        rintro _ ⟨y, rfl⟩
        have q := k1 y
        have c := C2.out y
        have C := hide c
        clear C1 C2 C3 k1 k2 q1 q2 c t1 t2 t2' t0'
        by_cases e : l = j
        · have HE := hide e
          have t3 : ((l : Int) == (j : Int)) = true := by rw [e]; simp
          clear e
          have hs0 : smTo 50 A.t (j + 1) = smTo 50 A.t j + A.t.s (A.t.r j) := by
            rw [smTo_succ, if_pos]
            have := HL.out.1
            rw [HE.out] at this
            exact this.symm
          have hl0 : lsTo 50 A.t (j + 1) = lsTo 50 A.t j + 1 := by
            unfold lsTo
            simp only [cnt]
            have := HL.out.1
            rw [HE.out] at this
            have h' : lab 50 A.t.r j = j := this.symm
            simp [h']
          have hs1 : smTo 50 A.t (j + 1) ≤ 50 := by
            have h := Built.sum HO1.out
            have h2 : smTo 50 A.t (j + 1) ≤ smTo 50 A.t 50 := sumTo_mono (by omega)
            omega
          obtain ⟨z, hz⟩ : ∃ z, z = A.t.s (A.t.r j) := ⟨_, rfl⟩
          rw [← hz] at hs0 C
          have hz50 : z ≤ 50 := by omega
          have HS0 := hide (And.intro hs0 (And.intro hl0 hs1))
          clear hs0 hl0 hs1 hz
          go_wp2_with (go_at_call 22; refine C.out.mono ?_; rintro e w' ⟨rfl, hf'⟩)
          go_roundg (50 - (j + 1))
          case measure => omega
          case rel =>
            refine ⟨j + 1, by omega, by go_num, ?_, ?_, (HFR.out.trans y.h).trans hf'⟩
            · rw [HS0.out.1]; go_num
            · rw [HS0.out.2.1]; go_num
        · have HE := hide e
          have t3 : ((l : Int) == (j : Int)) = false := by simp; omega
          clear e
          go_wp2
          go_roundg (50 - (j + 1))
          case measure => omega
          case rel =>
            have hne : ¬ lab 50 A.t.r j = j := fun h => HE.out (HL.out.1.trans h)
            refine ⟨j + 1, by omega, by go_num, ?_, ?_, HFR.out.trans y.h⟩
            · rw [smTo_succ, if_neg hne]; rfl
            · unfold lsTo; simp only [cnt]; simp [hne]
      · have hj50 : j = 50 := by omega
        subst hj50
        have hsum : smTo 50 A.t 50 = 50 := Built.sum HO1.out
        have hlea : lsTo 50 A.t 50 + k = 50 := by
          have := Built.leasts HO1.out
          rw [HK.out] at this
          exact this
        have c := (HS3.out.same hfr).count HO1.out (by omega)
        rw [HK.out] at c
        have C := hide c
        have HFR := hide hfr
        clear c hfr
        rw [hsum]
        have t1 : ((lsTo 50 A.t 50 : Int) == 50 - (k : Int)) = true := by simp; omega
        clear hsum
        go_wp2_with (first | (go_at_call 14; refine C.out.mono ?_; rintro e w' ⟨rfl, hf'⟩) | (go_at_call 10; refine (works_any _).mono ?_; rintro e w12 ⟨rfl, hf12⟩))
        go_ret
        exact ⟨rfl, ((HF3.out.trans HFR.out).trans hf').trans hf12⟩
  · have hs' : 100 < n1 := by omega
    clear hs
    go_enter Try.func6, Try.ntmps6
    go_wp2_with (go_at_call 10; refine (works_any _).mono ?_; rintro e w12 ⟨rfl, hf12⟩)
    go_ret
    exact ⟨rfl, hf12⟩

end Go.Proofs.Ytiaddgagncmbeaa

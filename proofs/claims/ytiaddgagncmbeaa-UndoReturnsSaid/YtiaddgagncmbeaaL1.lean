/- The walk of UndoReturns. -/
import Derived.Test.YtiaddgagncmbeaaW13
namespace Go.Proofs.Ytiaddgagncmbeaa
open Go.RowKit

theorem RowV.mv {w w' : World} {L L' : Lay} {g : Nat} {t : TypeId} {cap n : Nat} {f : Nat → Value} (h : RowV w g t cap n f) (hm : Mv w w' L L') (hg : ¬ L.mem g) : RowV w' g t cap n f := h.keep hm.fr hg

theorem not_mem_new {w w' : World} {L : Lay} {n : Nat} {S : St} {g : Nat} (h : SetsS w L n S) (hf : w.heap.size ≤ w'.heap.size) (hg : w'.heap.size ≤ g) : ¬ L.mem g := fun hm => by
  have := SetsAt.memlt h g hm
  omega

theorem lab_zero {i : Nat} (hi : i < 50) : St.zero.lab 50 i = i := lab_id hi

set_option maxHeartbeats 4000000 in
theorem UndoReturns_any (w : World) (v1 v2 : Value) (n1 n2 : Nat) (xs1 ys1 xs2 ys2 : Nat → Nat) (h1 : SlB w v1 n1 xs1 ys1) (h2 : SlB w v2 n2 xs2 ys2) (hm1 : n1 ≤ 9223372036854775807) (hm2 : n2 ≤ 9223372036854775807) :
    Calls Try.prog 3 #[v1, v2] w fun e w' => e = .returned (.bool true) ∧ Same' w w' := by
  have H1 := hide h1
  have H2 := hide h2
  obtain ⟨a1, c1, rfl, _⟩ := h1
  obtain ⟨a2, c2, rfl, _⟩ := h2
  by_cases hs : n1 ≤ 100 ∧ n2 ≤ 100
  · obtain ⟨hs1, hs2⟩ := hs
    have c := made_any w (.slice a1 n1 c1) n1 xs1 ys1 H1.out hs1
    have C := hide c
    clear c
    go_enter Try.func3, Try.ntmps3
    go_wp2_with fail
    refine C.out.mono ?_
    clear C
    rintro e w1 ⟨L1, rfl, hS1, hf1, hmem⟩
    have hO1 : (St.zero.unis (bp xs1 ys1 n1)).Ok 50 := ((St.zero_ok 50).unis (bp_lt xs1 ys1 n1)).1
    have hP1 : St.Pre St.zero (St.zero.unis (bp xs1 ys1 n1)) := ((St.zero_ok 50).unis (bp_lt xs1 ys1 n1)).2
    obtain ⟨A, hA⟩ : ∃ A, A = St.zero.unis (bp xs1 ys1 n1) := ⟨_, rfl⟩
    rw [← hA] at hS1 hO1 hP1
    clear hA
    obtain ⟨b, hb⟩ : ∃ b, L1.b = b := ⟨_, rfl⟩
    obtain ⟨k, hk⟩ : ∃ k, A.log.length = k := ⟨_, rfl⟩
    rw [hb]
    have m1 := hS1.mark
    have l1 := hS1.labels hO1 (by omega)
    rw [hb] at m1 l1
    rw [hk] at m1
    have HM := hide m1
    have HL := hide l1
    have HS1 := hide hS1
    have HO1 := hide (And.intro hO1 hP1)
    have HB := hide (And.intro hb hk)
    have HMEM := hide hmem
    clear m1 l1 hS1 hO1 hP1 hb hk hmem
    go_wp2_with fail
    refine HM.out.mono ?_
    clear HM
    rintro e w' ⟨rfl, rfl⟩
    go_wp2_with fail
    refine HL.out.mono ?_
    clear HL
    rintro e w2 ⟨g, rfl, hg, hgn, hf2⟩
    have hS2 := HS1.out.same hf2
    have c := hS2.count HO1.out.1 (by omega)
    rw [HB.out.1, HB.out.2] at c
    have C := hide c
    have HG := hide (And.intro hg hgn)
    have HS2 := hide hS2
    have HF2 := hide hf2
    clear c hg hgn hS2 hf2
    go_wp2_with fail
    refine C.out.mono ?_
    clear C
    rintro e w3 ⟨rfl, hf3⟩
    have hf13 : Same' w w3 := (hf1.trans HF2.out).trans hf3
    have hS3 := HS2.out.same hf3
    have hSl : SlB w3 (.slice a2 n2 c2) n2 xs2 ys2 := H2.out.keep hf13 (fun _ _ _ h => h)
    have c := add_any hS3 HO1.out.1 (.slice a2 n2 c2) n2 xs2 ys2 hSl hs2 (fun h0 k hk hm => by have := HMEM.out k hm; have := H2.out.lt h0 k hk; omega)
    rw [HB.out.1] at c
    have hG3 := HG.out.1.keep hf3 (fun h => h)
    have hGn : ¬ L1.mem g := not_mem_new HS1.out (Nat.le_refl _) HG.out.2
    have C := hide c
    have HG3 := hide (And.intro hG3 hGn)
    have HF := hide hf13
    clear c HG HS2 HF2 hf3 hf13 hS3 hSl hG3 hGn HS1 hf1
    go_wp2_with fail
    refine C.out.mono ?_
    clear C
    rintro e w4 ⟨rfl, L2, hS4, hv4⟩
    have hO4 := HO1.out.1.unis (bp_lt xs2 ys2 n2)
    have hG4 := HG3.out.1.mv hv4 HG3.out.2
    have hGn4 : ¬ L2.mem g := by
      intro h
      rcases hv4.mem g h with h | h
      · exact HG3.out.2 h
      · have := HG3.out.1.lt
        omega
    have c := hS4.undo hO4.1 (by omega) hO4.2.1
    rw [hO4.2.2, hv4.b, HB.out.1, HB.out.2] at c
    have C := hide c
    have HG4 := hide (And.intro hG4 hGn4)
    have HV4 := hide hv4
    clear c hS4 hO4 hG4 hGn4 HG3 hv4
    go_wp2_with fail
    refine C.out.mono ?_
    clear C
    rintro e w5 ⟨rfl, hS5, hv5⟩
    have hG5 := HG4.out.1.mv hv5 HG4.out.2
    have hm5 := hS5.mark
    have hc5 := hS5.count HO1.out.1 (by omega)
    rw [HV4.out.b, HB.out.1, HB.out.2] at hm5 hc5
    have C1 := hide hm5
    have C2 := hide hc5
    have HG5 := hide hG5
    have HS5 := hide hS5
    have HV5 := hide (HV4.out.trans hv5)
    clear hm5 hc5 hG5 hS5 hv5 HG4
    go_wp2_with fail
    refine C1.out.mono ?_
    clear C1
    rintro e w' ⟨rfl, rfl⟩
    go_wp2_with fail
    refine C2.out.mono ?_
    clear C2
    rintro e w6 ⟨rfl, hf6⟩
    have c := (HS5.out.same hf6).labels HO1.out.1 (by omega)
    rw [HV4.out.b, HB.out.1] at c
    have C := hide c
    have HF6 := hide hf6
    clear c hf6
    go_wp2_with fail
    refine C.out.mono ?_
    clear C
    rintro e w7 ⟨g2, rfl, hg2, _, hf7⟩
    have hf57 := HF6.out.trans hf7
    have c := same_eq w7 (.slice (some ⟨g2, 0, none⟩) 50 50) (.slice (some ⟨g, 0, none⟩) 50 50) 50 _ _ (hg2.sl 50) ((HG5.out.keep hf57 (fun h => h)).sl 50) (by omega)
    rw [show eqTo 50 (fun i => ((A.lab 50 i : Nat) : Int)) (fun i => ((A.lab 50 i : Nat) : Int)) = true from by simp [eqTo]] at c
    have C := hide c
    have HF57 := hide hf57
    clear c hg2 hf7 hf57 HF6 HG5
    go_wp2_with fail
    refine C.out.mono ?_
    clear C
    rintro e w8 ⟨rfl, hf8⟩
    have hS8 := HS5.out.same (HF57.out.trans hf8)
    have hP8 := HO1.out.2
    have c : Calls Try.prog 16 #[.pointer (some ⟨L2.b, 0, none⟩), .int .i64 0] w8 _ := hS8.undo HO1.out.1 (by omega) (m := 0) (Nat.zero_le _)
    rw [show A.back 0 = St.zero from hP8.2, HV4.out.b, HB.out.1] at c
    have C := hide c
    have HV8 := hide (HV5.out.then (HF57.out.trans hf8))
    clear c hS8 hP8 hf8 HF57 HV5 HS5
    go_wp2_with fail
    refine C.out.mono ?_
    clear C
    rintro e w9 ⟨rfl, hS9, hv9⟩
    have c1 := hS9.count (St.zero_ok 50) (by omega)
    rw [HV4.out.b, HB.out.1, show (((50 : Nat) : Int) - (St.zero.log.length : Nat)) = 50 from by decide] at c1
    have C1 := hide c1
    have HV9 := hide (HV8.out.trans hv9)
    have HS9 := hide hS9
    clear c1 hv9 HV8 hS9
    go_wp2_with fail
    refine C1.out.mono ?_
    clear C1
    rintro e w10 ⟨rfl, hf10⟩
    have hS10 := HS9.out.same hf10
    have c1 := hS10.mark
    have c2 := hS10.labels (St.zero_ok 50) (by omega)
    rw [HV4.out.b, HB.out.1] at c1 c2
    rw [show ((St.zero.log.length : Nat) : Int) = 0 from by decide] at c1
    have C1 := hide c1
    have C2 := hide c2
    have HV10 := hide (HV9.out.then hf10)
    clear c1 c2 hS10 hf10 HV9 HS9
    go_wp2_with fail
    refine C1.out.mono ?_
    clear C1
    rintro e w' ⟨rfl, rfl⟩
    go_wp2_with fail
    refine C2.out.mono ?_
    clear C2
    rintro e w11 ⟨g3, rfl, hg3, hgn3, hf11⟩
    have hv11 := HV10.out.then hf11
    have HV11 := hide hv11
    have HG3 := hide hg3
    clear hv11 hg3 hgn3 hf11 HV10
    go_wp2_with fail
    go_loopg [10] 50 (fun q i wr => ∃ j : Nat, q + j = 50 ∧ i = .int .i64 j ∧ w11 = wr)
    case atStart => exact ⟨0, rfl, rfl, rfl⟩
    case round =>
      obtain ⟨j, hj, rfl, rfl⟩ := hrel
      by_cases hlt : j < 50
      · have q := HG3.out.num j hlt
        rw [lab_zero hlt] at q
        go_wp2
        go_roundg (50 - (j + 1))
        case measure => omega
        case rel => exact ⟨j + 1, by omega, by go_num, rfl⟩
      · have hj50 : j = 50 := by omega
        subst hj50
        go_wp2_with (go_at_call 10; refine (works_any _).mono ?_; rintro e w12 ⟨rfl, hf12⟩)
        go_ret
        refine ⟨rfl, (HF.out.trans' HV11.out.fr ?_).trans hf12⟩
        intro k hk hm
        have := HMEM.out k hm
        omega
  · have hs' : 100 < n1 ∨ 100 < n2 := by omega
    clear hs
    rcases hs' with hs | hs
    · go_enter Try.func3, Try.ntmps3
      go_wp2_with (go_at_call 10; refine (works_any _).mono ?_; rintro e w12 ⟨rfl, hf12⟩)
      go_ret
      exact ⟨rfl, hf12⟩
    · by_cases h1 : n1 ≤ 100
      · go_enter Try.func3, Try.ntmps3
        go_wp2_with (go_at_call 10; refine (works_any _).mono ?_; rintro e w12 ⟨rfl, hf12⟩)
        go_ret
        exact ⟨rfl, hf12⟩
      · have h1' : 100 < n1 := by omega
        clear h1
        go_enter Try.func3, Try.ntmps3
        go_wp2_with (go_at_call 10; refine (works_any _).mono ?_; rintro e w12 ⟨rfl, hf12⟩)
        go_ret
        exact ⟨rfl, hf12⟩

end Go.Proofs.Ytiaddgagncmbeaa

/- The walks of the laws' helpers: works. -/
import Derived.Test.YtiaddgagncmbeaaW10
namespace Go.Proofs.Ytiaddgagncmbeaa
open Go.RowKit

/-- What New returns, over states. -/
theorem New_S (n : Nat) (hn : n ≤ 65536) (w : World) :
    Calls Try.prog 18 #[.int .i64 n] w fun e w' => ∃ L : Lay, e = .returned (.tuple #[.pointer (some ⟨L.b, 0, none⟩), .int .i64 0]) ∧
      SetsS w' L n St.zero ∧ Same' w w' ∧ ∀ k, L.mem k → w.heap.size ≤ k := New_in n hn w

theorem SetsS.same_in {L : Lay} {n : Nat} {S : St} {w : World} (hS : SetsS w L n S) (hO : S.Ok n) (hn : n ≤ 65536) {a b : Nat} (ha : a < n) (hb : b < n) :
    Calls Try.prog 21 #[.pointer (some ⟨L.b, 0, none⟩), .int .i64 a, .int .i64 b] w fun e w' => e = .returned (.bool (decide (S.t.r a = S.t.r b))) ∧ Same' w w' := by
  obtain ⟨d, hF⟩ := hO.fo
  exact Same_in L n S.t.p S.t.s S.t.r d S.log w hS hF hn a b ha hb

def S1 : St := St.zero.uni 3 1
def S2 : St := S1.uni 1 3
def S3 : St := S2.uni 4 3

theorem S1_ok : S1.Ok 5 := (St.zero_ok 5).uni (by decide) (by decide)
theorem S2_ok : S2.Ok 5 := S1_ok.uni (by decide) (by decide)
theorem S3_ok : S3.Ok 5 := S2_ok.uni (by decide) (by decide)

def exA (i : Nat) : Int := if i = 0 then 0 else if i = 1 then 2 else 0
def exB (i : Nat) : Int := if i = 0 then 2 else if i = 1 then 0 else 4

theorem ex_trial : trialV 5 S3 3 exA exB = .tuple #[.agg #[.int .i64 5, .int .i64 1, .int .i64 25], .int .i64 0] := by
  have h : allIn2 5 3 exA exB = true := by decide
  unfold trialV
  rw [if_pos h]
  rfl

set_option maxHeartbeats 2000000 in
theorem works_any (w : World) : Calls Try.prog 10 #[] w fun e w' => e = .returned (.bool true) ∧ Same' w w' := by
  have c1 : Calls Try.prog 18 #[.int .i64 5] w _ := New_S 5 (by omega) w
  go_enter Try.func10, Try.ntmps10
  go_wp2_with fail
  refine c1.mono ?_
  clear c1
  rintro e w1 ⟨L, rfl, hS1, hf1, hm1⟩
  obtain ⟨b, hb⟩ : ∃ b, L.b = b := ⟨_, rfl⟩
  have HB := hide hb
  rw [hb]
  have HM := hide hm1
  clear hb hm1
  have c : Calls Try.prog 23 #[.pointer (some ⟨L.b, 0, none⟩), .int .i64 3, .int .i64 1] w1 _ := hS1.union (St.zero_ok 5) (by omega) (a := 3) (b := 1) (by omega) (by omega)
  rw [HB.out, show decide ((St.zero).t.r 3 ≠ (St.zero).t.r 1) = true from by decide] at c
  have C := hide c
  clear c
  go_wp2_with fail
  refine C.out.mono ?_
  clear C
  rintro e w2 ⟨rfl, L2, hS2, hv2⟩
  replace hS2 : SetsS w2 L2 5 S1 := hS2
  have c : Calls Try.prog 23 #[.pointer (some ⟨L2.b, 0, none⟩), .int .i64 1, .int .i64 3] w2 _ := hS2.union S1_ok (by omega) (a := 1) (b := 3) (by omega) (by omega)
  rw [hv2.b, HB.out, show decide ((S1).t.r 1 ≠ (S1).t.r 3) = false from by decide] at c
  have C := hide c
  clear c
  go_wp2_with fail
  refine C.out.mono ?_
  clear C
  rintro e w3 ⟨rfl, L3, hS3, hv3⟩
  replace hS3 : SetsS w3 L3 5 S2 := hS3
  have c : Calls Try.prog 23 #[.pointer (some ⟨L3.b, 0, none⟩), .int .i64 4, .int .i64 3] w3 _ := hS3.union S2_ok (by omega) (a := 4) (b := 3) (by omega) (by omega)
  rw [hv3.b, hv2.b, HB.out, show decide ((S2).t.r 4 ≠ (S2).t.r 3) = true from by decide] at c
  have C := hide c
  clear c
  go_wp2_with fail
  refine C.out.mono ?_
  clear C
  rintro e w4 ⟨rfl, L4, hS4, hv4⟩
  replace hS4 : SetsS w4 L4 5 S3 := hS4
  have hv : Mv w1 w4 L L4 := (hv2.trans hv3).trans hv4
  have hS4' : SetsS (w4.alloc (.cells #[.int .i64 0, .int .i64 2, .int .i64 2, .int .i64 0, .int .i64 0, .int .i64 4] 62)) L4 5 S3 := hS4.same ((Fr.refl _ w4).alloc _)
  have c : Calls Try.prog 26 #[.pointer (some ⟨L4.b, 0, none⟩), .slice (some ⟨w4.heap.size, 0, none⟩) 3 3] (w4.alloc (.cells #[.int .i64 0, .int .i64 2, .int .i64 2, .int .i64 0, .int .i64 0, .int .i64 4] 62)) _ :=
    Trial_at hS4' S3_ok (by omega) (some ⟨w4.heap.size, 0, none⟩) 3 3 exA exB (by omega) (fun _ => ⟨w4.heap.size, 0, rfl, fun h => by have := SetsAt.memlt hS4 _ h; omega, fun i hi => by
      match i, hi with
      | 0, _ => exact ⟨World.cell?_alloc_new w4 _ 62 0, World.cell?_alloc_new w4 _ 62 1⟩
      | 1, _ => exact ⟨World.cell?_alloc_new w4 _ 62 2, World.cell?_alloc_new w4 _ 62 3⟩
      | 2, _ => exact ⟨World.cell?_alloc_new w4 _ 62 4, World.cell?_alloc_new w4 _ 62 5⟩⟩)
  rw [ex_trial, hv.b, HB.out] at c
  have C := hide c
  clear c hS4'
  have HV := hide hv
  clear hv hv2 hv3 hv4 hS1 hS2 hS3
  go_wp2_with fail
  refine C.out.mono ?_
  clear C
  rintro e w5 ⟨rfl, L5, hS5, hv5⟩
  have hv : Mv w1 w5 L L5 := HV.out.trans (hv5.from ((Fr.refl _ w4).alloc _))
  clear HV hS4 hv5
  have HV := hide hv
  clear hv
  have hal : Same' w5 (w5.alloc (.cells #[.int .i64 5, .int .i64 1, .int .i64 25] 52)) := (Fr.refl _ w5).alloc _
  have hS6 : SetsS (w5.alloc (.cells #[.int .i64 5, .int .i64 1, .int .i64 25] 52)) L5 5 S3 := hS5.same hal
  have c : Calls Try.prog 16 #[.pointer (some ⟨L5.b, 0, none⟩), .int .i64 3] (w5.alloc (.cells #[.int .i64 5, .int .i64 1, .int .i64 25] 52)) _ := Undo_out L5 5 _ _ S3.log _ hS6 3 (.inr (by decide))
  have c' : Calls Try.prog 16 #[.pointer (some ⟨L5.b, 0, none⟩), .int .i64 1] (w5.alloc (.cells #[.int .i64 5, .int .i64 1, .int .i64 25] 52)) _ := hS6.undo S3_ok (by omega) (m := 1) (by decide)
  rw [HV.out.b, HB.out] at c c'
  have C := hide c
  have C' := hide c'
  have HAL := hide (HV.out.then hal)
  clear c c' hS5 hS6 hal HV
  go_wp2_with fail
  refine C.out.mono ?_
  clear C
  rintro e w6 ⟨rfl, rfl⟩
  go_wp2_with fail
  refine C'.out.mono ?_
  clear C'
  rintro e w7 ⟨rfl, hS7, hv7⟩
  have hv : Mv w1 w7 L L5 := HAL.out.trans hv7
  have c : Calls Try.prog 12 #[.pointer (some ⟨L5.b, 0, none⟩)] w7 _ := hS7.mark
  rw [hv.b, HB.out, show (S3.back 1).log.length = 1 from by decide] at c
  have c' : Calls Try.prog 21 #[.pointer (some ⟨L5.b, 0, none⟩), .int .i64 1, .int .i64 3] w7 _ := hS7.same_in (S3_ok.back (m := 1) (by decide)) (by omega) (a := 1) (b := 3) (by omega) (by omega)
  rw [hv.b, HB.out, show decide ((S3.back 1).t.r 1 = (S3.back 1).t.r 3) = true from by decide] at c'
  have C := hide c
  have C' := hide c'
  have HS7 := hide hS7
  have HV := hide hv
  clear c c' hS7 hv hv7 HAL
  go_wp2_with fail
  refine C.out.mono ?_
  clear C
  rintro e w8 ⟨rfl, rfl⟩
  go_wp2_with fail
  refine C'.out.mono ?_
  clear C'
  rintro e w8 ⟨rfl, hf8⟩
  have c : Calls Try.prog 21 #[.pointer (some ⟨L5.b, 0, none⟩), .int .i64 3, .int .i64 4] w8 _ := (HS7.out.same hf8).same_in (S3_ok.back (m := 1) (by decide)) (by omega) (a := 3) (b := 4) (by omega) (by omega)
  rw [HV.out.b, HB.out, show decide ((S3.back 1).t.r 3 = (S3.back 1).t.r 4) = false from by decide] at c
  have C := hide c
  clear c
  go_wp2_with fail
  refine C.out.mono ?_
  clear C
  rintro e w9 ⟨rfl, hf9⟩
  go_wp2
  go_ret
  refine ⟨rfl, ((hf1.trans' (HV.out.fr) ?_).trans hf8).trans hf9⟩
  intro k hk hm
  have := HM.out k hm
  omega

end Go.Proofs.Ytiaddgagncmbeaa

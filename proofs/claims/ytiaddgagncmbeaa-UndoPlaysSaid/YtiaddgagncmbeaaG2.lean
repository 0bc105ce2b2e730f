/- The walk of agree: the program's sets and the document's show the same. -/
import Derived.Test.YtiaddgagncmbeaaG1
import Derived.Test.YtiaddgagncmbeaaN1
namespace Go.Proofs.Ytiaddgagncmbeaa
open Go.RowKit

def sameV (n : Nat) (S : St) (a b : Int) : Bool := in2 n a b && decide (S.t.r a.toNat = S.t.r b.toNat)
def sizeV (n : Nat) (S : St) (a : Int) : Nat := if in1 n a then S.t.s (S.t.r a.toNat) else 0

theorem in1_nat {n : Nat} {a : Int} (h : in1 n a = true) : ∃ x : Nat, a = x ∧ x < n := by
  unfold in1 at h
  simp only [decide_eq_true_eq] at h
  exact ⟨a.toNat, by omega, by omega⟩

theorem in2_nat {n : Nat} {a b : Int} (h : in2 n a b = true) : ∃ x y : Nat, a = x ∧ b = y ∧ x < n ∧ y < n := by
  rw [in2_split] at h
  simp only [Bool.and_eq_true] at h
  obtain ⟨x, hx, hx'⟩ := in1_nat h.1
  obtain ⟨y, hy, hy'⟩ := in1_nat h.2
  exact ⟨x, y, hx, hy, hx', hy'⟩

section
variable {L : Lay} {n : Nat} {S : St} {w : World} {M : Nat → Prop} {b : Nat}

theorem SetsS.same_any (hS : SetsS w L n S) (hO : S.Ok n) (hn : n ≤ 65536) (x y : Int) :
    Calls Try.prog 21 #[.pointer (some ⟨L.b, 0, none⟩), .int .i64 x, .int .i64 y] w fun e w' => e = .returned (.bool (sameV n S x y)) ∧ Same' w w' := by
  by_cases h : in2 n x y = true
  · obtain ⟨a, c, rfl, rfl, ha, hc⟩ := in2_nat h
    refine (hS.same_in hO hn ha hc).mono ?_
    rintro e w' ⟨rfl, hf⟩
    exact ⟨ret_bool (by unfold sameV; rw [h]; rfl), hf⟩
  · have h := Bool.eq_false_iff.2 h
    refine (Same_out L n _ _ S.log w hS hn x y h).mono ?_
    rintro e w' ⟨rfl, hf⟩
    exact ⟨ret_bool (by unfold sameV; rw [h]; rfl), hf⟩

theorem RefAt.same_any (hR : RefAt M w b n S) (hn : n ≤ 65536) (x y : Int) :
    Calls Try.prog 33 #[.pointer (some ⟨b, 0, none⟩), .int .i64 x, .int .i64 y] w fun e w' => e = .returned (.bool (sameV n S x y)) ∧ Same' w w' := by
  obtain ⟨v, ap, cp, vs, hR⟩ := hR
  by_cases h : in2 n x y = true
  · obtain ⟨a, c, rfl, rfl, ha, hc⟩ := in2_nat h
    refine (RSame_in hR hn a c ha hc).mono ?_
    rintro e w' ⟨rfl, hf⟩
    refine ⟨ret_bool ?_, hf⟩
    unfold sameV
    rw [h, Bool.true_and, decide_eq_decide]
    exact lab_eq_iff ha hc
  · have h := Bool.eq_false_iff.2 h
    refine (RSame_out hR hn x y h).mono ?_
    rintro e w' ⟨rfl, hf⟩
    exact ⟨ret_bool (by unfold sameV; rw [h]; rfl), hf⟩

theorem SetsS.size_any (hS : SetsS w L n S) (hO : S.Ok n) (hn : n ≤ 65536) (x : Int) :
    Calls Try.prog 22 #[.pointer (some ⟨L.b, 0, none⟩), .int .i64 x] w fun e w' => e = .returned (.int .i64 (sizeV n S x : Nat)) ∧ Same' w w' := by
  by_cases h : in1 n x = true
  · obtain ⟨a, rfl, ha⟩ := in1_nat h
    refine (hS.size_in hO hn ha).mono ?_
    rintro e w' ⟨rfl, hf⟩
    exact ⟨ret_nat (by unfold sizeV; rw [h]; rfl), hf⟩
  · have h := Bool.eq_false_iff.2 h
    refine (Size_out L n _ _ S.log w hS hn x h).mono ?_
    rintro e w' ⟨rfl, hf⟩
    exact ⟨ret_nat (a := 0) (by unfold sizeV; rw [h]; rfl), hf⟩

theorem RefAt.size_any (hR : RefAt M w b n S) (hO : S.Ok n) (hn : n ≤ 65536) (x : Int) :
    Calls Try.prog 34 #[.pointer (some ⟨b, 0, none⟩), .int .i64 x] w fun e w' => e = .returned (.int .i64 (sizeV n S x : Nat)) ∧ Same' w w' := by
  obtain ⟨v, ap, cp, vs, hR⟩ := hR
  by_cases h : in1 n x = true
  · obtain ⟨a, rfl, ha⟩ := in1_nat h
    refine (RSize_in hR hn a ha).mono ?_
    rintro e w' ⟨rfl, hf⟩
    exact ⟨ret_nat (by unfold sizeV; rw [h, hO.size_lab ha]; rfl), hf⟩
  · have h := Bool.eq_false_iff.2 h
    refine (RSize_out hR hn x h).mono ?_
    rintro e w' ⟨rfl, hf⟩
    exact ⟨ret_nat (a := 0) (by unfold sizeV; rw [h]; rfl), hf⟩

theorem SetsS.count_nat (hS : SetsS w L n S) (hO : S.Ok n) (hn : n ≤ 65536) :
    Calls Try.prog 14 #[.pointer (some ⟨L.b, 0, none⟩)] w fun e w' => e = .returned (.int .i64 ((n - S.log.length : Nat) : Int)) ∧ Same' w w' := by
  refine (hS.count hO hn).mono ?_
  rintro e w' ⟨rfl, hf⟩
  exact ⟨ret_int (by have := hO.loglen; omega), hf⟩

theorem RefAt.count_nat (hR : RefAt M w b n S) (hO : S.Ok n) (hn : n ≤ 65536) :
    Calls Try.prog 35 #[.pointer (some ⟨b, 0, none⟩)] w fun e w' => e = .returned (.int .i64 ((n - S.log.length : Nat) : Int)) ∧ Same' w w' := by
  obtain ⟨v, ap, cp, vs, hR⟩ := hR
  refine (RCount_at hR hn).mono ?_
  rintro e w' ⟨rfl, hf⟩
  exact ⟨ret_nat hO.rC_eq, hf⟩

theorem RefAt.mark (hR : RefAt M w b n S) : Calls Try.prog 36 #[.pointer (some ⟨b, 0, none⟩)] w fun e w' => e = .returned (.int .i64 (S.log.length : Nat)) ∧ w = w' := by
  obtain ⟨v, ap, cp, vs, hR⟩ := hR
  exact RMark_at hR

theorem RefAt.labels (hR : RefAt M w b n S) (hn : n ≤ 65536) : Calls Try.prog 37 #[.pointer (some ⟨b, 0, none⟩)] w fun e w' => ∃ u, e = .returned u ∧ Sl w' u n (fun i => (S.lab n i : Int)) ∧ Same' w w' := by
  obtain ⟨v, ap, cp, vs, hR⟩ := hR
  exact RLabels_at hR hn

theorem eqTo_self (n : Nat) (f : Nat → Int) : eqTo n f f = true := by unfold eqTo; simp

set_option maxHeartbeats 1000000 in
theorem agree_at (hS : SetsS w L n S) (hR : RefAt M w b n S) (hO : S.Ok n) (hn : n ≤ 65536) (x y : Int) :
    Calls Try.prog 20 #[.pointer (some ⟨L.b, 0, none⟩), .pointer (some ⟨b, 0, none⟩), .int .i64 x, .int .i64 y] w fun e w' => e = .returned (.bool true) ∧ Same' w w' := by
  have HS := hide hS
  have HR := hide hR
  have HO := hide hO
  clear hS hR hO
  obtain ⟨s, hs⟩ : ∃ s, sameV n S x y = s := ⟨_, rfl⟩
  obtain ⟨z, hz⟩ : ∃ z, sizeV n S x = z := ⟨_, rfl⟩
  have HSV := hide hs
  have HZV := hide hz
  clear hs hz
  have C := hide (HSV.out ▸ HS.out.same_any HO.out hn x y)
  go_enter Try.func20, Try.ntmps20
  go_wp2_with fail
  refine C.out.mono ?_
  clear C
  rintro e w1 ⟨rfl, hf⟩
  have F := hide hf
  clear hf
  have C := hide (HSV.out ▸ (HR.out.same F.out).same_any hn x y)
  go_wp2_with fail
  refine C.out.mono ?_
  clear C
  rintro e w2 ⟨rfl, hf⟩
  have F' := hide (F.out.trans hf)
  clear hf F
  have C := hide (HZV.out ▸ (HS.out.same F'.out).size_any HO.out hn x)
  go_wp2_with fail
  refine C.out.mono ?_
  clear C
  rintro e w3 ⟨rfl, hf⟩
  have F := hide (F'.out.trans hf)
  clear hf F'
  have C := hide (HZV.out ▸ (HR.out.same F.out).size_any HO.out hn x)
  go_wp2_with fail
  refine C.out.mono ?_
  clear C
  rintro e w4 ⟨rfl, hf⟩
  have F' := hide (F.out.trans hf)
  clear hf F
  obtain ⟨q, hq⟩ : ∃ q, n - S.log.length = q := ⟨_, rfl⟩
  have HQ := hide hq
  clear hq
  have C := hide (HQ.out ▸ (HS.out.same F'.out).count_nat HO.out hn)
  go_wp2_with fail
  refine C.out.mono ?_
  clear C
  rintro e w5 ⟨rfl, hf⟩
  have F := hide (F'.out.trans hf)
  clear hf F'
  have C := hide (HQ.out ▸ (HR.out.same F.out).count_nat HO.out hn)
  go_wp2_with fail
  refine C.out.mono ?_
  clear C
  rintro e w6 ⟨rfl, hf⟩
  have F' := hide (F.out.trans hf)
  clear hf F
  have C := hide (HS.out.same F'.out).mark
  go_wp2_with fail
  refine C.out.mono ?_
  clear C
  rintro e w6' ⟨rfl, rfl⟩
  have C := hide (HR.out.same F'.out).mark
  go_wp2_with fail
  refine C.out.mono ?_
  clear C
  rintro e w6' ⟨rfl, rfl⟩
  have C := hide ((HS.out.same F'.out).labels HO.out hn)
  go_wp2_with fail
  refine C.out.mono ?_
  clear C
  rintro e w7 ⟨g, rfl, hg, _, hf⟩
  have F := hide (F'.out.trans hf)
  have HG := hide (hg.sl n)
  clear hf F' hg
  have C := hide ((HR.out.same F.out).labels hn)
  go_wp2_with fail
  refine C.out.mono ?_
  clear C
  rintro e w8 ⟨u, rfl, hu, hf⟩
  have F' := hide (F.out.trans hf)
  have C := hide (eqTo_self n (fun i => (S.lab n i : Int)) ▸ same_eq w8 _ _ n _ _ (HG.out.same hf) hu (by omega))
  clear hf F hu
  go_wp2_with fail
  refine C.out.mono ?_
  clear C
  rintro e w9 ⟨rfl, hf⟩
  go_wp2
  go_ret
  exact ⟨rfl, F'.out.trans hf⟩
end

end Go.Proofs.Ytiaddgagncmbeaa

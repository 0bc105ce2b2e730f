/- Walks: valid. -/
import Derived.Test.YtneidejngbokcaaB8
namespace Go.Proofs.Ytneidejngbokcaa
open Go.RowKit

/-- Rows in a row. -/
structure LsAt (w : World) (g k : Nat) (A : Nat → Option Addr) (N C : Nat → Nat) (F : Nat → Nat → Nat) : Prop where
  c : ∀ i, i < k → w.cell? ⟨g, i, none⟩ = some (.slice (A i) (N i) (C i))
  f : ∀ i, i < k → FlAt w (A i) (N i) (F i)
theorem LsAt.keep {w w' : World} {g k : Nat} {A : Nat → Option Addr} {N C : Nat → Nat} {F : Nat → Nat → Nat} (h : LsAt w g k A N C F) (hf : Same' w w') : LsAt w' g k A N C F :=
  ⟨fun i hi => cell_same (h.c i hi) hf, fun i hi => (h.f i hi).keep hf⟩

/-- Whether all the rows are values. -/
def allV (k : Nat) (N : Nat → Nat) (F : Nat → Nat → Nat) : Bool := (List.range k).all fun i => valB (N i) (F i)
theorem allV_bad {k i : Nat} {N : Nat → Nat} {F : Nat → Nat → Nat} (hi : i < k) (h : valB (N i) (F i) = false) : allV k N F = false := by
  unfold allV
  rw [Bool.eq_false_iff]
  intro hc
  have := List.all_eq_true.1 hc i (List.mem_range.2 hi)
  rw [h] at this; cases this
theorem allV_ok {k : Nat} {N : Nat → Nat} {F : Nat → Nat → Nat} (h : ∀ i, i < k → valB (N i) (F i) = true) : allV k N F = true := List.all_eq_true.2 fun i hi => h i (List.mem_range.1 hi)

set_option maxHeartbeats 1000000 in
theorem index53_at {w : World} {g k : Nat} {A : Nat → Option Addr} {N C : Nat → Nat} {F : Nat → Nat → Nat} (hk : k ≤ 2) (h : LsAt w g k A N C F) :
    Calls Try.prog 53 #[.slice (some ⟨g, 0, none⟩) k k, .func (.func 41) #[] #[]] w fun e w' => ∃ r : Int, e = .returned (.int .i64 r) ∧ decide (0 ≤ r) = !allV k N F ∧ Same' w w' := by
  have HL := hide h
  clear h
  go_enter Try.func53, Try.ntmps53
  go_wp2_with fail
  go_loopg [8] k (fun z i wr => ∃ j : Nat, j + z = k ∧ i = .int .i64 j ∧ (∀ i, i < j → valB (N i) (F i) = true) ∧ Same' w wr)
  case atStart => exact ⟨0, by omega, rfl, fun j hj => by omega, Fr.refl _ w⟩
  case round =>
    obtain ⟨j, hj, rfl, hall, hf⟩ := hrel
    have HA := hide hall
    clear hall
    by_cases hlt : j < k
    · have hd : decide (j < k) = true := by simpa using hlt
      have hL := HL.out.keep hf
      have hc := hL.c j hlt
      have hki : (j : Int) < k := by omega
      have C1 := hide (valid41_at (C j) (hL.f j hlt))
      clear hL
      cases hnb : valB (N j) (F j) with
      | true =>
        rw [hnb] at C1
        have HN := hide hnb
        clear hnb
        go_wp2_with (go_at_call 41; refine C1.out.mono ?_; clear C1; rintro e w2 ⟨rfl, hf2⟩)
        go_roundg (gk - 1)
        case measure => omega
        case rel => exact ⟨j + 1, by omega, by go_num, fun i hi => by by_cases e : i = j; (· subst e; exact HN.out); exact HA.out i (by omega), hf.trans hf2⟩
      | false =>
        rw [hnb] at C1
        have HN := hide (allV_bad hlt hnb)
        clear hnb
        go_wp2_with (go_at_call 41; refine C1.out.mono ?_; clear C1; rintro e w2 ⟨rfl, hf2⟩)
        go_ret
        exact ⟨j, rfl, by rw [HN.out]; simp, hf.trans hf2⟩
    · have hd : decide (j < k) = false := by simpa using hlt
      have HN := hide (allV_ok (k := k) (N := N) (F := F) (fun i hi => HA.out i (by omega)))
      go_wp2_with fail
      go_ret
      exact ⟨-1, rfl, by rw [HN.out]; rfl, hf⟩

set_option maxHeartbeats 1000000 in
theorem contains40_at {w : World} {g k : Nat} {A : Nat → Option Addr} {N C : Nat → Nat} {F : Nat → Nat → Nat} (hk : k ≤ 2) (h : LsAt w g k A N C F) :
    Calls Try.prog 40 #[.slice (some ⟨g, 0, none⟩) k k, .func (.func 41) #[] #[]] w fun e w' => e = .returned (.bool (!allV k N F)) ∧ Same' w w' := by
  have C1 := hide (index53_at hk h)
  clear h
  go_enter Try.func40, Try.ntmps40
  go_wp2_with (go_at_call 53; refine C1.out.mono ?_; clear C1; rintro e w2 ⟨r, rfl, hr, hf⟩)
  go_wp2_with fail
  go_ret
  exact ⟨rfl, hf⟩

set_option maxHeartbeats 1000000 in
theorem valid27_at {w : World} {g k : Nat} {A : Nat → Option Addr} {N C : Nat → Nat} {F : Nat → Nat → Nat} (hk : k ≤ 2) (h : LsAt w g k A N C F) :
    Calls Try.prog 27 #[.slice (some ⟨g, 0, none⟩) k k] w fun e w' => e = .returned (.bool (allV k N F)) ∧ Same' w w' := by
  have C1 := hide (contains40_at hk h)
  clear h
  go_enter Try.func27, Try.ntmps27
  go_wp2_with (go_at_call 40; refine C1.out.mono ?_; clear C1; rintro e w2 ⟨rfl, hf⟩)
  go_ret
  exact ⟨by simp, hf⟩

/-- One row handed over. -/
theorem valid27_one {w : World} {ao : Option Addr} {n c : Nat} {f : Nat → Nat} (h : FlAt w ao n f) :
    Calls Try.prog 27 #[.slice (some ⟨w.heap.size, 0, none⟩) 1 1] (w.alloc (.cells #[.slice ao n c] 22)) fun e w' => e = .returned (.bool (valB n f)) ∧ Same' (w.alloc (.cells #[.slice ao n c] 22)) w' := by
  have hL : LsAt (w.alloc (.cells #[.slice ao n c] 22)) w.heap.size 1 (fun _ => ao) (fun _ => n) (fun _ => c) (fun _ => f) :=
    ⟨fun i hi => (by have e : i = 0 := (by omega); subst e; simp), fun i hi => h.keep ((Fr.refl _ w).alloc _)⟩
  refine (valid27_at (k := 1) (by omega) hL).mono fun e w' ⟨he, hw⟩ => ⟨he.trans (ret_bool (by simp [allV, List.range_succ])), hw⟩
end Go.Proofs.Ytneidejngbokcaa

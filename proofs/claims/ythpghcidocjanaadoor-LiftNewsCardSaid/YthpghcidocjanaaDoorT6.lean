/- Walks: ones and its closure (an iterator over the powers of two whose sum is k). -/
import Derived.Sort.LoopGhostIn
import Derived.Shelf.RegionOpen
import Derived.OwnWalkIn
import Derived.TacticsInMore
import Derived.LoopNIn
import Derived.LoopIn
import Derived.Test.YthpghcidocjanaaDoorT4
import Derived.Test.YthpghcidocjanaaDoorT5
namespace Go.Proofs.YthpghcidocjanaaDoor
open Go.RowKit Go.Shelf

attribute [local go_sem] Oper.semAt_some

theorem ones_at (k : Int) (w : World) :
    CallsIn Fence.wide 8 Tryd.prog 27 #[.int .u64 k] w fun e w' => e = .returned (.func (.func 38) #[] #[.pointer (some ⟨w.heap.size, 0, none⟩)]) ∧ w' = w.alloc (.cells #[.int .u64 k] 67) := by
  refine callsIn_of_wp Tryd.func27 rfl trivial ?_ rfl
  simp only [Tryd.ntmps27, List.size_toArray, List.length_cons, List.length_nil, Nat.reduceAdd, Nat.reduceSub, Array.replicate_succ, Array.replicate_zero, List.push_toArray, List.append_toArray, List.nil_append, List.cons_append]
  gi_wp2
  go_ret
  exact ⟨rfl, rfl⟩

set_option maxHeartbeats 1000000 in
theorem ones1_at (l bk : Nat) (I1 I2 : Nat → World → Prop) (B : World → Prop)
    (hc1 : ∀ r W, I1 r W → r < 8192 ∧ W.cell? ⟨bk, 0, none⟩ = some (.int .u64 r) ∧ TzTab W)
    (hc2 : ∀ r W, I2 r W → W.cell? ⟨bk, 0, none⟩ = some (.int .u64 r) ∧ W.frozen? ⟨bk, 0, none⟩ = false ∧ I1 (r &&& (r - 1)) (W.setCell ⟨bk, 0, none⟩ (.int .u64 (r &&& (r - 1) : Nat))))
    (hB : ∀ W W', B W → KeepsOthers W W' → B W')
    (hY : ∀ x W, (0 < x ∧ x < 8192) → I1 x W → B W → YieldAt Fence.wide (8 - 1 - 1) Tryd.prog l #[.int .i64 (tz x : Nat)] W fun e W' => e = .returned (.bool true) ∧ I2 x W' ∧ B W')
    (r0 : Nat) (W : World) (h0 : I1 r0 W) (hB0 : B W) :
    CallsIn Fence.wide (8 - 1) Tryd.prog 38 #[.func (.yield l) #[] #[], .pointer (some ⟨bk, 0, none⟩)] W fun e W' => (∃ v, e = .returned v) ∧ I1 0 W' ∧ B W' := by
  refine callsIn_of_wp Tryd.func38 rfl trivial ?_ rfl
  simp only [Tryd.ntmps38, List.size_toArray, List.length_cons, List.length_nil, Nat.reduceAdd, Nat.reduceSub, Array.replicate_succ, Array.replicate_zero, List.push_toArray, List.append_toArray, List.nil_append, List.cons_append]
  gi_wp2
  gi_loopg [] r0 (fun r wr => I1 r wr ∧ B wr)
  case atStart => exact ⟨h0, hB0⟩
  case round =>
    obtain ⟨hi, hb⟩ := hrel
    obtain ⟨hr, hc, ht⟩ := hc1 _ _ hi
    have HB := hide hB
    have HC := hide hc2
    have HY := hide hY
    clear hB hc1 hc2 hY h0 hB0
    by_cases hz : gk = 0
    · subst hz
      have hc' : wr.cell? ⟨bk, 0, none⟩ = some (.int .u64 0) := hc
      clear hc ht hr HB HC HY
      gi_wp2
      refine ⟨trivial, ?_⟩
      gi_wp2
      refine ⟨fun _ h => (by cases h), ?_⟩
      gi_wp2
      go_end0
      exact ⟨⟨_, rfl⟩, hi, hb⟩
    · have hpos : 0 < gk := by omega
      have hd : decide ((0 : Int) < gk) = true := by simp; omega
      obtain ⟨z, hz'⟩ : ∃ z, z = tz gk := ⟨_, rfl⟩
      have hy := HY.out gk wr ⟨hpos, hr⟩ hi hb
      have ha : bits .and .u64 (gk : Int) ((gk : Int) - 1) = ((gk &&& (gk - 1) : Nat) : Int) := by
        have := u64_and_nat gk (gk - 1) (by omega) (by omega)
        rw [← this]
        congr 1
        omega
      have C := hide ((callsIn_wide (n := 8 - 1 - 1)).2 (tz39_at wr ht gk hpos hr))
      rw [← hz'] at hy C
      clear ht hz HY hz'
      obtain ⟨fn, tmps, assign, body, hy, hR⟩ := hy
      gi_wp2_with (first
        | (refine ⟨trivial, ?_⟩; gi_at_call 39; refine C.out.mono ?_; clear C; rintro e w' ⟨rfl, rfl⟩)
        | (refine hR.mono ?_; clear hR; rintro e W2 ⟨rfl, hi2, hb2⟩; obtain ⟨hc2, hf2, hn2⟩ := HC.out _ _ hi2; have HN := hide hn2; clear hn2 hi2 hi hb hc))
      have hlt : gk &&& (gk - 1) < gk := by
        have := Nat.and_le_right (n := gk) (m := gk - 1)
        omega
      gi_roundg (gk &&& (gk - 1))
      case measure => exact hlt
      case rel => exact ⟨HN.out, HB.out _ _ hb2 (KeepsOthers.setCell _ _ _)⟩

end Go.Proofs.YthpghcidocjanaaDoor

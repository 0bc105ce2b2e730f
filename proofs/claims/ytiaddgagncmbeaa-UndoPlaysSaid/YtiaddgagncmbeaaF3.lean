/- Walks of the document's sets: New. -/
import Derived.Test.YtiaddgagncmbeaaF2
namespace Go.Proofs.Ytiaddgagncmbeaa
open Go.RowKit

set_option maxHeartbeats 400000 in
theorem RNew_out (n : Int) (w : World) (h : n < 0 ∨ 65536 < n) :
    Calls Try.prog 19 #[.int .i64 n] w fun e w' => e = .returned (.tuple #[.pointer none, .int .i64 2]) ∧ w = w' := by
  rcases h with h | h
  · go_enter Try.func19, Try.ntmps19
    go_wp2
    go_ret2
    exact ⟨rfl, rfl⟩
  · have h' : 0 ≤ n := by omega
    go_enter Try.func19, Try.ntmps19
    go_wp2
    go_ret2
    exact ⟨rfl, rfl⟩

theorem zero_lab {n i : Nat} (hi : i < n) : St.zero.lab n i = i := lab_id hi

set_option maxHeartbeats 2000000 in
theorem RNew_in (n : Nat) (hn : n ≤ 65536) (w : World) :
    Calls Try.prog 19 #[.int .i64 n] w fun e w' => ∃ (b : Nat) (M : Nat → Prop), e = .returned (.tuple #[.pointer (some ⟨b, 0, none⟩), .int .i64 0]) ∧
      RefAt M w' b n St.zero ∧ Same' w w' ∧ ∀ k, M k → w.heap.size ≤ k := by
  obtain ⟨b, hb⟩ : ∃ b, b = w.heap.size := ⟨_, rfl⟩
  have HB0 := hide hb
  have h0 : (w.alloc (.cells #[.bool true, .slice none 0 0, .slice none 0 0] 66)).heap[b]? = some (.cells #[.bool true, .slice none 0 0, .slice none 0 0] 66 (0, 0)) := by rw [hb]; exact heap_alloc_new w _
  have H0 := hide h0
  clear h0
  go_enter Try.func19, Try.ntmps19
  go_wp2
  rw [← hb]
  clear hb
  go_loopg [5] n (fun q i wr => ∃ (j : Nat) (ao : Option Addr) (c : Nat), q + j = n ∧ i = .int .i64 j ∧ wr.heap[b]? = some (.cells #[.bool true, .slice ao j c, .slice none 0 0] 66 (0, 0)) ∧ wr.ownsRow 0 3 1 (.slice ao j c) j ((List.range j).map (numV id)) ∧ (∀ k, blk ao = some k → b ≤ k) ∧ Same' w wr)
  case atStart => exact ⟨0, none, 0, by omega, rfl, H0.out, World.ownsRow_nil _ _ _ _, fun k hk => by simp [blk] at hk, (Fr.refl _ w).alloc _⟩
  case round =>
    obtain ⟨j, ao, c, hq, rfl, hh, hown, hblk, hf⟩ := hrel
    by_cases hlt : j < n
    · have c1 : wr.cell? ⟨b, 1, none⟩ = some (.slice ao j c) := by rw [cell_of_row wr _ _ _ _ _ hh]; rfl
      have hne : ∀ k, blk ao = some k → k ≠ b := by
        intro k hk e
        subst e
        rcases hown.2 with ⟨hv, _⟩ | ⟨g, cap, cur, hv, _, hg, _⟩
        · simp only [Value.slice.injEq] at hv
          rw [hv.1] at hk
          simp [blk] at hk
        · simp only [Value.slice.injEq] at hv
          rw [hv.1] at hk
          simp [blk] at hk
          subst hk
          rw [hh] at hg
          simp at hg
      have HB := hide (And.intro hown (And.intro hblk (And.intro hf (And.intro hh hne))))
      clear hown hblk hf hh hne
      go_wp2_with (at_builtin; refine wpList_app1 _ rfl _ _ 27 rfl 3 (.int .i64 0) 8 Try.underlying27 Try.info3 rfl ao j c ((List.range j).map (numV id)) rfl HB.out.1 _ (.int .i64 (j : Nat)) rfl rfl (by unfold maxLen; omega) (by omega) ?_)
      intro g' cap' w3 hown3 hf3 hg3
      have hh3 := (hf3.block _ (lt_of_block HB.out.2.2.2.1) (fun hk => HB.out.2.2.2.2 _ hk rfl)).trans HB.out.2.2.2.1
      have c1' : w3.cell? ⟨b, 1, none⟩ = some (.slice ao j c) := by rw [cell_of_row w3 _ _ _ _ _ hh3]; rfl
      have f1' : w3.frozen? ⟨b, 1, none⟩ = false := frozen_of_row w3 _ _ _ _ hh3
      have HH3 := hide hh3
      clear hh3 c1
      go_wp2
      go_roundg (n - (j + 1))
      case measure => omega
      case rel =>
        have hN := HB0.out
        have hs := HB.out.2.2.1.size
        have hb3 : g' ≠ b := by
          rcases hg3 with h | h
          · exact HB.out.2.2.2.2 _ h
          · omega
        refine ⟨j + 1, some ⟨g', 0, none⟩, cap', by omega, by go_num, ?_, ?_, ?_, ?_⟩
        · rw [heap_setCell_same w3 b 1 _ _ _ HH3.out]
          rfl
        · rw [nats_range]
          exact ownsRow_setCell_other hown3 (by simpa [Value.ownBlock] using hb3) _
        · intro k hk
          simp [blk] at hk
          subst hk
          rcases hg3 with h | h
          · exact HB.out.2.1 _ h
          · omega
        · exact (HB.out.2.2.1.trans' hf3 (fun k hk hm => by have := HB.out.2.1 k hm; omega)).setCell _ _ (fun h => by simp only at h; omega)
    · obtain rfl : j = n := by omega
      have hN := HB0.out
      have hlt' := lt_of_block hh
      have HX := hide (And.intro hh (And.intro hown (And.intro hblk hf)))
      clear hh hown hblk hf
      go_wp2
      go_ret2
      refine ⟨b, fun k => b ≤ k, rfl, ⟨.slice ao j c, none, 0, [], HX.out.1, Nat.le_refl _, LabAt.congr ⟨ao, c, rfl, HX.out.2.1, HX.out.2.2.1⟩ (fun i hi => (zero_lab hi).symm), World.ownsRow_nil _ _ _ _, fun k hk => by simp [blk] at hk, fun i hi => by simp [St.zero] at hi⟩, HX.out.2.2.2, fun k hk => by omega⟩

end Go.Proofs.Ytiaddgagncmbeaa

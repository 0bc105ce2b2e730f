/- Walks of the document's sets: united, New. -/
import Derived.Test.YtiaddgagncmbeaaF1
namespace Go.Proofs.Ytiaddgagncmbeaa
open Go.RowKit

theorem nats_range (l : Nat → Nat) (j : Nat) : (List.range (j + 1)).map (numV l) = (List.range j).map (numV l) ++ [.int .i64 (l j : Nat)] := by
  rw [List.range_succ, List.map_append]
  rfl

theorem united_of {l : Nat → Nat} {a b x y : Nat} (hx : l a = x) (hy : l b = y) (h : y < x) (i : Nat) : united l a b i = if l i = x then y else l i := by
  unfold united
  rw [hx, hy, show max x y = x by omega, show min x y = y by omega]
theorem united_of' {l : Nat → Nat} {a b x y : Nat} (hx : l a = x) (hy : l b = y) (h : ¬ y < x) (i : Nat) : united l a b i = if l i = y then x else l i := by
  unfold united
  rw [hx, hy, show max x y = y by omega, show min x y = x by omega]

set_option maxHeartbeats 4000000 in
theorem united_at (M : Nat → Prop) (w : World) (v : Value) (n : Nat) (l : Nat → Nat) (a b : Nat) (ha : a < n) (hb : b < n) (hn : n ≤ 65536) (hl : LabAt M w v n l) :
    Calls Try.prog 42 #[v, .int .i64 a, .int .i64 b] w fun e w' => ∃ u, e = .returned u ∧ LabAt (fun k => w.heap.size ≤ k) w' u n (united l a b) ∧ Same' w w' := by
  have HL := hide hl
  obtain ⟨ao, c, rfl, hc⟩ := hl.cell
  obtain ⟨g, rfl, _, ca⟩ := hc a ha
  obtain ⟨_, e1, _, cb⟩ := hc b hb
  simp only [Option.some.injEq, Addr.mk.injEq, and_true] at e1
  subst e1
  have hcell : Hid (∀ i, i < n → ∀ w', Same' w w' → w'.cell? ⟨g, i, none⟩ = some (.int .i64 (l i : Nat))) := fun i hi w' hf => by
    obtain ⟨_, e1, _, h⟩ := hc i hi
    simp only [Option.some.injEq, Addr.mk.injEq, and_true] at e1
    subst e1
    rw [hf.cell (block_lt_of_cell h) id, h]
  clear hc hl
  obtain ⟨x, hx⟩ : ∃ x, l a = x := ⟨_, rfl⟩
  obtain ⟨y, hy⟩ : ∃ y, l b = y := ⟨_, rfl⟩
  rw [hx] at ca
  rw [hy] at cb
  have HU1 := hide (united_of hx hy)
  have HU2 := hide (united_of' hx hy)
  clear hx hy HL
  obtain ⟨N, hN⟩ : ∃ N, N = w.heap.size := ⟨_, rfl⟩
  have HN := hide hN
  rw [← hN]
  clear hN
  by_cases hcmp : y < x
  · have HU := hide (HU1.out hcmp)
    have hd : decide (y < x) = true := by simp [hcmp]
    go_enter Try.func42, Try.ntmps42
    go_wp2
    go_quiet (fail)
    go_wp2
    clear HU1 HU2 hcmp hd ca cb
    refine wp_world (fun w2 => Same' w w2) ((Fr.refl _ w).drewN _) ?_
    rintro w0 hf0
    go_loopg [9, 10] n (fun q u i wr => ∃ (j : Nat) (ao' : Option Addr) (c' : Nat), q + j = n ∧ i = .int .i64 j ∧ u = .slice ao' j c' ∧ wr.ownsRow 0 3 1 (.slice ao' j c') j ((List.range j).map (numV (united l a b))) ∧ (∀ k, blk ao' = some k → N ≤ k) ∧ Same' w wr)
    case atStart => exact ⟨0, none, 0, by omega, rfl, rfl, World.ownsRow_nil _ _ _ _, fun b hb => by simp [blk] at hb, hf0⟩
    case round =>
      obtain ⟨j, ao', c', hq, rfl, rfl, hown, hblk, hf⟩ := hrel
      by_cases hlt : j < n
      · have cj := hcell.out j hlt wr hf
        have HB := hide (And.intro hown (And.intro hblk hf))
        have HE := hide (HU.out j)
        clear hown hblk hf
        by_cases he : l j = x
        · have HE' : Hid (united l a b j = y) := by rw [HE.out, if_pos he]; exact hide rfl
          rw [he] at cj
          clear he HE
          go_wp2_with (at_builtin; refine wpList_app1 _ rfl _ _ 27 rfl 3 (.int .i64 0) 8 Try.underlying27 Try.info3 rfl ao' j c' ((List.range j).map (numV (united l a b))) rfl HB.out.1 _ (.int .i64 (y : Nat)) rfl rfl (by unfold maxLen; omega) (by omega) ?_)
          intro g' cap' w3 hown3 hf3 hg3
          go_wp2
          go_roundg (n - (j + 1))
          case measure => omega
          case rel =>
            refine ⟨j + 1, some ⟨g', 0, none⟩, cap', by omega, by go_num, rfl, ?_, ?_, ?_⟩
            · rw [nats_range, HE'.out]
              exact hown3
            · intro b hb
              simp [blk] at hb
              subst hb
              rcases hg3 with h | h
              · exact HB.out.2.1 _ h
              · have := HB.out.2.2.size
                have := HN.out
                omega
            · exact HB.out.2.2.trans' hf3 (fun b hb hm => by have := HB.out.2.1 b hm; have := HN.out; omega)
        · have HE' : Hid (united l a b j = l j) := by rw [HE.out, if_neg he]; exact hide rfl
          have t : ((l j : Int) == (x : Nat)) = false := by simp; omega
          clear he HE
          go_wp2_with (at_builtin; refine wpList_app1 _ rfl _ _ 27 rfl 3 (.int .i64 0) 8 Try.underlying27 Try.info3 rfl ao' j c' ((List.range j).map (numV (united l a b))) rfl HB.out.1 _ (.int .i64 (l j : Nat)) rfl rfl (by unfold maxLen; omega) (by omega) ?_)
          intro g' cap' w3 hown3 hf3 hg3
          go_wp2
          go_roundg (n - (j + 1))
          case measure => omega
          case rel =>
            refine ⟨j + 1, some ⟨g', 0, none⟩, cap', by omega, by go_num, rfl, ?_, ?_, ?_⟩
            · rw [nats_range, HE'.out]
              exact hown3
            · intro b hb
              simp [blk] at hb
              subst hb
              rcases hg3 with h | h
              · exact HB.out.2.1 _ h
              · have := HB.out.2.2.size
                have := HN.out
                omega
            · exact HB.out.2.2.trans' hf3 (fun b hb hm => by have := HB.out.2.1 b hm; have := HN.out; omega)
      · obtain rfl : j = n := by omega
        go_wp2
        go_ret
        exact ⟨_, rfl, ⟨ao', c', rfl, hown, hblk⟩, hf⟩
  · have HU := hide (HU2.out hcmp)
    have hd : decide (y < x) = false := by simp [hcmp]
    go_enter Try.func42, Try.ntmps42
    go_wp2
    go_quiet (fail)
    go_wp2
    clear HU1 HU2 hcmp hd ca cb
    refine wp_world (fun w2 => Same' w w2) ((Fr.refl _ w).drewN _) ?_
    rintro w0 hf0
    go_loopg [9, 10] n (fun q u i wr => ∃ (j : Nat) (ao' : Option Addr) (c' : Nat), q + j = n ∧ i = .int .i64 j ∧ u = .slice ao' j c' ∧ wr.ownsRow 0 3 1 (.slice ao' j c') j ((List.range j).map (numV (united l a b))) ∧ (∀ k, blk ao' = some k → N ≤ k) ∧ Same' w wr)
    case atStart => exact ⟨0, none, 0, by omega, rfl, rfl, World.ownsRow_nil _ _ _ _, fun b hb => by simp [blk] at hb, hf0⟩
    case round =>
      obtain ⟨j, ao', c', hq, rfl, rfl, hown, hblk, hf⟩ := hrel
      by_cases hlt : j < n
      · have cj := hcell.out j hlt wr hf
        have HB := hide (And.intro hown (And.intro hblk hf))
        have HE := hide (HU.out j)
        clear hown hblk hf
        by_cases he : l j = y
        · have HE' : Hid (united l a b j = x) := by rw [HE.out, if_pos he]; exact hide rfl
          rw [he] at cj
          clear he HE
          go_wp2_with (at_builtin; refine wpList_app1 _ rfl _ _ 27 rfl 3 (.int .i64 0) 8 Try.underlying27 Try.info3 rfl ao' j c' ((List.range j).map (numV (united l a b))) rfl HB.out.1 _ (.int .i64 (x : Nat)) rfl rfl (by unfold maxLen; omega) (by omega) ?_)
          intro g' cap' w3 hown3 hf3 hg3
          go_wp2
          go_roundg (n - (j + 1))
          case measure => omega
          case rel =>
            refine ⟨j + 1, some ⟨g', 0, none⟩, cap', by omega, by go_num, rfl, ?_, ?_, ?_⟩
            · rw [nats_range, HE'.out]
              exact hown3
            · intro b hb
              simp [blk] at hb
              subst hb
              rcases hg3 with h | h
              · exact HB.out.2.1 _ h
              · have := HB.out.2.2.size
                have := HN.out
                omega
            · exact HB.out.2.2.trans' hf3 (fun b hb hm => by have := HB.out.2.1 b hm; have := HN.out; omega)
        · have HE' : Hid (united l a b j = l j) := by rw [HE.out, if_neg he]; exact hide rfl
          have t : ((l j : Int) == (y : Nat)) = false := by simp; omega
          clear he HE
          go_wp2_with (at_builtin; refine wpList_app1 _ rfl _ _ 27 rfl 3 (.int .i64 0) 8 Try.underlying27 Try.info3 rfl ao' j c' ((List.range j).map (numV (united l a b))) rfl HB.out.1 _ (.int .i64 (l j : Nat)) rfl rfl (by unfold maxLen; omega) (by omega) ?_)
          intro g' cap' w3 hown3 hf3 hg3
          go_wp2
          go_roundg (n - (j + 1))
          case measure => omega
          case rel =>
            refine ⟨j + 1, some ⟨g', 0, none⟩, cap', by omega, by go_num, rfl, ?_, ?_, ?_⟩
            · rw [nats_range, HE'.out]
              exact hown3
            · intro b hb
              simp [blk] at hb
              subst hb
              rcases hg3 with h | h
              · exact HB.out.2.1 _ h
              · have := HB.out.2.2.size
                have := HN.out
                omega
            · exact HB.out.2.2.trans' hf3 (fun b hb hm => by have := HB.out.2.1 b hm; have := HN.out; omega)
      · obtain rfl : j = n := by omega
        go_wp2
        go_ret
        exact ⟨_, rfl, ⟨ao', c', rfl, hown, hblk⟩, hf⟩

end Go.Proofs.Ytiaddgagncmbeaa

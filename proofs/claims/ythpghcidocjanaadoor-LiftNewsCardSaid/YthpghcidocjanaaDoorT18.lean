/- Words: lists of the call's own; walk: grown. -/
import Derived.Test.YthpghcidocjanaaDoorT17
namespace Go.Proofs.YthpghcidocjanaaDoor
open Go.RowKit

/-- A list of the call's own (that began in the world w). -/
structure Mine (w wr : World) (e : TypeId) (n : Nat) (f : Nat → Value) (ao : Option Addr) (c : Nat) : Prop where
  own : wr.ownsRow 0 e 1 (.slice ao n c) n ((List.range n).map f)
  blk : ∀ k, blk ao = some k → w.heap.size ≤ k
  fr : Same' w wr

theorem Mine.nil {w wr : World} (e : TypeId) (f : Nat → Value) (hf : Same' w wr) : Mine w wr e 0 f none 0 :=
  ⟨World.ownsRow_nil _ _ _ _, fun k hk => by simp [Go.Proofs.YthpghcidocjanaaDoor.blk] at hk, hf⟩

theorem Mine.snoc {w wr w3 : World} {e : TypeId} {n : Nat} {f : Nat → Value} {ao : Option Addr} {c g' cap' : Nat} {u : Value} (h : Mine w wr e n f ao c) (hu : u = f n)
    (hown : w3.ownsRow 0 e 1 (.slice (some ⟨g', 0, none⟩) (n + 1) cap') (n + 1) ((List.range n).map f ++ [u])) (hf : Fr (fun k => Go.Proofs.YthpghcidocjanaaDoor.blk ao = some k) wr w3) (hg : Go.Proofs.YthpghcidocjanaaDoor.blk ao = some g' ∨ wr.heap.size < g') :
    Mine w w3 e (n + 1) f (some ⟨g', 0, none⟩) cap' := by
  have hsz := h.fr.size
  refine ⟨?_, ?_, h.fr.trans' hf (fun b hb hm => by have := h.blk b hm; omega)⟩
  · rw [List.range_succ, List.map_append]
    subst hu
    exact hown
  · intro b hb
    simp [Go.Proofs.YthpghcidocjanaaDoor.blk] at hb
    subst hb
    rcases hg with h' | h'
    · exact h.blk _ h'
    · omega

theorem Mine.row {w wr : World} {e : TypeId} {n : Nat} {f : Nat → Value} {ao : Option Addr} {c : Nat} (h : Mine w wr e n f ao c) : (ao = none ∧ n = 0) ∨ ∃ g, ao = some ⟨g, 0, none⟩ ∧ RowV wr g e c n f ∧ w.heap.size ≤ g := by
  rcases h.own.2 with ⟨h1, h2⟩ | ⟨g', cap', cur, h1, _⟩
  · left
    simp at h1
    exact ⟨h1.1, h1.2.1⟩
  · right
    simp only [Value.slice.injEq] at h1
    obtain ⟨rfl, _, rfl⟩ := h1
    refine ⟨g', rfl, RowV.ofOwns h.own (fun i hi => by simp [hi]), h.blk g' rfl⟩

theorem Mine.key {w wr : World} {n : Nat} {key : Nat → Int} {ao : Option Addr} {c : Nat} (h : Mine w wr 3 n (i64V key) ao c) : KeyAt wr ao n key := by
  rcases h.row with ⟨_, rfl⟩ | ⟨g, rfl, hr, _⟩
  · intro i hi; omega
  · exact KeyAt.ofRow hr

theorem Mine.key2 {w wr : World} {n : Nat} {key : Nat → Int} {ao : Option Addr} {c : Nat} (h : Mine w wr 2 n (i64V key) ao c) : KeyAt wr ao n key := by
  rcases h.row with ⟨_, rfl⟩ | ⟨g, rfl, hr, _⟩
  · intro i hi; omega
  · exact KeyAt.ofRow hr

/-- What lies in a slice of bytes. -/
def ByAt (w : World) (ao : Option Addr) (m : Nat) (l : Nat → Nat) : Prop := ∀ i, i < m → ∃ ad, ao = some ad ∧ w.cell? (ad.add i) = some (.int .u8 (l i : Nat)) ∧ l i < 256

theorem ByAt.keep {w w' : World} {ao : Option Addr} {m : Nat} {l : Nat → Nat} (h : ByAt w ao m l) (hf : Same' w w') : ByAt w' ao m l := fun i hi => by
  obtain ⟨ad, h1, h2, h3⟩ := h i hi
  exact ⟨ad, h1, (hf.cell (block_lt_of_cell h2) id).trans h2, h3⟩

theorem ByAt.take {w : World} {ao : Option Addr} {m m' : Nat} {l : Nat → Nat} (h : ByAt w ao m l) (hm : m' ≤ m) : ByAt w ao m' l := fun i hi => h i (by omega)

/-- The parents of a forest that is grown. -/
def grw (l : Nat → Nat) (i : Nat) : Int := (l i : Int) % ((i : Int) + 1) - 1

set_option maxHeartbeats 1000000 in
theorem grown_at {w : World} {ao : Option Addr} {m : Nat} (c : Nat) {l : Nat → Nat} (hl : ByAt w ao m l) (hm : m ≤ 65536) :
    Calls Tryd.prog 22 #[.slice ao m c] w fun e w' => ∃ ao' c', e = .returned (.slice ao' m c') ∧ Mine w w' 3 m (i64V (grw l)) ao' c' := by
  have HL := hide hl
  clear hl
  go_enter Tryd.func22, Tryd.ntmps22
  go_wp2
  go_loopg [3, 4] m (fun q v i wr => ∃ (j : Nat) (ao' : Option Addr) (c' : Nat), j + q = m ∧ i = .int .i64 j ∧ v = .slice ao' j c' ∧ Mine w wr 3 j (i64V (grw l)) ao' c')
  case atStart => exact ⟨0, none, 0, by omega, rfl, rfl, Mine.nil _ _ (Fr.refl _ _)⟩
  case round =>
    obtain ⟨j, ao', c', hq, rfl, rfl, hM⟩ := hrel
    by_cases hlt : j < m
    · obtain ⟨ad, rfl, hc, hb⟩ := HL.out.keep hM.fr j hlt
      have hbi : (l j : Int) < 256 := by omega
      have hgv : i64V (grw l) j = .int .i64 ((l j : Int) % ((j : Int) + 1) - 1) := rfl
      have HG := hide hgv
      have HM := hide hM
      have hr0 : 0 ≤ (l j : Int) % ((j : Int) + 1) := Int.emod_nonneg _ (by omega)
      have hr1 : (l j : Int) % ((j : Int) + 1) < (j : Int) + 1 := Int.emod_lt_of_pos _ (by omega)
      generalize hv : l j = x at *
      clear hgv hM hv
      go_wp2_with (at_builtin; refine wpList_app1 _ rfl _ _ 25 rfl 3 (.int .i64 0) 8 Tryd.underlying25 info3 rfl ao' j c' ((List.range j).map (i64V (grw l))) rfl HM.out.own _ (.int .i64 ((x : Int) % ((j : Int) + 1) - 1)) rfl rfl (by unfold maxLen; omega) (by omega) ?_)
      intro g' cap' w3 hown3 hf3 hg3
      go_wp2
      go_roundg (gk - 1)
      case measure => omega
      case rel => exact ⟨j + 1, some ⟨g', 0, none⟩, cap', by omega, by go_num, rfl, HM.out.snoc HG.out.symm hown3 hf3 hg3⟩
    · have e : j = m := by omega
      subst e
      have HM := hide hM
      clear hM
      go_wp2
      go_ret
      exact ⟨ao', c', rfl, HM.out⟩

end Go.Proofs.YthpghcidocjanaaDoor

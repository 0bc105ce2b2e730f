/- Walks: New. -/
import Derived.Test.YthpghcidocjanaaDoorT15
namespace Go.Proofs.YthpghcidocjanaaDoor
open Go.RowKit

/-- A whole table whose blocks are all new since B. -/
def FullN (B : Nat) (w : World) (b n : Nat) (p : Nat → Int) : Prop := Forest n p ∧ n ≤ 8192 ∧ ∃ g gd, Tab w b n g gd (upAt p) (fun v => (dep n p v : Nat)) ∧ ∀ k, Tab.mem b gd g k → B ≤ k

theorem FullN.full {B : Nat} {w : World} {b n : Nat} {p : Nat → Int} (h : FullN B w b n p) : Full w b n p := by
  obtain ⟨h1, h2, g, gd, hT, _⟩ := h
  exact ⟨h1, h2, g, gd, hT⟩

theorem FullN.keep {B : Nat} {w w' : World} {M : Nat → Prop} {b n : Nat} {p : Nat → Int} (h : FullN B w b n p) (hf : Fr M w w') (hM : ∀ k, B ≤ k → ¬ M k) : FullN B w' b n p := by
  obtain ⟨h1, h2, g, gd, hT, hm⟩ := h
  exact ⟨h1, h2, g, gd, hT.keep hf (fun k hk => hM k (hm k hk)), hm⟩

def NewPost (w : World) (n : Nat) (p : Nat → Int) (e : Ending) (w' : World) : Prop :=
  ((∀ v, v < n → good n p v = true) ∧ ∃ b, e = retPE (some ⟨b, 0, none⟩) 0 ∧ FullN w.heap.size w' b n p ∧ Same' w w') ∨ ((∃ v, v < n ∧ good n p v = false) ∧ e = retPE none 9 ∧ Same' w w')

/-- The rows made so far. -/
def rowP (B n k j : Nat) : Value := if j < k then .slice (some ⟨B + 2 + j, 0, none⟩) n n else .slice none 0 0

structure Rows2 (w : World) (n k : Nat) (wr : World) : Prop where
  size : wr.heap.size = w.heap.size + 2 + k
  hdr : wr.heap[w.heap.size + 1]? = some (.cells (hdrC (rowP w.heap.size n k) (.slice (some ⟨w.heap.size, 0, none⟩) n n)) 50 (0, 0))
  up : ∀ j, j < k → RowV wr (w.heap.size + 2 + j) 21 n n (i32V fun _ => 0)
  dp : RowV wr w.heap.size 3 n n (i64V fun _ => 0)
  fr : Same' w wr

theorem Rows2.start (w : World) (n : Nat) (hn : n ≤ 8192) (c : Array Value) (hc : c = hdrC (rowP w.heap.size n 0) (.slice (some ⟨w.heap.size, 0, none⟩) n n)) : Rows2 w n 0 ((w.alloc (.cells (madeCells #[.int .i64 0] n) 3)).alloc (.cells c 50)) := by
  have h := heap_alloc_new (w.alloc (.cells (madeCells #[.int .i64 0] n) 3)) (.cells c 50)
  rw [World.size_alloc] at h
  exact ⟨by simp, by rw [h, hc], fun j hj => by omega, (RowV.zero64 w n (by unfold maxLen; omega)).alloc _, ((Fr.refl _ w).alloc _).alloc _⟩

theorem Rows2.to {w wr wr' : World} {n k : Nat} (h : Rows2 w n k wr) (h1 : wr'.heap = wr.heap) (h2 : wr'.os = wr.os) (h3 : wr'.tape = wr.tape) (h4 : wr'.output = wr.output) : Rows2 w n k wr' :=
  ⟨by rw [h1]; exact h.size, by rw [h1]; exact h.hdr, fun j hj => (h.up j hj).of_block (by rw [h1]), h.dp.of_block (by rw [h1]), h.fr.to h1 h2 h3 h4⟩

theorem Rows2.step {w wr : World} {n k : Nat} (h : Rows2 w n k wr) (hk : k < 14) (hn : n ≤ 8192) :
    Rows2 w n (k + 1) ((wr.alloc (.cells (madeCells #[.int .i32 0] n) 21)).setCell ⟨w.heap.size + 1, 1 + k, none⟩ (.slice (some ⟨wr.heap.size, 0, none⟩) n n)) := by
  have hsz := h.size
  have hh : (wr.alloc (.cells (madeCells #[.int .i32 0] n) 21)).heap[w.heap.size + 1]? = some (.cells (hdrC (rowP w.heap.size n k) (.slice (some ⟨w.heap.size, 0, none⟩) n n)) 50 (0, 0)) :=
    (Below.heap_alloc wr _ _ (by omega)).trans h.hdr
  have hs := heap_setCell_same _ (w.heap.size + 1) (1 + k) _ 50 (.slice (some ⟨wr.heap.size, 0, none⟩) n n) hh
  rw [hdrC_set _ _ _ hk] at hs
  refine ⟨by rw [World.size_setCell, World.size_alloc]; omega, ?_, fun j hj => ?_, ?_, ?_⟩
  · rw [hs]
    congr 2
    unfold hdrC setR rowP
    rw [hsz]
    match k, hk with
    | 0, _ => rfl
    | 1, _ => rfl
    | 2, _ => rfl
    | 3, _ => rfl
    | 4, _ => rfl
    | 5, _ => rfl
    | 6, _ => rfl
    | 7, _ => rfl
    | 8, _ => rfl
    | 9, _ => rfl
    | 10, _ => rfl
    | 11, _ => rfl
    | 12, _ => rfl
    | 13, _ => rfl
  · by_cases e : j = k
    · subst e
      have := RowV.zero32 wr n (by unfold maxLen; omega)
      rw [hsz] at this
      exact this.setOther _ _ (by simp; omega)
    · exact ((h.up j (by omega)).alloc _).setOther _ _ (by simp; omega)
  · exact (h.dp.alloc _).setOther _ _ (by simp)
  · exact (h.fr.alloc _).setCell _ _ (fun hlt => by simp at hlt; omega)

theorem Rows2.tab {w wr : World} {n : Nat} (h : Rows2 w n 14 wr) : Tab wr (w.heap.size + 1) n (fun i => w.heap.size + 2 + i) w.heap.size (fun _ _ => 0) (fun _ => 0) :=
  ⟨h.hdr, fun i hi => h.up i hi, h.dp, fun i j hi hj e => by omega⟩

theorem Rows2.c {w wr : World} {n k : Nat} (h : Rows2 w n k wr) {i : Nat} (hi : i < 14) : wr.cell? ⟨w.heap.size + 1, 1 + i, none⟩ = some (rowP w.heap.size n k i) := by
  rw [cell_of_row wr _ _ _ _ _ h.hdr]
  exact hdrC_get _ _ hi

theorem Rows2.f {w wr : World} {n k : Nat} (h : Rows2 w n k wr) (i : Nat) : wr.frozen? ⟨w.heap.size + 1, i, none⟩ = false := frozen_of_row wr _ i _ _ h.hdr

end Go.Proofs.YthpghcidocjanaaDoor

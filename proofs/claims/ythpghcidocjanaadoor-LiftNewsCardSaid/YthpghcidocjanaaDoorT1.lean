/- A table of ancestors in memory. -/
import Derived.Test.YthpghcidocjanaaDoorM
import Derived.Test.YthpghcidocjanaaDoorP3
namespace Go.Proofs.YthpghcidocjanaaDoor
open Go.RowKit

def i32V (f : Nat → Int) (i : Nat) : Value := .int .i32 (f i)
def i64V (f : Nat → Int) (i : Nat) : Value := .int .i64 (f i)

/-- The header: whether it was made, fourteen rows, the depths. -/
def hdrC (r : Nat → Value) (d : Value) : Array Value :=
  #[.bool true, r 0, r 1, r 2, r 3, r 4, r 5, r 6, r 7, r 8, r 9, r 10, r 11, r 12, r 13, d]

theorem hdrC_get (r : Nat → Value) (d : Value) {i : Nat} (hi : i < 14) : (hdrC r d)[1 + i]? = some (r i) := by
  match i, hi with
  | 0, _ => rfl
  | 1, _ => rfl
  | 2, _ => rfl
  | 3, _ => rfl
  | 4, _ => rfl
  | 5, _ => rfl
  | 6, _ => rfl
  | 7, _ => rfl
  | 8, _ => rfl
  | 9, _ => rfl
  | 10, _ => rfl
  | 11, _ => rfl
  | 12, _ => rfl
  | 13, _ => rfl

def setR (r : Nat → Value) (i : Nat) (v : Value) (j : Nat) : Value := if j = i then v else r j

theorem hdrC_set (r : Nat → Value) (d v : Value) {i : Nat} (hi : i < 14) : (hdrC r d).setIfInBounds (1 + i) v = hdrC (setR r i v) d := by
  match i, hi with
  | 0, _ => rfl
  | 1, _ => rfl
  | 2, _ => rfl
  | 3, _ => rfl
  | 4, _ => rfl
  | 5, _ => rfl
  | 6, _ => rfl
  | 7, _ => rfl
  | 8, _ => rfl
  | 9, _ => rfl
  | 10, _ => rfl
  | 11, _ => rfl
  | 12, _ => rfl
  | 13, _ => rfl

/-- A row's slice. -/
def rowS (g : Nat → Nat) (n i : Nat) : Value := .slice (some ⟨g i, 0, none⟩) n n

/-- A table at block b: its rows lie in the blocks g 0, .., g 13, its depths in gd. -/
structure Tab (w : World) (b n : Nat) (g : Nat → Nat) (gd : Nat) (U : Nat → Nat → Int) (D : Nat → Int) : Prop where
  hdr : w.heap[b]? = some (.cells (hdrC (rowS g n) (.slice (some ⟨gd, 0, none⟩) n n)) 50 (0, 0))
  up : ∀ i, i < 14 → RowV w (g i) 21 n n (i32V (U i))
  depth : RowV w gd 3 n n (i64V D)
  apart : ∀ i j, i < 14 → j < 14 → g i = g j → i = j

namespace Tab
variable {w w' : World} {b n gd : Nat} {g : Nat → Nat} {U : Nat → Nat → Int} {D : Nat → Int}

theorem c0 (h : Tab w b n g gd U D) : w.cell? ⟨b, 0, none⟩ = some (.bool true) := by
  rw [cell_of_row w _ _ _ _ _ h.hdr]; rfl
theorem cd (h : Tab w b n g gd U D) : w.cell? ⟨b, 15, none⟩ = some (.slice (some ⟨gd, 0, none⟩) n n) := by
  rw [cell_of_row w _ _ _ _ _ h.hdr]; rfl
theorem cu (h : Tab w b n g gd U D) {i : Nat} (hi : i < 14) : w.cell? ⟨b, 1 + i, none⟩ = some (.slice (some ⟨g i, 0, none⟩) n n) := by
  rw [cell_of_row w _ _ _ _ _ h.hdr]
  exact hdrC_get _ _ hi

/-- The blocks of a table. -/
def mem (b gd : Nat) (g : Nat → Nat) (k : Nat) : Prop := k = b ∨ k = gd ∨ ∃ i, i < 14 ∧ k = g i

theorem memlt (h : Tab w b n g gd U D) : ∀ k, mem b gd g k → k < w.heap.size := by
  rintro k (rfl | rfl | ⟨i, hi, rfl⟩)
  · exact lt_of_block h.hdr
  · exact h.depth.lt
  · exact (h.up i hi).lt

theorem keep {M : Nat → Prop} (h : Tab w b n g gd U D) (hf : Fr M w w') (hm : ∀ k, mem b gd g k → ¬ M k) : Tab w' b n g gd U D :=
  ⟨(hf.block _ (lt_of_block h.hdr) (hm _ (.inl rfl))).trans h.hdr, fun i hi => (h.up i hi).keep hf (hm _ (.inr (.inr ⟨i, hi, rfl⟩))), h.depth.keep hf (hm _ (.inr (.inl rfl))), h.apart⟩

theorem same (h : Tab w b n g gd U D) (hf : Fr (fun _ => False) w w') : Tab w' b n g gd U D := h.keep hf (fun _ _ h => h)
end Tab

end Go.Proofs.YthpghcidocjanaaDoor

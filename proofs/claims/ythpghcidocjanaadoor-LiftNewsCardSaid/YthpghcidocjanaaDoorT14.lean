/- Words for making a table: rows written, what a parent list makes good. -/
import Derived.Test.YthpghcidocjanaaDoorT13
namespace Go.Proofs.YthpghcidocjanaaDoor
open Go.RowKit

theorem info3 : (Tryd.prog.info? 3).map (fun i => (i.zero, i.size, i.bytes)) = some (some (.int .i64 0), 1, 8) := by kernel_rfl
theorem info21 : (Tryd.prog.info? 21).map (fun i => (i.zero, i.size, i.bytes)) = some (some (.int .i32 0), 1, 4) := by kernel_rfl

theorem made_get (z : Value) (n i : Nat) (hi : i < n) : (madeCells #[z] n)[i]? = some z := by
  have h := toList_madeCells_one z n
  rw [← Array.getElem?_toList, h]
  simp [hi]

theorem RowV.zero64 (w : World) (n : Nat) (hn : n ≤ maxLen) : RowV (w.alloc (.cells (madeCells #[.int .i64 0] n) 3)) w.heap.size 3 n n (i64V fun _ => 0) :=
  RowV.made w 3 _ n _ (size_madeCells _ _) hn (fun i hi => made_get _ n i hi)

theorem RowV.zero32 (w : World) (n : Nat) (hn : n ≤ maxLen) : RowV (w.alloc (.cells (madeCells #[.int .i32 0] n) 21)) w.heap.size 21 n n (i32V fun _ => 0) :=
  RowV.made w 21 _ n _ (size_madeCells _ _) hn (fun i hi => made_get _ n i hi)

theorem RowV.block {w : World} {g cap n : Nat} {t : TypeId} {f : Nat → Value} (h : RowV w g t cap n f) : ∃ cur : Array Value, w.heap[g]? = some (.cells cur t (0, 0)) := by
  obtain ⟨cur, h, _⟩ := h
  exact ⟨cur, h⟩

theorem type_ne {w : World} {g g' : Nat} {c c' : Array Value} {t t' : TypeId} (h : w.heap[g]? = some (.cells c t (0, 0))) (h' : w.heap[g']? = some (.cells c' t' (0, 0))) (hne : t ≠ t') : g ≠ g' := by
  rintro rfl
  rw [h] at h'
  simp only [Option.some.injEq, Obj.cells.injEq] at h'
  exact hne h'.2.1

namespace Tab
variable {w w' : World} {b n gd : Nat} {g : Nat → Nat} {U : Nat → Nat → Int} {D : Nat → Int}

theorem gb (h : Tab w b n g gd U D) {i : Nat} (hi : i < 14) : g i ≠ b := by
  obtain ⟨c, hc⟩ := (h.up i hi).block
  exact type_ne hc h.hdr (by decide)

theorem gg (h : Tab w b n g gd U D) {i : Nat} (hi : i < 14) : g i ≠ gd := by
  obtain ⟨c, hc⟩ := (h.up i hi).block
  obtain ⟨c', hc'⟩ := h.depth.block
  exact type_ne hc hc' (by decide)

theorem db (h : Tab w b n g gd U D) : gd ≠ b := by
  obtain ⟨c', hc'⟩ := h.depth.block
  exact type_ne hc' h.hdr (by decide)

theorem congr {U' : Nat → Nat → Int} {D' : Nat → Int} (h : Tab w b n g gd U D) (hU : ∀ i v, i < 14 → v < n → U i v = U' i v) (hD : ∀ v, v < n → D v = D' v) : Tab w b n g gd U' D' :=
  ⟨h.hdr, fun i hi => (h.up i hi).congr fun v hv => by unfold i32V; rw [hU i v hi hv], h.depth.congr fun v hv => by unfold i64V; rw [hD v hv], h.apart⟩

theorem to (h : Tab w b n g gd U D) (e : w'.heap = w.heap) : Tab w' b n g gd U D :=
  ⟨by rw [e]; exact h.hdr, fun i hi => (h.up i hi).of_block (by rw [e]), h.depth.of_block (by rw [e]), h.apart⟩

def setU (U : Nat → Nat → Int) (i v : Nat) (x : Int) (j u : Nat) : Int := if j = i ∧ u = v then x else U j u

theorem set (h : Tab w b n g gd U D) {i v : Nat} (hi : i < 14) (hv : v < n) (x : Int) : Tab (w.setCell ⟨g i, v, none⟩ (.int .i32 x)) b n g gd (setU U i v x) D := by
  refine ⟨(heap_setCell_other w ⟨g i, v, none⟩ b _ (fun e => h.gb hi e.symm)).trans h.hdr, fun j hj => ?_, h.depth.setOther _ _ (fun e => h.gg hi e.symm), h.apart⟩
  by_cases e : j = i
  · subst e
    refine ((h.up j hj).set v hv (.int .i32 x)).congr fun u hu => ?_
    unfold i32V setU
    by_cases e' : u = v <;> simp [e']
  · refine ((h.up j hj).setOther ⟨g i, v, none⟩ (.int .i32 x) (fun e' => e (h.apart j i hj hi e'))).congr fun u hu => ?_
    unfold i32V setU
    simp [e]

theorem setDepth (h : Tab w b n g gd U D) {v : Nat} (hv : v < n) (x : Int) : Tab (w.setCell ⟨gd, v, none⟩ (.int .i64 x)) b n g gd U (fun u => if u = v then x else D u) := by
  refine ⟨(heap_setCell_other w ⟨gd, v, none⟩ b _ (fun e => h.db e.symm)).trans h.hdr, fun j hj => (h.up j hj).setOther _ _ (h.gg hj), ?_, h.apart⟩
  refine (h.depth.set v hv (.int .i64 x)).congr fun u hu => ?_
  unfold i64V
  by_cases e : u = v <;> simp [e]
end Tab

/-- Nodes from which a root is reached. -/
def good (n : Nat) (p : Nat → Int) (v : Nat) : Bool := decide (anc p n v < 0)
/-- The parents of the good nodes; the others are roots. -/
def goodP (n : Nat) (p : Nat → Int) (v : Nat) : Int := if good n p v then p v else -1

section
variable {n : Nat} {p : Nat → Int}

theorem good_up (h : Par n p) {v : Nat} (hv : v < n) (hg : good n p v = true) (c : Nat) (hc : 0 ≤ anc p c v) : good n p (anc p c v).toNat = true := by
  unfold good at hg ⊢
  rw [decide_eq_true_eq] at hg ⊢
  have := anc_add h hv c n
  rw [if_neg (by omega)] at this
  rw [← this, anc_neg h hv hg (by omega)]
  omega

theorem goodP_par (h : Par n p) : Par n (goodP n p) := fun v hv => by
  have := h v hv
  unfold goodP
  split <;> omega

theorem goodP_anc (h : Par n p) {v : Nat} (hv : v < n) (hg : good n p v = true) (c : Nat) : anc (goodP n p) c v = anc p c v := by
  induction c with
  | zero => rfl
  | succ c ih =>
    rw [anc_succ, anc_succ, ih]
    by_cases hc : anc p c v < 0
    · rw [if_pos hc, if_pos hc]
    · rw [if_neg hc, if_neg hc]
      unfold goodP
      rw [if_pos (good_up h hv hg c (by omega))]

theorem goodP_forest (h : Par n p) : Forest n (goodP n p) := by
  refine ⟨goodP_par h, fun v hv => ?_⟩
  by_cases hg : good n p v = true
  · rw [goodP_anc h hv hg]
    unfold good at hg
    simpa using hg
  · have hv1 : anc (goodP n p) 1 v = -1 := by
      rw [anc_one]
      unfold goodP
      rw [if_neg hg]
    rw [anc_neg (goodP_par h) hv (j := 1) (by omega) (by omega)]
    omega

theorem good_iff (h : Par n p) (hn : n ≤ 8192) {v : Nat} (hv : v < n) : good n p v = true ↔ upAt p 13 v < 0 := by
  unfold good upAt
  rw [decide_eq_true_eq]
  constructor
  · intro hg
    rw [anc_neg h hv hg (by omega)]
    omega
  · intro hg
    by_cases hh : anc p n v < 0
    · exact hh
    · have := anc_loop h hv (by omega) (2 ^ 13)
      omega

theorem forest_of_good (h : Par n p) (hg : ∀ v, v < n → good n p v = true) : Forest n p :=
  ⟨h, fun v hv => by have := hg v hv; unfold good at this; simpa using this⟩

theorem Forest.good (h : Forest n p) {v : Nat} (hv : v < n) : good n p v = true := by
  unfold Go.Proofs.YthpghcidocjanaaDoor.good
  simpa using h.fin v hv

theorem dep_congr {p' : Nat → Int} {v : Nat} (h : ∀ c, anc p c v = anc p' c v) : dep n p v = dep n p' v := by
  unfold dep
  generalize n = m
  induction m with
  | zero => rfl
  | succ m ih => unfold depTo; rw [h, ih]

theorem upAt_goodP (h : Par n p) {v : Nat} (hv : v < n) (hg : Go.Proofs.YthpghcidocjanaaDoor.good n p v = true) (q c u : Nat) (hu : anc (goodP n p) c v = (u : Nat)) (hun : u < n) : upAt p q u = upAt (goodP n p) q u := by
  rw [goodP_anc h hv hg] at hu
  have := good_up h hv hg c (by omega)
  rw [hu, Int.toNat_natCast] at this
  unfold upAt
  rw [goodP_anc h hun this]
end

end Go.Proofs.YthpghcidocjanaaDoor

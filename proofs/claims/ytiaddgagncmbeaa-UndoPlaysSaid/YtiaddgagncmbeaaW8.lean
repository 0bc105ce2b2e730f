/- Walks: row. -/
import Derived.Test.YtiaddgagncmbeaaW7
namespace Go.Proofs.Ytiaddgagncmbeaa
open Go.RowKit

/-- The greatest size of a root below j; the sum of the squares of their sizes. -/
def mxTo (p s : Nat → Nat) : Nat → Nat
  | 0 => 0
  | j + 1 => if p j = j then max (mxTo p s j) (s j) else mxTo p s j
def sqTo (p s : Nat → Nat) : Nat → Nat
  | 0 => 0
  | j + 1 => if p j = j then sqTo p s j + s j * s j else sqTo p s j

theorem sqTo_le {p s : Nat → Nat} {N j : Nat} (h : ∀ i, i < j → p i = i → s i ≤ N) : sqTo p s j ≤ j * (N * N) := by
  induction j with
  | zero => simp [sqTo]
  | succ j ih =>
    have := ih (fun i hi => h i (by omega))
    unfold sqTo
    rw [Nat.succ_mul]
    split
    · rename_i e
      have h1 := h j (by omega) e
      have := Nat.mul_le_mul h1 h1
      omega
    · omega

theorem mxTo_le {p s : Nat → Nat} {j : Nat} (h : ∀ i, i < j → p i = i → s i ≤ 65536) : mxTo p s j ≤ 65536 := by
  induction j with
  | zero => simp [mxTo]
  | succ j ih =>
    have := ih (fun i hi => h i (by omega))
    unfold mxTo
    split
    · rename_i e
      have h1 := h j (by omega) e
      omega
    · omega

/-- A block of three numbers. -/
def Three (w : World) (g : Nat) (t : TypeId) (a b c : Nat) : Prop := w.heap[g]? = some (.cells #[.int .i64 (a : Nat), .int .i64 (b : Nat), .int .i64 (c : Nat)] t (0, 0))

namespace Three
variable {w w' : World} {g : Nat} {t : TypeId} {a b c : Nat}
theorem c0 (h : Three w g t a b c) : w.cell? ⟨g, 0, none⟩ = some (.int .i64 (a : Nat)) := by rw [cell_of_row w _ _ _ _ _ h]; rfl
theorem c1 (h : Three w g t a b c) : w.cell? ⟨g, 1, none⟩ = some (.int .i64 (b : Nat)) := by rw [cell_of_row w _ _ _ _ _ h]; rfl
theorem c2 (h : Three w g t a b c) : w.cell? ⟨g, 2, none⟩ = some (.int .i64 (c : Nat)) := by rw [cell_of_row w _ _ _ _ _ h]; rfl
theorem free (h : Three w g t a b c) (i : Nat) : w.frozen? ⟨g, i, none⟩ = false := frozen_of_row w _ _ _ _ h
theorem lt (h : Three w g t a b c) : g < w.heap.size := lt_of_block h
theorem set0 (h : Three w g t a b c) (v : Nat) : Three (w.setCell ⟨g, 0, none⟩ (.int .i64 (v : Nat))) g t v b c := by unfold Three; rw [heap_setCell_same w g 0 _ _ _ h]; rfl
theorem set1 (h : Three w g t a b c) (v : Nat) : Three (w.setCell ⟨g, 1, none⟩ (.int .i64 (v : Nat))) g t a v c := by unfold Three; rw [heap_setCell_same w g 1 _ _ _ h]; rfl
theorem set2 (h : Three w g t a b c) (v : Nat) : Three (w.setCell ⟨g, 2, none⟩ (.int .i64 (v : Nat))) g t a b v := by unfold Three; rw [heap_setCell_same w g 2 _ _ _ h]; rfl
theorem other (h : Three w g t a b c) (x : Addr) (v : Value) (hne : g ≠ x.block) : Three (w.setCell x v) g t a b c := (heap_setCell_other w x g v hne).trans h
theorem to (h : Three w g t a b c) (e : w'.heap = w.heap) : Three w' g t a b c := by unfold Three; rw [e]; exact h
theorem keep {M : Nat → Prop} (h : Three w g t a b c) (hf : Fr M w w') (hg : ¬ M g) : Three w' g t a b c := (hf.block g h.lt hg).trans h
end Three

theorem wrap_nat {x : Nat} (h : x ≤ 4611686018427387904) : wrap64 (x : Int) = (x : Int) := by unfold wrap64; omega

theorem sq_val {q s n : Nat} (hn : n ≤ 65536) (hq : q ≤ n * (65536 * 65536)) (hs : s * s ≤ 65536 * 65536) : wrap64 ((q : Int) + wrap64 ((s : Int) * (s : Int))) = ((q + s * s : Nat) : Int) := by
  rw [← Int.natCast_mul, wrap_nat (by omega), ← Int.natCast_add, wrap_nat (by omega)]

theorem SetsAt.count {L : Lay} {n : Nat} {p s : Nat → Nat} {log : List Nat} {w : World} (hS : SetsAt w L n p s log) (hn : n ≤ 65536) (hl : log.length ≤ n) :
    Calls Try.prog 14 #[.pointer (some ⟨L.b, 0, none⟩)] w fun e w' => e = .returned (.int .i64 ((n : Int) - log.length)) ∧ Same' w w' := Count_at L n p s log w hS hn hl

set_option maxHeartbeats 2000000 in
theorem row_at (L : Lay) (n : Nat) (p s : Nat → Nat) (log : List Nat) (w : World) (hS : SetsAt w L n p s log) (hn : n ≤ 65536) (hl : log.length ≤ n) (hs : ∀ i, i < n → p i = i → s i ≤ 65536) :
    Calls Try.prog 43 #[.pointer (some ⟨L.b, 0, none⟩)] w fun e w' => e = .returned (.agg #[.int .i64 (mxTo p s n : Nat), .int .i64 (n - log.length : Nat), .int .i64 (sqTo p s n : Nat)]) ∧ Same' w w' := by
  have HS := hide hS
  have Hs := hide hs
  clear hS hs
  go_enter Try.func43, Try.ntmps43
  go_wp2_with (go_at_call 14; refine ((HS.out.same (((Fr.refl _ w).alloc _))).count hn hl).mono ?_; rintro e w1 ⟨rfl, hf1⟩; have hS1 := hide (HS.out.same (((Fr.refl _ w).alloc _).trans hf1)); have h1 := hS1.out.c1; have hb := hS1.out.blt; have hb' : L.b ≠ w1.heap.size := Nat.ne_of_lt hb)
  rw [show ((n : Int) - (log.length : Int)) = ((n - log.length : Nat) : Int) from by omega]
  generalize hc : n - log.length = c
  generalize hB0 : w.heap.size = B0
  generalize hB1 : w1.heap.size = B1
  refine wp_world (fun w2 => Three w2 B0 52 0 0 0 ∧ Three w2 B1 52 0 c 0 ∧ Same' w w2 ∧ B0 ≠ B1 ∧ L.b ≠ B1 ∧ L.gs ≠ B1 ∧ L.gp ≠ B1 ∧ w.heap.size ≤ B1 ∧ w.heap.size ≤ B0) ?_ ?_
  · have hsz := hf1.size
    simp at hsz
    have q0 : Three w1 B0 52 0 0 0 := (hf1.block B0 (by simp; omega) (fun h => h)).trans (by rw [← hB0]; exact heap_alloc_new w _)
    have := hS1.out.siz.lt
    have := hS1.out.par.lt
    refine ⟨(Below.heap_alloc w1 _ B0 (by omega)).trans q0, ?_, (((Fr.refl _ w).alloc _).trans hf1).alloc _, by omega, by omega, by omega, by omega, by omega, by omega⟩
    rw [← hB1]
    exact heap_alloc_new w1 _
  rintro w2 ⟨t0, t1, hf2, n1, n2, n3, n4, n5, n6⟩
  clear hb hb' h1 hB0 hB1 hf1 hS1
  have Hc := hide hc
  clear hc
  go_wp2
  go_loopg [4, 5, 14] n (fun m _ _ k wr => ∃ j : Nat, m + j = n ∧ k = .int .i64 j ∧ Three wr B0 52 0 0 0 ∧ Three wr B1 52 (mxTo p s j) c (sqTo p s j) ∧ Same' w wr)
  case atStart => exact ⟨0, rfl, rfl, t0, t1, hf2⟩
  case round =>
    obtain ⟨j, hj, rfl, u0, u1, hfr⟩ := hrel
    have hSr := HS.out.same hfr
    by_cases hlt : j < n
    · have q1 := hSr.par.num j hlt
      by_cases e : p j = j
      · have hpj : ((p j : Int) == (j : Int)) = true := by rw [e]; simp
        have q2 := hSr.siz.num j hlt
        have h2 := hSr.c2
        have v0 := u1.c0
        have v2 := u1.c2
        have f0 := u1.free 0
        have f2 := u1.free 2
        have Hu := hide (And.intro u0 u1)
        have He := hide e
        have hs1 := Hs.out j hlt e
        have hmx := mxTo_le (p := p) (s := s) (j := j) (fun i hi => Hs.out i (by omega))
        clear hSr e u0 u1
        go_wp2
        go_region
        have ev : (if mxTo p s j < s j then ((s j : Nat) : Int) else ((mxTo p s j : Nat) : Int)) = ((max (mxTo p s j) (s j) : Nat) : Int) := by split <;> omega
        rw [ev]
        clear ev
        refine exit_world (fun w3 => Three w3 B0 52 0 0 0 ∧ Three w3 B1 52 (max (mxTo p s j) (s j)) c (sqTo p s j) ∧ Same' w w3) ?_ ?_
        · exact ⟨(Hu.out.1.other ⟨B1, 0, none⟩ (.int .i64 ((max (mxTo p s j) (s j) : Nat) : Int)) n1).to rfl, (Hu.out.2.set0 (max (mxTo p s j) (s j))).to rfl, (hfr.setCell ⟨B1, 0, none⟩ (.int .i64 ((max (mxTo p s j) (s j) : Nat) : Int)) (fun h => by simp only at h; omega)).to rfl rfl rfl rfl⟩
        rintro w3 ⟨u0, u1, hf3⟩
        clear q2 h2 v0 v2 f0 f2 q1 Hu
        have hS3 := HS.out.same hf3
        have q2 := hS3.siz.num j hlt
        have h2 := hS3.c2
        have v2 := u1.c2
        have f2 := u1.free 2
        have Hu := hide (And.intro u0 u1)
        have hsq : sqTo p s j ≤ j * (65536 * 65536) := sqTo_le (p := p) (s := s) (N := 65536) (j := j) (fun i hi => Hs.out i (by omega))
        have hm2 : s j * s j ≤ 65536 * 65536 := Nat.mul_le_mul hs1 hs1
        have Hq := hide (And.intro hsq hm2)
        clear hsq hm2
        clear hS3 u0 u1
        go_wp2
        go_region
        go_wp2
        go_roundg (n - (j + 1))
        case measure => omega
        case rel =>
          have hv := sq_val (n := j) (by omega) Hq.out.1 Hq.out.2
          rw [hv]
          refine ⟨j + 1, by omega, by go_num, (Hu.out.1.other ⟨B1, 2, none⟩ (.int .i64 ((sqTo p s j + s j * s j : Nat) : Int)) n1).to rfl, ?_, (hf3.setCell ⟨B1, 2, none⟩ (.int .i64 ((sqTo p s j + s j * s j : Nat) : Int)) (fun h => by simp only at h; omega)).to rfl rfl rfl rfl⟩
          have h := Hu.out.2.set2 (sqTo p s j + s j * s j)
          have e1 : mxTo p s (j + 1) = max (mxTo p s j) (s j) := by simp only [mxTo]; rw [if_pos He.out]
          have e2 : sqTo p s (j + 1) = sqTo p s j + s j * s j := by simp only [sqTo]; rw [if_pos He.out]
          rw [e1, e2]
          exact h.to rfl
      · have hpj : ((p j : Int) == (j : Int)) = false := by simp; omega
        have He := hide e
        have Hu := hide (And.intro u0 u1)
        clear hSr e u0 u1
        go_wp2
        go_roundg (n - (j + 1))
        case measure => omega
        case rel =>
          have e1 : mxTo p s (j + 1) = mxTo p s j := by simp only [mxTo]; rw [if_neg He.out]
          have e2 : sqTo p s (j + 1) = sqTo p s j := by simp only [sqTo]; rw [if_neg He.out]
          refine ⟨j + 1, by omega, by go_num, Hu.out.1, ?_, hfr⟩
          rw [e1, e2]
          exact Hu.out.2
    · have hjn : j = n := by omega
      subst hjn
      have v0 := u1.c0
      have v1 := u1.c1
      have v2 := u1.c2
      have z0 := u0.c0
      have z1 := u0.c1
      have z2 := u0.c2
      have f0 := u0.free 0
      have f1 := u0.free 1
      have f2 := u0.free 2
      have Hu := hide (And.intro u0 u1)
      clear hSr u0 u1
      go_wp2
      rw [← Hc.out]
      refine bodyPost_ret (v := .agg #[.int .i64 (mxTo p s j : Nat), .int .i64 (j - log.length : Nat), .int .i64 (sqTo p s j : Nat)]) ?_ rfl ⟨rfl, ?_⟩
      · have hT := ((Hu.out.1.set0 (mxTo p s j)).set1 (j - log.length)).set2 (sqTo p s j)
        have y0 := hT.c0
        have y1 := hT.c1
        have y2 := hT.c2
        simp [results, Try.results43, go_sem, y0, y1, y2]
      · exact ((hfr.setCell _ _ (fun h => by simp only at h; omega)).setCell _ _ (fun h => by simp only at h; omega)).setCell _ _ (fun h => by simp only at h; omega)

end Go.Proofs.Ytiaddgagncmbeaa

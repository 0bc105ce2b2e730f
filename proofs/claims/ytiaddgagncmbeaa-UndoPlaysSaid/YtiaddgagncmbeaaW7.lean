/- Walks: Labels. -/
import Derived.Test.YtiaddgagncmbeaaW6
import Derived.Test.YtiaddgagncmbeaaV
namespace Go.Proofs.Ytiaddgagncmbeaa
open Go.RowKit

set_option maxHeartbeats 400000 in
theorem Labels_bad (v : Value) (w : World) (hv : Calls Try.prog 30 #[v] w fun e w' => e = .returned (.bool false) ∧ w = w') :
    Calls Try.prog 13 #[v] w fun e w' => e = .returned (.slice none 0 0) ∧ w = w' := by
  have HV := hide hv
  clear hv
  go_enter Try.func13, Try.ntmps13
  go_wp2_with (go_at_call 30; refine HV.out.mono ?_; rintro e w' ⟨rfl, rfl⟩)
  go_ret
  exact ⟨rfl, rfl⟩

/-- What the first loop has found when it has come down to i. -/
def least (n : Nat) (r : Nat → Nat) (i v : Nat) : Nat := low r v (n - i) i

theorem least_start (n : Nat) (r : Nat → Nat) (v : Nat) : least n r n v = 0 := by simp [least, low]

theorem least_step {n : Nat} {r : Nat → Nat} {i : Nat} (hi : i < n) (v : Nat) : least n r i v = upd (least n r (i + 1)) (r i) i v := by
  unfold least
  rw [show n - i = (n - (i + 1)) + 1 from by omega]
  simp only [low, upd]
  by_cases e : v = r i
  · rw [if_pos e, if_pos e.symm]
  · rw [if_neg e, if_neg (fun h => e h.symm)]

theorem lab_step (n : Nat) (r : Nat → Nat) (i v : Nat) : (if v < i + 1 then lab n r v else 0) = upd (fun k => if k < i then lab n r k else 0) i (least n r 0 (r i)) v := by
  unfold upd
  by_cases e : v = i
  · subst e
    simp [least, lab]
  · rw [if_neg e]
    by_cases h : v < i
    · simp [h, show v < i + 1 by omega]
    · simp [h, show ¬ v < i + 1 by omega]

theorem RowV.num {w : World} {g : Nat} {t : TypeId} {cap n : Nat} {f : Nat → Nat} (h : RowV w g t cap n (numV f)) (i : Nat) (hi : i < n) : w.cell? ⟨g, i, none⟩ = some (.int .i64 (f i : Nat)) := h.cell i hi

theorem RowV.setN {w : World} {g : Nat} {t : TypeId} {cap n : Nat} {f f' : Nat → Nat} (h : RowV w g t cap n (numV f)) (i v : Nat) (hi : i < n) (hf : ∀ j, j < n → f' j = upd f i v j) :
    RowV (w.setCell ⟨g, i, none⟩ (.int .i64 (v : Nat))) g t cap n (numV f') := by
  refine (h.set i hi _).congr fun j hj => ?_
  show (if j = i then _ else numV f j) = numV f' j
  unfold numV
  rw [hf j hj]
  unfold upd
  split <;> rfl

set_option maxHeartbeats 2000000 in
theorem Labels_at (L : Lay) (n : Nat) (p s r d : Nat → Nat) (log : List Nat) (w : World) (hS : SetsAt w L n p s log) (hF : Fo n p r d) (hn : n ≤ 65536) :
    Calls Try.prog 13 #[.pointer (some ⟨L.b, 0, none⟩)] w fun e w' => ∃ g, e = .returned (.slice (some ⟨g, 0, none⟩) n n) ∧ RowV w' g 3 n n (numV (lab n r)) ∧ w.heap.size ≤ g ∧ Same' w w' := by
  have hmk := run_make_row' (P := Try.prog) 27 3 (.int .i64 0) 8 Try.underlying27 Try.info3 rfl .i64 .i64 n (by omega) (by omega)
  have h0 := hide hS.c0
  have h1 := hS.c1
  have h1' : ∀ o, (w.alloc o).cell? ⟨L.b, 1, none⟩ = some (.slice (some ⟨L.gp, 0, none⟩) n L.cp) := fun o => (World.cell?_alloc_lt w o _ hS.blt).trans hS.c1
  have HS := hide hS
  have HF := hide hF
  clear hS hF
  go_enter Try.func13, Try.ntmps13
  go_wp2_with (go_at_call 30; refine (valid_at L.b true _ h0.out).mono ?_; rintro e w' ⟨rfl, rfl⟩)
  go_region
  · generalize hA : w.heap.size = A
    generalize hB : A + 1 = B
    refine exit_world (fun w2 => RowV w2 A 3 n n (numV fun _ => 0) ∧ RowV w2 B 3 n n (numV fun _ => 0) ∧ A ≠ B ∧ w.heap.size ≤ A ∧ w.heap.size ≤ B ∧ Same' w w2) ?_ ?_
    · subst hA hB
      refine ⟨((RowV.zero w n (by unfold maxLen; omega)).alloc _).of_block rfl, ?_, by omega, by omega, by omega, (((Fr.refl _ w).alloc _).alloc _).to rfl rfl rfl rfl⟩
      have h := RowV.zero (w.alloc (.cells (madeCells #[.int .i64 0] n) 3)) n (by unfold maxLen; omega)
      rw [World.size_alloc] at h
      exact h.of_block rfl
    rintro w2 ⟨hA2, hB2, hAB, hA3, hB3, hf2⟩
    clear hA hB h1 h1' hmk
    have h1 := (HS.out.same hf2).c1
    have HA2 := hide hA2
    have HB2 := hide hB2
    clear hA2 hB2
    go_wp2
    go_loopw [5] (fun i wr => ∃ j : Nat, j ≤ n ∧ i = .int .i64 ((j : Int) - 1) ∧ RowV wr A 3 n n (numV fun _ => 0) ∧ RowV wr B 3 n n (numV (least n r j)) ∧ Same' w wr) (fun i _ => (intOf i + 1).toNat)
    case atStart => exact ⟨n, Nat.le_refl _, rfl, HA2.out, HB2.out.congr (fun i _ => by simp only [numV]; rw [least_start]), hf2⟩
    case round =>
      obtain ⟨j, hj, rfl, hA4, hB4, hf4⟩ := hrel
      by_cases hj0 : 0 < j
      · obtain ⟨i, rfl⟩ : ∃ i, j = i + 1 := ⟨j - 1, by omega⟩
        have hri := HF.out.rlt i (by omega)
        have q := hB4.num (r i) hri
        have fb := hB4.free (r i)
        have HA4 := hide hA4
        have HB4 := hide hB4
        have hS4 := hide (HS.out.same hf4)
        clear hA4 hB4
        rw [show (((i + 1 : Nat) : Int) - 1) = (i : Int) from by omega]
        go_wp2_with (go_at_call 31; refine (hS4.out.root HF.out i (by omega)).mono ?_; rintro e w' ⟨rfl, rfl⟩)
        go_roundw
        case measure => simp [intOf]
        case rel =>
          exact ⟨i, by omega, rfl, HA4.out.setOther _ _ hAB, HB4.out.setN _ _ hri (fun v _ => least_step (by omega) v), hf4.setCell _ _ (fun h => by simp only at h; omega)⟩
      · obtain rfl : j = 0 := by omega
        have HA4 := hide hA4
        have HB4 := hide hB4
        clear hA4 hB4
        go_wp2
        go_loopg [6, 40] n (fun m _ k wr => ∃ j : Nat, m + j = n ∧ k = .int .i64 j ∧ RowV wr A 3 n n (numV fun i => if i < j then lab n r i else 0) ∧ RowV wr B 3 n n (numV (least n r 0)) ∧ Same' w wr)
        case atStart => exact ⟨0, rfl, rfl, HA4.out.congr (fun i _ => by simp [numV]), HB4.out, hf4⟩
        case round =>
          obtain ⟨i, hi, rfl, hA5, hB5, hf5⟩ := hrel
          by_cases hlt : i < n
          · have hri := HF.out.rlt i (by omega)
            have q := hB5.num (r i) hri
            have q2 := hA5.num i hlt
            have fa := hA5.free i
            have HA5 := hide hA5
            have HB5 := hide hB5
            have hS5 := hide (HS.out.same hf5)
            clear hA5 hB5
            go_wp2_with (go_at_call 31; refine (hS5.out.root HF.out i (by omega)).mono ?_; rintro e w' ⟨rfl, rfl⟩)
            go_roundg (n - (i + 1))
            case measure => omega
            case rel =>
              refine ⟨i + 1, by omega, by go_num, HA5.out.setN i (least n r 0 (r i)) hlt (fun v _ => ?_), HB5.out.setOther _ _ hAB.symm, hf5.setCell _ _ (fun h => by simp only at h; omega)⟩
              exact lab_step n r i v
          · have hin : i = n := by omega
            subst hin
            have HA5 := hide hA5
            have HB5 := hide hB5
            clear hA5 hB5
            go_wp2
            go_ret
            exact ⟨A, rfl, HA5.out.congr (fun v hv => by simp [numV, hv]), hA3, hf5⟩
  · generalize hB : w.heap.size = B
    generalize hA : B + 1 = A
    refine exit_world (fun w2 => RowV w2 A 3 n n (numV fun _ => 0) ∧ RowV w2 B 3 n n (numV fun _ => 0) ∧ A ≠ B ∧ w.heap.size ≤ A ∧ w.heap.size ≤ B ∧ Same' w w2) ?_ ?_
    · subst hB hA
      refine ⟨?_, ((RowV.zero w n (by unfold maxLen; omega)).alloc _).of_block rfl, by omega, by omega, by omega, (((Fr.refl _ w).alloc _).alloc _).to rfl rfl rfl rfl⟩
      have h := RowV.zero (w.alloc (.cells (madeCells #[.int .i64 0] n) 3)) n (by unfold maxLen; omega)
      rw [World.size_alloc] at h
      exact h.of_block rfl
    rintro w2 ⟨hA2, hB2, hAB, hA3, hB3, hf2⟩
    clear hA hB h1 h1' hmk
    have h1 := (HS.out.same hf2).c1
    have HA2 := hide hA2
    have HB2 := hide hB2
    clear hA2 hB2
    go_wp2
    go_loopw [5] (fun i wr => ∃ j : Nat, j ≤ n ∧ i = .int .i64 ((j : Int) - 1) ∧ RowV wr A 3 n n (numV fun _ => 0) ∧ RowV wr B 3 n n (numV (least n r j)) ∧ Same' w wr) (fun i _ => (intOf i + 1).toNat)
    case atStart => exact ⟨n, Nat.le_refl _, rfl, HA2.out, HB2.out.congr (fun i _ => by simp only [numV]; rw [least_start]), hf2⟩
    case round =>
      obtain ⟨j, hj, rfl, hA4, hB4, hf4⟩ := hrel
      by_cases hj0 : 0 < j
      · obtain ⟨i, rfl⟩ : ∃ i, j = i + 1 := ⟨j - 1, by omega⟩
        have hri := HF.out.rlt i (by omega)
        have q := hB4.num (r i) hri
        have fb := hB4.free (r i)
        have HA4 := hide hA4
        have HB4 := hide hB4
        have hS4 := hide (HS.out.same hf4)
        clear hA4 hB4
        rw [show (((i + 1 : Nat) : Int) - 1) = (i : Int) from by omega]
        go_wp2_with (go_at_call 31; refine (hS4.out.root HF.out i (by omega)).mono ?_; rintro e w' ⟨rfl, rfl⟩)
        go_roundw
        case measure => simp [intOf]
        case rel =>
          exact ⟨i, by omega, rfl, HA4.out.setOther _ _ hAB, HB4.out.setN _ _ hri (fun v _ => least_step (by omega) v), hf4.setCell _ _ (fun h => by simp only at h; omega)⟩
      · obtain rfl : j = 0 := by omega
        have HA4 := hide hA4
        have HB4 := hide hB4
        clear hA4 hB4
        go_wp2
        go_loopg [6, 40] n (fun m _ k wr => ∃ j : Nat, m + j = n ∧ k = .int .i64 j ∧ RowV wr A 3 n n (numV fun i => if i < j then lab n r i else 0) ∧ RowV wr B 3 n n (numV (least n r 0)) ∧ Same' w wr)
        case atStart => exact ⟨0, rfl, rfl, HA4.out.congr (fun i _ => by simp [numV]), HB4.out, hf4⟩
        case round =>
          obtain ⟨i, hi, rfl, hA5, hB5, hf5⟩ := hrel
          by_cases hlt : i < n
          · have hri := HF.out.rlt i (by omega)
            have q := hB5.num (r i) hri
            have q2 := hA5.num i hlt
            have fa := hA5.free i
            have HA5 := hide hA5
            have HB5 := hide hB5
            have hS5 := hide (HS.out.same hf5)
            clear hA5 hB5
            go_wp2_with (go_at_call 31; refine (hS5.out.root HF.out i (by omega)).mono ?_; rintro e w' ⟨rfl, rfl⟩)
            go_roundg (n - (i + 1))
            case measure => omega
            case rel =>
              refine ⟨i + 1, by omega, by go_num, HA5.out.setN i (least n r 0 (r i)) hlt (fun v _ => ?_), HB5.out.setOther _ _ hAB.symm, hf5.setCell _ _ (fun h => by simp only at h; omega)⟩
              exact lab_step n r i v
          · have hin : i = n := by omega
            subst hin
            have HA5 := hide hA5
            have HB5 := hide hB5
            clear hA5 hB5
            go_wp2
            go_ret
            exact ⟨A, rfl, HA5.out.congr (fun v hv => by simp [numV, hv]), hA3, hf5⟩

end Go.Proofs.Ytiaddgagncmbeaa

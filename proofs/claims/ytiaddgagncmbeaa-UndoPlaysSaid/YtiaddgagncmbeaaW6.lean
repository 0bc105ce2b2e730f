/- Walks: New, Labels. -/
import Derived.Test.YtiaddgagncmbeaaW5
import Derived.Deep.OwnRows
namespace Go.Proofs.Ytiaddgagncmbeaa
open Go.RowKit

theorem made_get (z : Value) (n i : Nat) (hi : i < n) : (madeCells #[z] n)[i]? = some z := by
  have h := toList_madeCells_one z n
  rw [← Array.getElem?_toList, h]
  simp [hi]

theorem RowV.zero (w : World) (n : Nat) (hn : n ≤ maxLen) : RowV (w.alloc (.cells (madeCells #[.int .i64 0] n) 3)) w.heap.size 3 n n (numV fun _ => 0) :=
  RowV.made w 3 _ n _ (size_madeCells _ _) hn (fun i hi => made_get _ n i hi)

set_option maxHeartbeats 400000 in
theorem New_out (n : Int) (w : World) (h : n < 0 ∨ 65536 < n) :
    Calls Try.prog 18 #[.int .i64 n] w fun e w' => e = .returned (.tuple #[.pointer none, .int .i64 2]) ∧ w = w' := by
  rcases h with h | h
  · go_enter Try.func18, Try.ntmps18
    go_wp2
    go_ret2
    exact ⟨rfl, rfl⟩
  · have h' : 0 ≤ n := by omega
    go_enter Try.func18, Try.ntmps18
    go_wp2
    go_ret2
    exact ⟨rfl, rfl⟩

theorem SetsAt.congr {w : World} {L : Lay} {n : Nat} {p s p' s' : Nat → Nat} {log : List Nat} (h : SetsAt w L n p s log) (hp : ∀ i, i < n → p i = p' i) (hs : ∀ i, i < n → s i = s' i) : SetsAt w L n p' s' log :=
  ⟨h.hdr, h.par.congr fun i hi => by simp only [numV]; rw [hp i hi], h.siz.congr fun i hi => by simp only [numV]; rw [hs i hi], h.lg, h.ne, h.nel⟩

theorem new_sets (w : World) (n gp gs : Nat) (hn : n ≤ maxLen) (hg : (gp = w.heap.size ∧ gs = w.heap.size + 1) ∨ (gp = w.heap.size + 1 ∧ gs = w.heap.size)) :
    SetsAt (((w.alloc (.cells (madeCells #[.int .i64 0] n) 3)).alloc (.cells (madeCells #[.int .i64 0] n) 3)).alloc (.cells #[.bool true, .slice (some ⟨gp, 0, none⟩) n n, .slice (some ⟨gs, 0, none⟩) n n, .slice none 0 0] 59))
      ⟨w.heap.size + 1 + 1, gp, gs, n, n, none, 0⟩ n (fun _ => 0) (fun _ => 0) [] := by
  have r0 := RowV.zero w n hn
  have r1 := RowV.zero (w.alloc (.cells (madeCells #[.int .i64 0] n) 3)) n hn
  have r0' := (r0.alloc (.cells (madeCells #[.int .i64 0] n) 3)).alloc (.cells #[.bool true, .slice (some ⟨gp, 0, none⟩) n n, .slice (some ⟨gs, 0, none⟩) n n, .slice none 0 0] 59)
  have r1' := r1.alloc (.cells #[.bool true, .slice (some ⟨gp, 0, none⟩) n n, .slice (some ⟨gs, 0, none⟩) n n, .slice none 0 0] 59)
  rw [World.size_alloc] at r1'
  have hh := heap_alloc_new ((w.alloc (.cells (madeCells #[.int .i64 0] n) 3)).alloc (.cells (madeCells #[.int .i64 0] n) 3)) (.cells #[.bool true, .slice (some ⟨gp, 0, none⟩) n n, .slice (some ⟨gs, 0, none⟩) n n, .slice none 0 0] 59)
  rw [World.size_alloc, World.size_alloc] at hh
  rcases hg with ⟨rfl, rfl⟩ | ⟨rfl, rfl⟩
  · exact ⟨hh, r0', r1', World.ownsRow_nil _ _ _ _, by simp, fun k hk => by simp at hk⟩
  · exact ⟨hh, r1', r0', World.ownsRow_nil _ _ _ _, by simp, fun k hk => by simp at hk⟩

set_option maxHeartbeats 1000000 in
theorem New_in (n : Nat) (hn : n ≤ 65536) (w : World) :
    Calls Try.prog 18 #[.int .i64 n] w fun e w' => ∃ L : Lay, e = .returned (.tuple #[.pointer (some ⟨L.b, 0, none⟩), .int .i64 0]) ∧
      SetsAt w' L n T.zero.p T.zero.s [] ∧ Same' w w' ∧ ∀ k, L.mem k → w.heap.size ≤ k := by
  have hmk := run_make_row' (P := Try.prog) 27 3 (.int .i64 0) 8 Try.underlying27 Try.info3 rfl .i64 .i64 n (by omega) (by omega)
  go_enter Try.func18, Try.ntmps18
  go_wp2
  go_region
  all_goals
    refine exit_world (fun w2 => ∃ L : Lay, L.b = w.heap.size + 1 + 1 ∧ SetsAt w2 L n (fun _ => 0) (fun _ => 0) [] ∧ Same' w w2 ∧ ∀ k, L.mem k → w.heap.size ≤ k) ?_ ?_
    · first
        | exact ⟨_, rfl, (new_sets w n w.heap.size (w.heap.size + 1) (by unfold maxLen; omega) (.inl ⟨rfl, rfl⟩)).to rfl, ((((Fr.refl _ w).alloc _).alloc _).alloc _).to rfl rfl rfl rfl, fun k hk => by rcases hk with rfl | rfl | rfl | hk <;> simp at * <;> omega⟩
        | exact ⟨_, rfl, (new_sets w n (w.heap.size + 1) w.heap.size (by unfold maxLen; omega) (.inr ⟨rfl, rfl⟩)).to rfl, ((((Fr.refl _ w).alloc _).alloc _).alloc _).to rfl rfl rfl rfl, fun k hk => by rcases hk with rfl | rfl | rfl | hk <;> simp at * <;> omega⟩
    rintro w2 ⟨L, hLb, hS, hf, hm⟩
    rw [← hLb]
    have HLB := hide hLb
    have HM := hide hm
    have HS := hide hS
    clear hLb hm hmk hS
    go_wp2
    go_loopw [5, 19] (fun _ k wr => ∃ j : Nat, j ≤ n ∧ k = .int .i64 j ∧ SetsAt wr L n (fun i => if i < j then i else 0) (fun i => if i < j then 1 else 0) [] ∧ Same' w wr) (fun _ k _ => n - (intOf k).toNat)
    case atStart => exact ⟨0, Nat.zero_le _, rfl, HS.out, hf⟩
    case round =>
      obtain ⟨j, hj, rfl, hSj, hfj⟩ := hrel
      by_cases hlt : j < n
      · have h1 := hSj.c1
        have h2 := hSj.c2
        have n1 := hSj.ne
        have q1 := hSj.par.cell j hlt
        have q2 := hSj.siz.cell j hlt
        have f1 := hSj.par.free j
        have f2 := hSj.siz.free j
        have HSJ := hide hSj
        clear hSj
        go_wp2
        go_region
        go_wp2
        go_roundw
        case measure => simp [intOf]; omega
        case rel =>
          refine ⟨j + 1, by omega, by go_num, ?_, ?_⟩
          · have h := ((HSJ.out.setPar j j hlt).setSiz j 1 hlt)
            refine (h.to (by rfl)).congr (fun i _ => ?_) (fun i _ => ?_)
            · show (if i = j then j else if i < j then i else 0) = if i < j + 1 then i else 0
              split <;> split <;> (try split) <;> omega
            · show (if i = j then 1 else if i < j then 1 else 0) = if i < j + 1 then 1 else 0
              split <;> split <;> (try split) <;> omega
          · have hb1 := HM.out L.gp (.inr (.inl rfl))
            have hb2 := HM.out L.gs (.inr (.inr (.inl rfl)))
            exact ((hfj.setCell _ _ (fun h => by simp only at h; omega)).setCell _ _ (fun h => by simp only at h; omega)).to rfl rfl rfl rfl
      · obtain rfl : j = n := by omega
        have HSJ := hide hSj
        clear hSj
        go_wp2
        go_ret2
        exact ⟨L, rfl, HSJ.out.congr (fun i hi => by simp [hi, T.zero]) (fun i hi => by simp [hi, T.zero]), hfj, HM.out⟩

end Go.Proofs.Ytiaddgagncmbeaa

/- The walk of UndoPlays. -/
import Derived.Test.YtiaddgagncmbeaaG4
import Derived.Deep.RegionHeld3
namespace Go.Proofs.Ytiaddgagncmbeaa
open Go.RowKit

/-- A step in a variable. -/
def Four (w : World) (g : Nat) (d a b : Int) (v : Value) : Prop := w.heap[g]? = some (.cells #[.int .i64 d, .int .i64 a, .int .i64 b, v] 48 (0, 0))
namespace Four
variable {w w' : World} {g : Nat} {d a b : Int} {v : Value}
theorem c0 (h : Four w g d a b v) : w.cell? ⟨g, 0, none⟩ = some (.int .i64 d) := by rw [cell_of_row w _ _ _ _ _ h]; rfl
theorem c1 (h : Four w g d a b v) : w.cell? ⟨g, 1, none⟩ = some (.int .i64 a) := by rw [cell_of_row w _ _ _ _ _ h]; rfl
theorem c2 (h : Four w g d a b v) : w.cell? ⟨g, 2, none⟩ = some (.int .i64 b) := by rw [cell_of_row w _ _ _ _ _ h]; rfl
theorem c3 (h : Four w g d a b v) : w.cell? ⟨g, 3, none⟩ = some v := by rw [cell_of_row w _ _ _ _ _ h]; rfl
theorem lt (h : Four w g d a b v) : g < w.heap.size := lt_of_block h
theorem keep {M : Nat → Prop} (h : Four w g d a b v) (hf : Fr M w w') (hm : ¬ M g) : Four w' g d a b v := (hf.block g h.lt hm).trans h
theorem same (h : Four w g d a b v) (hf : Same' w w') : Four w' g d a b v := h.keep hf id
end Four

/-- A row in a variable. -/
def Tri (w : World) (g : Nat) (x y z : Int) : Prop := w.heap[g]? = some (.cells #[.int .i64 x, .int .i64 y, .int .i64 z] 52 (0, 0))
namespace Tri
variable {w w' : World} {g : Nat} {x y z : Int}
theorem c0 (h : Tri w g x y z) : w.cell? ⟨g, 0, none⟩ = some (.int .i64 x) := by rw [cell_of_row w _ _ _ _ _ h]; rfl
theorem c1 (h : Tri w g x y z) : w.cell? ⟨g, 1, none⟩ = some (.int .i64 y) := by rw [cell_of_row w _ _ _ _ _ h]; rfl
theorem c2 (h : Tri w g x y z) : w.cell? ⟨g, 2, none⟩ = some (.int .i64 z) := by rw [cell_of_row w _ _ _ _ _ h]; rfl
theorem lt (h : Tri w g x y z) : g < w.heap.size := lt_of_block h
theorem same (h : Tri w g x y z) (hf : Same' w w') : Tri w' g x y z := (hf.block g h.lt id).trans h
end Tri

theorem PS.same {w0 w w' w'' : World} {n : Nat} {s r : Value} {F : Nat → Prop} (h : PS w0 w w' n s r F) (hf : Same' w' w'') : PS w0 w w'' n s r F := by
  obtain ⟨F', h1, h2⟩ := h
  exact ⟨F', h1.same hf, h2.trans (hf.mono (fun _ _ h => h.elim))⟩

theorem PS.fr {w0 w w' : World} {n : Nat} {s r : Value} {F : Nat → Prop} (h : PS w0 w w' n s r F) : Fr F w w' := by
  obtain ⟨F', h1, h2⟩ := h
  exact h2

theorem start_nil (w : World) (n : Int) (h : n < 0 ∨ 65536 < n) :
    Calls Try.prog 18 #[.int .i64 n] w fun e w1 => e = .returned (.tuple #[.pointer none, .int .i64 2]) ∧ Calls Try.prog 19 #[.int .i64 n] w1 fun e w2 => e = .returned (.tuple #[.pointer none, .int .i64 2]) ∧ ∃ F, Pair w w2 0 (.pointer none) (.pointer none) F := by
  refine (New_out n w h).mono ?_
  rintro e w1 ⟨rfl, rfl⟩
  refine ⟨rfl, (RNew_out n w h).mono ?_⟩
  rintro e w2 ⟨rfl, rfl⟩
  exact ⟨rfl, fun _ => False, .inl ⟨rfl, rfl, fun _ h => h, Fr.refl _ _⟩⟩

theorem start_at (w : World) (n : Nat) (h : n ≤ 65536) :
    Calls Try.prog 18 #[.int .i64 n] w fun e w1 => ∃ a, e = .returned (.tuple #[.pointer (some a), .int .i64 0]) ∧ Same' w w1 ∧ Calls Try.prog 19 #[.int .i64 n] w1 fun e w2 => ∃ b, e = .returned (.tuple #[.pointer (some b), .int .i64 0]) ∧ ∃ F, Pair w w2 n (.pointer (some a)) (.pointer (some b)) F := by
  refine (New_S n h w).mono ?_
  rintro e w1 ⟨L, rfl, hS, hf1, hm⟩
  refine ⟨_, rfl, hf1, (RNew_in n h w1).mono ?_⟩
  rintro e w2 ⟨b, M, rfl, hR, hf2, hM⟩
  refine ⟨_, rfl, fun k => L.mem k ∨ (M k ∧ k < w2.heap.size), .inr ⟨St.zero, L, fun k => M k ∧ k < w2.heap.size, b, rfl, rfl, ?_, hf1.trans hf2, hS.same hf2, hR.clip, St.zero_ok n, h, ?_, fun k hk => .inr hk⟩⟩
  · have hlt := SetsAt.memlt hS
    have s1 := hf1.size
    have s2 := hf2.size
    rintro k (hk | hk)
    · have := hlt k hk
      exact ⟨hm k hk, by omega⟩
    · have := hM k hk.1
      exact ⟨by omega, hk.2⟩
  · intro k hk
    refine ⟨.inl hk, fun hk' => ?_⟩
    have := SetsAt.memlt hS k hk
    have := hM k hk'.1
    omega


set_option maxRecDepth 100000 in
set_option maxHeartbeats 4000000 in
theorem UndoPlays_any (w : World) (n : Int) (v1 : Value) (m : Nat) (D A B : Nat → Int) (V : Nat → Value) (hst : StepsAt w v1 m D A B V) (hm : m ≤ maxLen) (x y : Int) :
    Calls Try.prog 7 #[.int .i64 n, v1, .int .i64 x, .int .i64 y] w fun e w' => e = .returned (.bool true) ∧ Same' w w' := by
  obtain ⟨a1, c1, rfl, hst⟩ := hst
  have HST := hide hst
  clear hst
  have hm' : m ≤ 9223372036854775807 := by unfold maxLen at hm; omega
  clear hm
  by_cases hn : 60 < n
  · by_cases hn2 : 65536 < n
    · have C := hide (New_out n w (.inr hn2))
      go_enter Try.func7, Try.ntmps7
      go_wp2_with (first | (go_at_call 18; refine C.out.mono ?_; clear C; rintro e w' ⟨rfl, rfl⟩) | (go_at_call 10; refine (works_any _).mono ?_; rintro e w2 ⟨rfl, hf2⟩))
      go_ret
      exact ⟨rfl, hf2⟩
    · obtain ⟨N, rfl⟩ : ∃ N : Nat, n = N := ⟨n.toNat, by omega⟩
      have C := hide (New_S N (by omega) w)
      go_enter Try.func7, Try.ntmps7
      go_wp2_with (first | (go_at_call 18; refine C.out.mono ?_; clear C; rintro e w1 ⟨L, rfl, _, hf1, _⟩) | (go_at_call 10; refine (works_any _).mono ?_; rintro e w2 ⟨rfl, hf2⟩))
      go_ret
      exact ⟨rfl, hf1.trans hf2⟩
  · by_cases hm2 : 120 < m
    · by_cases hn0 : n < 0
      · have C := hide (New_out n w (.inl hn0))
        go_enter Try.func7, Try.ntmps7
        go_wp2_with (first | (go_at_call 18; refine C.out.mono ?_; clear C; rintro e w' ⟨rfl, rfl⟩) | (go_at_call 10; refine (works_any _).mono ?_; rintro e w2 ⟨rfl, hf2⟩))
        go_ret
        exact ⟨rfl, hf2⟩
      · obtain ⟨N, rfl⟩ : ∃ N : Nat, n = N := ⟨n.toNat, by omega⟩
        have C := hide (New_S N (by omega) w)
        go_enter Try.func7, Try.ntmps7
        go_wp2_with (first | (go_at_call 18; refine C.out.mono ?_; clear C; rintro e w1 ⟨L, rfl, _, hf1, _⟩) | (go_at_call 10; refine (works_any _).mono ?_; rintro e w2 ⟨rfl, hf2⟩))
        go_ret
        exact ⟨rfl, hf1.trans hf2⟩
    · by_cases hn0 : n < 0
      · have C := hide (start_nil w n (.inl hn0))
        obtain ⟨N, hN⟩ : ∃ N : Nat, N = 0 := ⟨_, rfl⟩
        go_enter Try.func7, Try.ntmps7
        go_wp2_with fail
        refine C.out.mono ?_
        clear C
        rintro e w1 ⟨rfl, C2⟩
        have C := hide C2
        clear C2
        go_wp2_with fail
        refine C.out.mono ?_
        clear C
        rintro e w2 ⟨rfl, F, hp⟩
        rw [← hN] at hp
        have HP := hide hp
        clear hp hN
        go_wp2
        go_loopg [9, 11, 13] m (fun q s r i wr => ∃ (j : Nat) (so ro : Option Addr) (F : Nat → Prop), q + j = m ∧ i = .int .i64 j ∧ s = .pointer so ∧ r = .pointer ro ∧ Pair w wr N s r F)
        case atStart => exact ⟨0, _, _, _, by omega, rfl, rfl, rfl, HP.out⟩
        case round =>
          clear HP
          obtain ⟨j, so, ro, F, hq, rfl, rfl, rfl, hp⟩ := hrel
          by_cases hlt : j < m
          · obtain ⟨g, o, rfl, hd, ha, hb, hv, ap, mp, cp, xs, ys, hV, hmp, hpc⟩ := HST.out j hlt
            have hf0 := hp.f0
            have hd := (hf0.cell (block_lt_of_cell hd) id).trans hd
            have ha := (hf0.cell (block_lt_of_cell ha) id).trans ha
            have hb := (hf0.cell (block_lt_of_cell hb) id).trans hb
            have hv := (hf0.cell (block_lt_of_cell hv) id).trans hv
            rw [hV] at hv
            have HPC := hide hpc
            have HP := hide hp
            clear hp hf0 hV hpc
            by_cases d0 : D j = 0
            · rw [d0] at hd
              clear d0
              have hx : Four (wr.alloc (.cells #[.int .i64 0, .int .i64 (A j), .int .i64 (B j), .slice ap mp cp] 48)) wr.heap.size 0 (A j) (B j) (.slice ap mp cp) := heap_alloc_new wr _
              have hx0 := hx.c0
              have hx1 := hx.c1
              have hx2 := hx.c2
              have hx3 := hx.c3
              have HX := hide hx
              have HP1 := hide (HP.out.same ((Fr.refl _ wr).alloc (.cells #[.int .i64 0, .int .i64 (A j), .int .i64 (B j), .slice ap mp cp] 48)))
              have hnF : Hid (¬ F wr.heap.size) := fun hk => by have := HP.out.lt _ hk; omega
              clear hx HP
              obtain ⟨cc, kk, cu⟩ := HP1.out.union (A j) (B j)
              have C := hide cu
              clear cu
              go_wp2_with fail
              refine C.out.mono ?_
              clear C
              rintro e w3 ⟨rfl, hf3, c2⟩
              have hx3' := HX.out.keep hf3 hnF.out
              have xA := hx3'.c1
              have xB := hx3'.c2
              have C := hide c2
              clear c2 hf3 hx3'
              go_wp2_with fail
              refine C.out.mono ?_
              clear C
              rintro e w5 ⟨rfl, hps⟩
              clear xA xB
              obtain ⟨F', hp5, hf5⟩ := hps
              have HP := hide hp5
              have HX' := hide (HX.out.keep hf5 hnF.out)
              clear HX hp5 hf5 HP1 hnF hx0 hx1 hx2 hx3
              have HX := HX'
              clear HX'
              have C := hide (HP.out.agree x y)
              go_wp2_with fail
              refine C.out.mono ?_
              clear C
              rintro e w6 ⟨rfl, hf6⟩
              have hX6 := HX.out.same hf6
              have xA := hX6.c1
              have xB := hX6.c2
              have HP' := hide (HP.out.same hf6)
              clear hX6 hf6 HP
              have C := hide (HP'.out.agree (A j) (B j))
              go_wp2_with fail
              refine C.out.mono ?_
              clear C
              rintro e w7 ⟨rfl, hf7⟩
              have HP := hide (HP'.out.same hf7)
              clear HP' hf7 xA xB
              go_wp2
              go_roundg (m - (j + 1))
              case measure => omega
              case rel => exact ⟨j + 1, _, _, _, by omega, by go_num, rfl, rfl, HP.out⟩
            · by_cases d1 : D j = 1
              · rw [d1] at hd
                clear d0 d1
                have hx : Four (wr.alloc (.cells #[.int .i64 1, .int .i64 (A j), .int .i64 (B j), .slice ap mp cp] 48)) wr.heap.size 1 (A j) (B j) (.slice ap mp cp) := heap_alloc_new wr _
                have hx0 := hx.c0
                have hx1 := hx.c1
                have hx2 := hx.c2
                have hx3 := hx.c3
                have HX := hide hx
                have HP1 := hide (HP.out.same ((Fr.refl _ wr).alloc (.cells #[.int .i64 1, .int .i64 (A j), .int .i64 (B j), .slice ap mp cp] 48)))
                have hnF : Hid (¬ F wr.heap.size) := fun hk => by have := HP.out.lt _ hk; omega
                clear hx HP
                have HP2 := hide (HP1.out.same ((Fr.refl _ _).drew))
                have HXd := hide (HX.out.same ((Fr.refl _ _).drew))
                obtain ⟨kk, u1, u2⟩ := HP2.out.undo (A j)
                have C1 := hide u1
                have C2 := hide u2
                have H0 := HXd.out.c1
                clear u1 u2
                go_wp2_with fail
                go_region_held3 (fun w' => w'.cell? ⟨wr.heap.size, 1, none⟩ = some (.int .i64 (A j))) (first | exact H0 | exact xK) (first | (go_at_call 16; first | (refine HC16.out.mono ?_; rintro e w5 ⟨rfl, hps⟩; (have xK := (HXd.out.keep hps.fr hnF.out).c1)) | (refine C1.out.mono ?_; rintro e w3 ⟨rfl, hf3, c25⟩; (have HC25 := hide c25); (have xK := (HXd.out.keep hf3 hnF.out).c1); clear c25 hf3)) | (go_at_call 25; first | (refine HC25.out.mono ?_; rintro e w5 ⟨rfl, hps⟩; (have xK := (HXd.out.keep hps.fr hnF.out).c1)) | (refine C2.out.mono ?_; rintro e w3 ⟨rfl, hf3, c16⟩; (have HC16 := hide c16); (have xK := (HXd.out.keep hf3 hnF.out).c1); clear c16 hf3)))
                all_goals
                  clear HX C1 C2 H0
                  have HX := HXd
                  clear HXd HP2
                  try clear HC16
                  try clear HC25
                  clear xK
                  obtain ⟨F', hp5, hf5⟩ := hps
                  have HP := hide hp5
                  have HX' := hide (HX.out.keep hf5 hnF.out)
                  clear HX hp5 hf5 HP1 hnF hx0 hx1 hx2 hx3
                  have HX := HX'
                  clear HX'
                  have C := hide (HP.out.agree x y)
                  go_wp2_with fail
                  refine C.out.mono ?_
                  clear C
                  rintro e w6 ⟨rfl, hf6⟩
                  have hX6 := HX.out.same hf6
                  have xA := hX6.c1
                  have xB := hX6.c2
                  have HP' := hide (HP.out.same hf6)
                  clear hX6 hf6 HP
                  have C := hide (HP'.out.agree (A j) (B j))
                  go_wp2_with fail
                  refine C.out.mono ?_
                  clear C
                  rintro e w7 ⟨rfl, hf7⟩
                  have HP := hide (HP'.out.same hf7)
                  clear HP' hf7 xA xB
                  go_wp2
                  go_roundg (m - (j + 1))
                  case measure => omega
                  case rel => exact ⟨j + 1, _, _, _, by omega, by go_num, rfl, rfl, HP.out⟩
              · by_cases d2 : D j = 2
                · rw [d2] at hd
                  clear d0 d1 d2
                  have hx : Four (wr.alloc (.cells #[.int .i64 2, .int .i64 (A j), .int .i64 (B j), .slice ap mp cp] 48)) wr.heap.size 2 (A j) (B j) (.slice ap mp cp) := heap_alloc_new wr _
                  have hx0 := hx.c0
                  have hx1 := hx.c1
                  have hx2 := hx.c2
                  have hx3 := hx.c3
                  have HX := hide hx
                  have HP1 := hide (HP.out.same ((Fr.refl _ wr).alloc (.cells #[.int .i64 2, .int .i64 (A j), .int .i64 (B j), .slice ap mp cp] 48)))
                  have hnF : Hid (¬ F wr.heap.size) := fun hk => by have := HP.out.lt _ hk; omega
                  clear hx HP
                  by_cases hlen : 60 < mp
                  · have C := hide (works_any (wr.alloc (.cells #[.int .i64 2, .int .i64 (A j), .int .i64 (B j), .slice ap mp cp] 48)))
                    go_wp2_with fail
                    refine C.out.mono ?_
                    clear C
                    rintro e w8 ⟨rfl, hf8⟩
                    go_wp2
                    go_ret
                    exact ⟨rfl, HP1.out.f0.trans hf8⟩
                  · obtain ⟨rx, ry, rz, kk, cu⟩ := HP1.out.trial (by omega : mp ≤ 60) HPC.out
                    have C := hide cu
                    clear cu
                    go_wp2_with fail
                    refine C.out.mono ?_
                    clear C
                    rintro e w3 ⟨rfl, hf3, c2⟩
                    have hx3' := (HX.out.keep hf3 hnF.out).same ((Fr.refl _ w3).alloc (.cells #[.int .i64 rx, .int .i64 ry, .int .i64 rz] 52))
                    have xV := hx3'.c3
                    have C := hide (c2 (w3.alloc (.cells #[.int .i64 rx, .int .i64 ry, .int .i64 rz] 52)) ((Fr.refl _ w3).alloc _))
                    have htri : Tri (w3.alloc (.cells #[.int .i64 rx, .int .i64 ry, .int .i64 rz] 52)) w3.heap.size rx ry rz := heap_alloc_new w3 _
                    have HT := hide htri
                    clear c2 hf3 hx3' htri
                    go_wp2_with fail
                    refine C.out.mono ?_
                    clear C
                    rintro e w5 ⟨rfl, hf5, hps0⟩
                    have hps := hps0.same ((Fr.refl _ w5).alloc (.cells #[.int .i64 rx, .int .i64 ry, .int .i64 rz] 52))
                    have ht1 := (HT.out.same hf5).same ((Fr.refl _ w5).alloc (.cells #[.int .i64 rx, .int .i64 ry, .int .i64 rz] 52))
                    have y0 := ht1.c0
                    have y1 := ht1.c1
                    have y2 := ht1.c2
                    clear xV hps0 hf5 HT ht1
                    obtain ⟨F', hp5, hf5⟩ := hps
                    have HP := hide hp5
                    have HX' := hide (HX.out.keep hf5 hnF.out)
                    clear HX hp5 hf5 HP1 hnF hx0 hx1 hx2 hx3
                    have HX := HX'
                    clear HX'
                    have C := hide (HP.out.agree x y)
                    go_wp2_with fail
                    refine C.out.mono ?_
                    clear C
                    rintro e w6 ⟨rfl, hf6⟩
                    have hX6 := HX.out.same hf6
                    have xA := hX6.c1
                    have xB := hX6.c2
                    have HP' := hide (HP.out.same hf6)
                    clear hX6 hf6 HP
                    have C := hide (HP'.out.agree (A j) (B j))
                    go_wp2_with fail
                    refine C.out.mono ?_
                    clear C
                    rintro e w7 ⟨rfl, hf7⟩
                    have HP := hide (HP'.out.same hf7)
                    clear HP' hf7 xA xB
                    go_wp2
                    go_roundg (m - (j + 1))
                    case measure => omega
                    case rel => exact ⟨j + 1, _, _, _, by omega, by go_num, rfl, rfl, HP.out⟩
                · by_cases d3 : D j = 3
                  · rw [d3] at hd
                    clear d0 d1 d2 d3
                    have hx : Four (wr.alloc (.cells #[.int .i64 3, .int .i64 (A j), .int .i64 (B j), .slice ap mp cp] 48)) wr.heap.size 3 (A j) (B j) (.slice ap mp cp) := heap_alloc_new wr _
                    have hx0 := hx.c0
                    have hx1 := hx.c1
                    have hx2 := hx.c2
                    have hx3 := hx.c3
                    have HX := hide hx
                    have HP1 := hide (HP.out.same ((Fr.refl _ wr).alloc (.cells #[.int .i64 3, .int .i64 (A j), .int .i64 (B j), .slice ap mp cp] 48)))
                    have hnF : Hid (¬ F wr.heap.size) := fun hk => by have := HP.out.lt _ hk; omega
                    clear hx HP
                    have C := hide (HP1.out.copy (A j) (B j))
                    go_wp2_with fail
                    refine C.out.mono ?_
                    clear C
                    rintro e w3 ⟨to', rfl, c2⟩
                    have C := hide c2
                    clear c2
                    go_wp2_with fail
                    refine C.out.mono ?_
                    clear C
                    rintro e w4 ⟨uo', rfl, hf4, c2⟩
                    have C := hide c2
                    have xA := (HX.out.keep hf4 hnF.out).c1
                    clear c2 hf4
                    go_wp2_with fail
                    refine C.out.mono ?_
                    clear C
                    rintro e w45 ⟨⟨cc, kk, rfl⟩, hf4, c2⟩
                    have C := hide c2
                    clear xA
                    have xB := (HX.out.keep hf4 hnF.out).c2
                    clear c2 hf4
                    go_wp2_with fail
                    refine C.out.mono ?_
                    clear C
                    rintro e w5 ⟨⟨kk', rfl⟩, hps⟩
                    clear xB
                    obtain ⟨F', hp5, hf5⟩ := hps
                    have HP := hide hp5
                    have HX' := hide (HX.out.keep hf5 hnF.out)
                    clear HX hp5 hf5 HP1 hnF hx0 hx1 hx2 hx3
                    have HX := HX'
                    clear HX'
                    have C := hide (HP.out.agree x y)
                    go_wp2_with fail
                    refine C.out.mono ?_
                    clear C
                    rintro e w6 ⟨rfl, hf6⟩
                    have hX6 := HX.out.same hf6
                    have xA := hX6.c1
                    have xB := hX6.c2
                    have HP' := hide (HP.out.same hf6)
                    clear hX6 hf6 HP
                    have C := hide (HP'.out.agree (A j) (B j))
                    go_wp2_with fail
                    refine C.out.mono ?_
                    clear C
                    rintro e w7 ⟨rfl, hf7⟩
                    have HP := hide (HP'.out.same hf7)
                    clear HP' hf7 xA xB
                    go_wp2
                    go_roundg (m - (j + 1))
                    case measure => omega
                    case rel => exact ⟨j + 1, _, _, _, by omega, by go_num, rfl, rfl, HP.out⟩
                  · have t0 : (D j == 0) = false := by simpa using d0
                    have t1 : (D j == 1) = false := by simpa using d1
                    have t2 : (D j == 2) = false := by simpa using d2
                    have t3 : (D j == 3) = false := by simpa using d3
                    clear d0 d1 d2 d3
                    have hx : Four (wr.alloc (.cells #[.int .i64 (D j), .int .i64 (A j), .int .i64 (B j), .slice ap mp cp] 48)) wr.heap.size (D j) (A j) (B j) (.slice ap mp cp) := heap_alloc_new wr _
                    have hx0 := hx.c0
                    have hx1 := hx.c1
                    have hx2 := hx.c2
                    have hx3 := hx.c3
                    have HX := hide hx
                    have HP1 := hide (HP.out.same ((Fr.refl _ wr).alloc (.cells #[.int .i64 (D j), .int .i64 (A j), .int .i64 (B j), .slice ap mp cp] 48)))
                    have hnF : Hid (¬ F wr.heap.size) := fun hk => by have := HP.out.lt _ hk; omega
                    clear hx HP
                    have HP := HP1
                    clear HP1 hnF
                    have C := hide (HP.out.agree x y)
                    go_wp2_with fail
                    refine C.out.mono ?_
                    clear C
                    rintro e w6 ⟨rfl, hf6⟩
                    have hX6 := HX.out.same hf6
                    have xA := hX6.c1
                    have xB := hX6.c2
                    have HP' := hide (HP.out.same hf6)
                    clear hX6 hf6 HP
                    have C := hide (HP'.out.agree (A j) (B j))
                    go_wp2_with fail
                    refine C.out.mono ?_
                    clear C
                    rintro e w7 ⟨rfl, hf7⟩
                    have HP := hide (HP'.out.same hf7)
                    clear HP' hf7 xA xB
                    go_wp2
                    go_roundg (m - (j + 1))
                    case measure => omega
                    case rel => exact ⟨j + 1, _, _, _, by omega, by go_num, rfl, rfl, HP.out⟩
          · obtain rfl : j = m := by omega
            have HP := hide hp
            clear hp
            have C := hide (works_any wr)
            go_wp2_with fail
            refine C.out.mono ?_
            clear C
            rintro e w8 ⟨rfl, hf8⟩
            go_wp2
            go_ret
            exact ⟨rfl, HP.out.f0.trans hf8⟩
      · obtain ⟨N, rfl⟩ : ∃ N : Nat, n = N := ⟨n.toNat, by omega⟩
        have C := hide (start_at w N (by omega))
        go_enter Try.func7, Try.ntmps7
        go_wp2_with fail
        refine C.out.mono ?_
        clear C
        rintro e w1 ⟨sa, rfl, _, C2⟩
        have C := hide C2
        clear C2
        go_wp2_with fail
        refine C.out.mono ?_
        clear C
        rintro e w2 ⟨rb, rfl, F, hp⟩
        have HP := hide hp
        clear hp
        go_wp2
        go_loopg [9, 11, 13] m (fun q s r i wr => ∃ (j : Nat) (so ro : Option Addr) (F : Nat → Prop), q + j = m ∧ i = .int .i64 j ∧ s = .pointer so ∧ r = .pointer ro ∧ Pair w wr N s r F)
        case atStart => exact ⟨0, _, _, _, by omega, rfl, rfl, rfl, HP.out⟩
        case round =>
          clear HP
          obtain ⟨j, so, ro, F, hq, rfl, rfl, rfl, hp⟩ := hrel
          by_cases hlt : j < m
          · obtain ⟨g, o, rfl, hd, ha, hb, hv, ap, mp, cp, xs, ys, hV, hmp, hpc⟩ := HST.out j hlt
            have hf0 := hp.f0
            have hd := (hf0.cell (block_lt_of_cell hd) id).trans hd
            have ha := (hf0.cell (block_lt_of_cell ha) id).trans ha
            have hb := (hf0.cell (block_lt_of_cell hb) id).trans hb
            have hv := (hf0.cell (block_lt_of_cell hv) id).trans hv
            rw [hV] at hv
            have HPC := hide hpc
            have HP := hide hp
            clear hp hf0 hV hpc
            by_cases d0 : D j = 0
            · rw [d0] at hd
              clear d0
              have hx : Four (wr.alloc (.cells #[.int .i64 0, .int .i64 (A j), .int .i64 (B j), .slice ap mp cp] 48)) wr.heap.size 0 (A j) (B j) (.slice ap mp cp) := heap_alloc_new wr _
              have hx0 := hx.c0
              have hx1 := hx.c1
              have hx2 := hx.c2
              have hx3 := hx.c3
              have HX := hide hx
              have HP1 := hide (HP.out.same ((Fr.refl _ wr).alloc (.cells #[.int .i64 0, .int .i64 (A j), .int .i64 (B j), .slice ap mp cp] 48)))
              have hnF : Hid (¬ F wr.heap.size) := fun hk => by have := HP.out.lt _ hk; omega
              clear hx HP
              obtain ⟨cc, kk, cu⟩ := HP1.out.union (A j) (B j)
              have C := hide cu
              clear cu
              go_wp2_with fail
              refine C.out.mono ?_
              clear C
              rintro e w3 ⟨rfl, hf3, c2⟩
              have hx3' := HX.out.keep hf3 hnF.out
              have xA := hx3'.c1
              have xB := hx3'.c2
              have C := hide c2
              clear c2 hf3 hx3'
              go_wp2_with fail
              refine C.out.mono ?_
              clear C
              rintro e w5 ⟨rfl, hps⟩
              clear xA xB
              obtain ⟨F', hp5, hf5⟩ := hps
              have HP := hide hp5
              have HX' := hide (HX.out.keep hf5 hnF.out)
              clear HX hp5 hf5 HP1 hnF hx0 hx1 hx2 hx3
              have HX := HX'
              clear HX'
              have C := hide (HP.out.agree x y)
              go_wp2_with fail
              refine C.out.mono ?_
              clear C
              rintro e w6 ⟨rfl, hf6⟩
              have hX6 := HX.out.same hf6
              have xA := hX6.c1
              have xB := hX6.c2
              have HP' := hide (HP.out.same hf6)
              clear hX6 hf6 HP
              have C := hide (HP'.out.agree (A j) (B j))
              go_wp2_with fail
              refine C.out.mono ?_
              clear C
              rintro e w7 ⟨rfl, hf7⟩
              have HP := hide (HP'.out.same hf7)
              clear HP' hf7 xA xB
              go_wp2
              go_roundg (m - (j + 1))
              case measure => omega
              case rel => exact ⟨j + 1, _, _, _, by omega, by go_num, rfl, rfl, HP.out⟩
            · by_cases d1 : D j = 1
              · rw [d1] at hd
                clear d0 d1
                have hx : Four (wr.alloc (.cells #[.int .i64 1, .int .i64 (A j), .int .i64 (B j), .slice ap mp cp] 48)) wr.heap.size 1 (A j) (B j) (.slice ap mp cp) := heap_alloc_new wr _
                have hx0 := hx.c0
                have hx1 := hx.c1
                have hx2 := hx.c2
                have hx3 := hx.c3
                have HX := hide hx
                have HP1 := hide (HP.out.same ((Fr.refl _ wr).alloc (.cells #[.int .i64 1, .int .i64 (A j), .int .i64 (B j), .slice ap mp cp] 48)))
                have hnF : Hid (¬ F wr.heap.size) := fun hk => by have := HP.out.lt _ hk; omega
                clear hx HP
                have HP2 := hide (HP1.out.same ((Fr.refl _ _).drew))
                have HXd := hide (HX.out.same ((Fr.refl _ _).drew))
                obtain ⟨kk, u1, u2⟩ := HP2.out.undo (A j)
                have C1 := hide u1
                have C2 := hide u2
                have H0 := HXd.out.c1
                clear u1 u2
                go_wp2_with fail
                go_region_held3 (fun w' => w'.cell? ⟨wr.heap.size, 1, none⟩ = some (.int .i64 (A j))) (first | exact H0 | exact xK) (first | (go_at_call 16; first | (refine HC16.out.mono ?_; rintro e w5 ⟨rfl, hps⟩; (have xK := (HXd.out.keep hps.fr hnF.out).c1)) | (refine C1.out.mono ?_; rintro e w3 ⟨rfl, hf3, c25⟩; (have HC25 := hide c25); (have xK := (HXd.out.keep hf3 hnF.out).c1); clear c25 hf3)) | (go_at_call 25; first | (refine HC25.out.mono ?_; rintro e w5 ⟨rfl, hps⟩; (have xK := (HXd.out.keep hps.fr hnF.out).c1)) | (refine C2.out.mono ?_; rintro e w3 ⟨rfl, hf3, c16⟩; (have HC16 := hide c16); (have xK := (HXd.out.keep hf3 hnF.out).c1); clear c16 hf3)))
                all_goals
                  clear HX C1 C2 H0
                  have HX := HXd
                  clear HXd HP2
                  try clear HC16
                  try clear HC25
                  clear xK
                  obtain ⟨F', hp5, hf5⟩ := hps
                  have HP := hide hp5
                  have HX' := hide (HX.out.keep hf5 hnF.out)
                  clear HX hp5 hf5 HP1 hnF hx0 hx1 hx2 hx3
                  have HX := HX'
                  clear HX'
                  have C := hide (HP.out.agree x y)
                  go_wp2_with fail
                  refine C.out.mono ?_
                  clear C
                  rintro e w6 ⟨rfl, hf6⟩
                  have hX6 := HX.out.same hf6
                  have xA := hX6.c1
                  have xB := hX6.c2
                  have HP' := hide (HP.out.same hf6)
                  clear hX6 hf6 HP
                  have C := hide (HP'.out.agree (A j) (B j))
                  go_wp2_with fail
                  refine C.out.mono ?_
                  clear C
                  rintro e w7 ⟨rfl, hf7⟩
                  have HP := hide (HP'.out.same hf7)
                  clear HP' hf7 xA xB
                  go_wp2
                  go_roundg (m - (j + 1))
                  case measure => omega
                  case rel => exact ⟨j + 1, _, _, _, by omega, by go_num, rfl, rfl, HP.out⟩
              · by_cases d2 : D j = 2
                · rw [d2] at hd
                  clear d0 d1 d2
                  have hx : Four (wr.alloc (.cells #[.int .i64 2, .int .i64 (A j), .int .i64 (B j), .slice ap mp cp] 48)) wr.heap.size 2 (A j) (B j) (.slice ap mp cp) := heap_alloc_new wr _
                  have hx0 := hx.c0
                  have hx1 := hx.c1
                  have hx2 := hx.c2
                  have hx3 := hx.c3
                  have HX := hide hx
                  have HP1 := hide (HP.out.same ((Fr.refl _ wr).alloc (.cells #[.int .i64 2, .int .i64 (A j), .int .i64 (B j), .slice ap mp cp] 48)))
                  have hnF : Hid (¬ F wr.heap.size) := fun hk => by have := HP.out.lt _ hk; omega
                  clear hx HP
                  by_cases hlen : 60 < mp
                  · have C := hide (works_any (wr.alloc (.cells #[.int .i64 2, .int .i64 (A j), .int .i64 (B j), .slice ap mp cp] 48)))
                    go_wp2_with fail
                    refine C.out.mono ?_
                    clear C
                    rintro e w8 ⟨rfl, hf8⟩
                    go_wp2
                    go_ret
                    exact ⟨rfl, HP1.out.f0.trans hf8⟩
                  · obtain ⟨rx, ry, rz, kk, cu⟩ := HP1.out.trial (by omega : mp ≤ 60) HPC.out
                    have C := hide cu
                    clear cu
                    go_wp2_with fail
                    refine C.out.mono ?_
                    clear C
                    rintro e w3 ⟨rfl, hf3, c2⟩
                    have hx3' := (HX.out.keep hf3 hnF.out).same ((Fr.refl _ w3).alloc (.cells #[.int .i64 rx, .int .i64 ry, .int .i64 rz] 52))
                    have xV := hx3'.c3
                    have C := hide (c2 (w3.alloc (.cells #[.int .i64 rx, .int .i64 ry, .int .i64 rz] 52)) ((Fr.refl _ w3).alloc _))
                    have htri : Tri (w3.alloc (.cells #[.int .i64 rx, .int .i64 ry, .int .i64 rz] 52)) w3.heap.size rx ry rz := heap_alloc_new w3 _
                    have HT := hide htri
                    clear c2 hf3 hx3' htri
                    go_wp2_with fail
                    refine C.out.mono ?_
                    clear C
                    rintro e w5 ⟨rfl, hf5, hps0⟩
                    have hps := hps0.same ((Fr.refl _ w5).alloc (.cells #[.int .i64 rx, .int .i64 ry, .int .i64 rz] 52))
                    have ht1 := (HT.out.same hf5).same ((Fr.refl _ w5).alloc (.cells #[.int .i64 rx, .int .i64 ry, .int .i64 rz] 52))
                    have y0 := ht1.c0
                    have y1 := ht1.c1
                    have y2 := ht1.c2
                    clear xV hps0 hf5 HT ht1
                    obtain ⟨F', hp5, hf5⟩ := hps
                    have HP := hide hp5
                    have HX' := hide (HX.out.keep hf5 hnF.out)
                    clear HX hp5 hf5 HP1 hnF hx0 hx1 hx2 hx3
                    have HX := HX'
                    clear HX'
                    have C := hide (HP.out.agree x y)
                    go_wp2_with fail
                    refine C.out.mono ?_
                    clear C
                    rintro e w6 ⟨rfl, hf6⟩
                    have hX6 := HX.out.same hf6
                    have xA := hX6.c1
                    have xB := hX6.c2
                    have HP' := hide (HP.out.same hf6)
                    clear hX6 hf6 HP
                    have C := hide (HP'.out.agree (A j) (B j))
                    go_wp2_with fail
                    refine C.out.mono ?_
                    clear C
                    rintro e w7 ⟨rfl, hf7⟩
                    have HP := hide (HP'.out.same hf7)
                    clear HP' hf7 xA xB
                    go_wp2
                    go_roundg (m - (j + 1))
                    case measure => omega
                    case rel => exact ⟨j + 1, _, _, _, by omega, by go_num, rfl, rfl, HP.out⟩
                · by_cases d3 : D j = 3
                  · rw [d3] at hd
                    clear d0 d1 d2 d3
                    have hx : Four (wr.alloc (.cells #[.int .i64 3, .int .i64 (A j), .int .i64 (B j), .slice ap mp cp] 48)) wr.heap.size 3 (A j) (B j) (.slice ap mp cp) := heap_alloc_new wr _
                    have hx0 := hx.c0
                    have hx1 := hx.c1
                    have hx2 := hx.c2
                    have hx3 := hx.c3
                    have HX := hide hx
                    have HP1 := hide (HP.out.same ((Fr.refl _ wr).alloc (.cells #[.int .i64 3, .int .i64 (A j), .int .i64 (B j), .slice ap mp cp] 48)))
                    have hnF : Hid (¬ F wr.heap.size) := fun hk => by have := HP.out.lt _ hk; omega
                    clear hx HP
                    have C := hide (HP1.out.copy (A j) (B j))
                    go_wp2_with fail
                    refine C.out.mono ?_
                    clear C
                    rintro e w3 ⟨to', rfl, c2⟩
                    have C := hide c2
                    clear c2
                    go_wp2_with fail
                    refine C.out.mono ?_
                    clear C
                    rintro e w4 ⟨uo', rfl, hf4, c2⟩
                    have C := hide c2
                    have xA := (HX.out.keep hf4 hnF.out).c1
                    clear c2 hf4
                    go_wp2_with fail
                    refine C.out.mono ?_
                    clear C
                    rintro e w45 ⟨⟨cc, kk, rfl⟩, hf4, c2⟩
                    have C := hide c2
                    clear xA
                    have xB := (HX.out.keep hf4 hnF.out).c2
                    clear c2 hf4
                    go_wp2_with fail
                    refine C.out.mono ?_
                    clear C
                    rintro e w5 ⟨⟨kk', rfl⟩, hps⟩
                    clear xB
                    obtain ⟨F', hp5, hf5⟩ := hps
                    have HP := hide hp5
                    have HX' := hide (HX.out.keep hf5 hnF.out)
                    clear HX hp5 hf5 HP1 hnF hx0 hx1 hx2 hx3
                    have HX := HX'
                    clear HX'
                    have C := hide (HP.out.agree x y)
                    go_wp2_with fail
                    refine C.out.mono ?_
                    clear C
                    rintro e w6 ⟨rfl, hf6⟩
                    have hX6 := HX.out.same hf6
                    have xA := hX6.c1
                    have xB := hX6.c2
                    have HP' := hide (HP.out.same hf6)
                    clear hX6 hf6 HP
                    have C := hide (HP'.out.agree (A j) (B j))
                    go_wp2_with fail
                    refine C.out.mono ?_
                    clear C
                    rintro e w7 ⟨rfl, hf7⟩
                    have HP := hide (HP'.out.same hf7)
                    clear HP' hf7 xA xB
                    go_wp2
                    go_roundg (m - (j + 1))
                    case measure => omega
                    case rel => exact ⟨j + 1, _, _, _, by omega, by go_num, rfl, rfl, HP.out⟩
                  · have t0 : (D j == 0) = false := by simpa using d0
                    have t1 : (D j == 1) = false := by simpa using d1
                    have t2 : (D j == 2) = false := by simpa using d2
                    have t3 : (D j == 3) = false := by simpa using d3
                    clear d0 d1 d2 d3
                    have hx : Four (wr.alloc (.cells #[.int .i64 (D j), .int .i64 (A j), .int .i64 (B j), .slice ap mp cp] 48)) wr.heap.size (D j) (A j) (B j) (.slice ap mp cp) := heap_alloc_new wr _
                    have hx0 := hx.c0
                    have hx1 := hx.c1
                    have hx2 := hx.c2
                    have hx3 := hx.c3
                    have HX := hide hx
                    have HP1 := hide (HP.out.same ((Fr.refl _ wr).alloc (.cells #[.int .i64 (D j), .int .i64 (A j), .int .i64 (B j), .slice ap mp cp] 48)))
                    have hnF : Hid (¬ F wr.heap.size) := fun hk => by have := HP.out.lt _ hk; omega
                    clear hx HP
                    have HP := HP1
                    clear HP1 hnF
                    have C := hide (HP.out.agree x y)
                    go_wp2_with fail
                    refine C.out.mono ?_
                    clear C
                    rintro e w6 ⟨rfl, hf6⟩
                    have hX6 := HX.out.same hf6
                    have xA := hX6.c1
                    have xB := hX6.c2
                    have HP' := hide (HP.out.same hf6)
                    clear hX6 hf6 HP
                    have C := hide (HP'.out.agree (A j) (B j))
                    go_wp2_with fail
                    refine C.out.mono ?_
                    clear C
                    rintro e w7 ⟨rfl, hf7⟩
                    have HP := hide (HP'.out.same hf7)
                    clear HP' hf7 xA xB
                    go_wp2
                    go_roundg (m - (j + 1))
                    case measure => omega
                    case rel => exact ⟨j + 1, _, _, _, by omega, by go_num, rfl, rfl, HP.out⟩
          · obtain rfl : j = m := by omega
            have HP := hide hp
            clear hp
            have C := hide (works_any wr)
            go_wp2_with fail
            refine C.out.mono ?_
            clear C
            rintro e w8 ⟨rfl, hf8⟩
            go_wp2
            go_ret
            exact ⟨rfl, HP.out.f0.trans hf8⟩

end Go.Proofs.Ytiaddgagncmbeaa

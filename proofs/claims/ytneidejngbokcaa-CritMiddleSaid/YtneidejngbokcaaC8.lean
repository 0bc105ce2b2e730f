/- Walks: the document's Grid; rows of floats that grow. -/
import Derived.Test.YtneidejngbokcaaC7
namespace Go.Proofs.Ytneidejngbokcaa
open Go.RowKit

theorem list_round {n l : Nat} {P : Program} {ops : Array Oper} {Q : Exit → Act → World → Prop} (hQ : ¬ LetsOut Q) :
    ∀ (s : List Oper) (a : Act) (w : World), (∀ o ∈ s, ∀ c, o.op ≠ .defer c) → wpList P ops Q s a w → wpListIn (Fence.wide.inRound l) n P ops Q s a w
  | [], _, _, _, h => by simpa [wpList, wpListIn] using h
  | o :: rest, a, w, hd, h => by
    simp only [wpList] at h
    simp only [wpListIn]
    split
    · rename_i hw
      rw [if_pos hw] at h
      exact oper_round (hd o (by simp)) (fun a w h => list_round hQ rest a w (fun o ho => hd o (by simp [ho])) h) (h.resolve_right (fun h => hQ h.2))
    · rename_i hw
      rw [if_neg hw] at h
      exact ⟨fun _ _ => trivial, list_round hQ rest _ w (fun o ho => hd o (by simp [ho])) h⟩

theorem region_list_round {n r : Nat} {P : Program} {Q : Exit → Act → World → Prop} {id : Nat} {a : Act} {W : World} {l : List Oper} (hd : noDefer l.toArray = true) (hQ : ¬ LetsOut Q)
    (h : wpList P l.toArray Q l a W) : (Code.region id l.toArray false).wpIn (Fence.wide.inRound r) n P Q a W :=
  wpIn_region_lit (list_round hQ l a W (fun o ho c => by
    obtain ⟨i, hi⟩ := List.getElem?_of_mem ho
    exact noDefer_spec hd i o c (by simpa using hi)) h)

/-- A row of floats that grows: the first k of it are x 0, x 1, ..; it is new since w0. -/
structure Grw (w0 : World) (ao : Option Addr) (k cap : Nat) (x : Nat → Nat) (w : World) : Prop where
  own : w.ownsRow 0 24 1 (.slice ao k cap) k ((List.range k).map fun i => Value.float .f64 (x i))
  fr : Same' w0 w
  new : ∀ g, blk ao = some g → w0.heap.size ≤ g

theorem Grw.nil (w0 w : World) (x : Nat → Nat) (hf : Same' w0 w) : Grw w0 none 0 0 x w :=
  ⟨World.ownsRow_nil _ _ _ _, hf, fun g hg => by simp [blk] at hg⟩

theorem Grw.fl {w0 w : World} {ao : Option Addr} {k cap : Nat} {x : Nat → Nat} (h : Grw w0 ao k cap x w) : FlAt w ao k x := fun i hi => by
  rcases h.own.2 with ⟨_, h0⟩ | ⟨g, cap', cur, hv, _, hg, _, _, _, htake⟩
  · omega
  · simp only [Value.slice.injEq] at hv
    obtain ⟨rfl, _, rfl⟩ := hv
    refine ⟨_, rfl, ?_⟩
    rw [add_at, cell_of_row w g i cur 24 (0, 0) hg]
    have := congrArg (fun l => l[i]?) htake
    simp only [Nat.mul_one, List.getElem?_take, hi, if_true, List.getElem?_map, List.getElem?_range hi, Option.map_some] at this
    simpa using this

theorem Grw.app {w0 w w' : World} {ao : Option Addr} {k cap : Nat} {x : Nat → Nat} (h : Grw w0 ao k cap x w) {g' cap' u : Nat} (how : w'.ownsRow 0 24 1 (.slice (some ⟨g', 0, none⟩) (k + 1) cap') (k + 1) ((List.range k).map (fun i => Value.float .f64 (x i)) ++ [.float .f64 u]))
    (hf : Fr (fun j => blk ao = some j) w w') (hb : blk ao = some g' ∨ w.heap.size < g') (hu : u = x k) : Grw w0 (some ⟨g', 0, none⟩) (k + 1) cap' x w' := by
  subst hu
  refine ⟨by rw [List.range_succ, List.map_append]; exact how, h.fr.trans' hf (fun j hj e => by have := h.new j e; omega), fun g hg => ?_⟩
  simp [blk] at hg
  subst hg
  rcases hb with hb | hb
  · exact h.new _ hb
  · have := h.fr.size; omega

set_option maxHeartbeats 1000000 in
theorem Grid22_err (w : World) {s : Int} (hs : s < 1 ∨ 1000 < s) : Calls Try.prog 22 #[.int .i64 s] w fun e w' => e = .returned (.tuple #[.slice none 0 0, .int .i64 2]) ∧ w = w' := by
  rcases hs with hs | hs
  · have d1 : decide (s < 1) = true := by simpa using hs
    go_enter Try.func22, Try.ntmps22
    go_wp2_with fail
    go_ret2
    exact ⟨rfl, rfl⟩
  · have d1 : decide (s < 1) = false := by simp; omega
    have d2 : decide (1000 < s) = true := by simpa using hs
    go_enter Try.func22, Try.ntmps22
    go_wp2_with fail
    go_ret2
    exact ⟨rfl, rfl⟩

set_option maxHeartbeats 1000000 in
theorem Grid22_ok (w : World) {s : Nat} (hs1 : 1 ≤ s) (hs2 : s ≤ 1000) : Calls Try.prog 22 #[.int .i64 s] w fun e w' => ∃ ao cap, e = .returned (.tuple #[.slice ao (s + 1) cap, .int .i64 0]) ∧ Grw w ao (s + 1) cap (gridW s) w' := by
  have d1 : decide ((s : Int) < 1) = false := by simp; omega
  have d2 : decide ((1000 : Int) < s) = false := by simp; omega
  go_enter Try.func22, Try.ntmps22
  go_wp2_with fail
  go_loopg [4, 5] (s + 1) (fun z sl i wr => ∃ (k cap : Nat) (ao : Option Addr), k + z = s + 1 ∧ i = .int .i64 k ∧ sl = .slice ao k cap ∧ Grw w ao k cap (gridW s) wr)
  case atStart => exact ⟨0, 0, none, by omega, rfl, rfl, Grw.nil w w _ (Fr.refl _ w)⟩
  case round =>
    obtain ⟨k, cap, ao, hk, rfl, rfl, hG⟩ := hrel
    have HG := hide hG
    clear hG
    by_cases hlt : k ≤ s
    · have hd : decide (k ≤ s) = true := by simpa using hlt
      obtain ⟨q, _, _⟩ := grid_rnd hs1 hs2 (show k ≤ 1000 by omega)
      have hq : ∀ w, (binOp .quo 24 (.float .f64 (floatOfInt .f64 (k : Int))) (.float .f64 (floatOfInt .f64 (s : Int)))).run Try.prog w = .ok (.float .f64 (gridW s k)) w := fun w => run_float_arith w .quo 24 .f64 _ _ _ q
      clear q
      go_wp2_with (at_builtin; refine wpList_app1 _ rfl _ _ 22 rfl 24 (.float .f64 0) 8 Try.underlying22 info24 rfl ao k cap ((List.range k).map fun i => Value.float .f64 (gridW s i)) rfl HG.out.own _ (.float .f64 (gridW s k)) rfl rfl (by unfold maxLen; omega) (by omega) ?_)
      intro g' cap' w' how hf hb
      have HG2 := hide (HG.out.app how hf hb rfl)
      clear how hf hb
      go_wp2_with fail
      go_roundg (gk - 1)
      case measure => omega
      case rel => exact ⟨k + 1, cap', _, by omega, by go_num, rfl, HG2.out⟩
    · have hd : decide (k ≤ s) = false := by simpa using hlt
      obtain rfl : k = s + 1 := by omega
      go_wp2_with fail
      go_ret2
      exact ⟨ao, cap, rfl, HG.out⟩

end Go.Proofs.Ytneidejngbokcaa

/- Walks: Collect over the numbers of a grid; Grid, the code's. -/
import Derived.Test.YtneidejngbokcaaC8
namespace Go.Proofs.Ytneidejngbokcaa
open Go.RowKit Go.Shelf

attribute [local go_sem] Oper.semAt_some

theorem own_of {W W' : World} {ao : Option Addr} {k cap : Nat} {xs : List Value} (h : W.ownsRow 0 24 1 (.slice ao k cap) k xs) (hb : ∀ g, blk ao = some g → W'.heap[g]? = W.heap[g]?) : W'.ownsRow 0 24 1 (.slice ao k cap) k xs := by
  refine ⟨h.1, ?_⟩
  rcases h.2 with h0 | ⟨g, cap', cur, hv, r1, hg, r⟩
  · exact .inl h0
  · refine .inr ⟨g, cap', cur, hv, r1, ?_, r⟩
    simp only [Value.slice.injEq] at hv
    obtain ⟨rfl, _, _⟩ := hv
    rw [hb g rfl]; exact hg

theorem own_cells {W : World} {ao : Option Addr} {k cap : Nat} {xs : List Value} (h : W.ownsRow 0 24 1 (.slice ao k cap) k xs) {g : Nat} (hg : blk ao = some g) : ∃ cur, W.heap[g]? = some (.cells cur 24 (0, 0)) := by
  rcases h.2 with ⟨hv, _⟩ | ⟨g', cap', cur, hv, r1, hg', r⟩
  · simp only [Value.slice.injEq] at hv
    obtain ⟨rfl, _, _⟩ := hv
    simp [blk] at hg
  · simp only [Value.slice.injEq] at hv
    obtain ⟨rfl, _, _⟩ := hv
    simp [blk] at hg
    subst hg
    exact ⟨cur, hg'⟩

/-- What lies in the box of AppendSeq, k numbers of the grid having come. -/
structure AqS (w0 : World) (bx bs s k : Nat) (W : World) : Prop where
  g : ∃ ao cap, W.cell? ⟨bx, 0, none⟩ = some (.slice ao k cap) ∧ Grw w0 ao k cap (gridW s) W ∧ blk ao ≠ some bx
  z : W.frozen? ⟨bx, 0, none⟩ = false
  cs : W.cell? ⟨bs, 0, none⟩ = some (.int .i64 s)
  hx : w0.heap.size ≤ bx
  hs : bs < w0.heap.size

theorem AqS.own {w0 : World} {bx bs s k : Nat} {W W' : World} {B : Nat} {row : Option Nat} (h : AqS w0 bx bs s k W) (hB : w0.heap.size ≤ B) (hg : W.grownBy W' row)
    (hr : ∀ x, row = some x → B ≤ x ∧ ∃ o : Obj, W.heap[x]? = some o ∧ o.isCells = false) : AqS w0 bx bs s k W' := by
  have hr' := fun x e => (hr x e).2
  obtain ⟨ao, cap, hc, hG, hn⟩ := h.g
  refine ⟨⟨ao, cap, cell_kept hc hg hr', ⟨own_of hG.own (fun g e => ?_), hG.fr.grown hg (fun k e hk => by have := (hr k e).1; omega), hG.new⟩, hn⟩, (frozen_kept hc hg hr').trans h.z, cell_kept h.cs hg hr', h.hx, h.hs⟩
  obtain ⟨cur, hcur⟩ := own_cells hG.own e
  refine hg.block g (lt_of_block hcur) (fun e2 => ?_)
  obtain ⟨o, ho, hoc⟩ := hr' g e2.symm
  rw [hcur] at ho
  cases ho
  cases hoc

set_option maxRecDepth 100000 in
set_option maxHeartbeats 1000000 in
theorem append50_at {w : World} {bs s : Nat} (hs1 : 1 ≤ s) (hs2 : s ≤ 1000) (hc : w.cell? ⟨bs, 0, none⟩ = some (.int .i64 s)) :
    Calls Try.prog 50 #[.slice none 0 0, .func (.func 43) #[] #[.pointer (some ⟨bs, 0, none⟩)]] w fun e w' => ∃ ao cap, e = .returned (.slice ao (s + 1) cap) ∧ Grw w ao (s + 1) cap (gridW s) w' := by
  refine (callsIn_wide (n := 9)).1 ?_
  have hlt := block_lt_of_cell hc
  simp only at hlt
  have hS : AqS w w.heap.size bs s 0 (w.alloc (.cells #[.slice none 0 0] 22)) :=
    ⟨⟨none, 0, new_cell _ _ _, Grw.nil w _ _ (same_alloc _ _), by simp [blk]⟩, new_free _ _ _, cell_same hc (same_alloc _ _), Nat.le_refl _, hlt⟩
  have hws : w.heap.size ≤ (w.alloc (.cells #[.slice none 0 0] 22)).heap.size := by simp
  clear hc hlt
  refine callsIn_of_wp_marks Try.func50 rfl trivial ?_ rfl
  refine wpIn_wide.2 ?_
  simp only [Try.ntmps50, List.size_toArray, List.length_cons, List.length_nil, Nat.reduceAdd, Nat.reduceSub, Array.replicate_succ, Array.replicate_zero, List.push_toArray, List.append_toArray, List.nil_append, List.cons_append]
  go_wp2_with fail
  refine (wpIn_wide (n := 8)).1 ?_
  refine wpIn_rangeFunc_al (n := 8) (α := Nat) rfl (by omega) (gf := 43) (lb := #[.pointer (some ⟨bs, 0, none⟩)]) rfl trivial (enters_of Try.func43 (by kernel_rfl) rfl) (enc := fun x => .float .f64 (gridW s x)) rfl
    (fun k => AqS w w.heap.size bs s k) (fun k => AqS w w.heap.size bs s (k + 1)) (fun _ _ => False)
    (fun s A B row hs hg hr => hs.own hws hg hr) (fun s A B row hs hg hr => hs.own hws hg hr) (fun s A B row hs hg hr => hs) 0 (s + 1) hS
    (fun x => x ≤ s)
    (fun x => { tmps := #[Value.slice none 0 0, Value.func (Fn.func 43) #[] #[Value.pointer (some { block := bs, off := 0 })], Value.pointer (some { block := w.heap.size, off := 0 }), undef, Value.slice none 0 0, Value.float .f64 (gridW s x),
      Value.func (Fn.func 43) #[] #[Value.pointer (some { block := bs, off := 0 })], Value.float .f64 (gridW s x), undef, undef, undef, undef, undef], defers := [] }) ?assign ?body ?iter ?done ?stop
  case assign =>
    intro l x W K hK
    gi_wp2
    exact hK
  case iter =>
    intro l B Bx hB hBx hY W hW hBW
    refine points1_at l bs s hs1 hs2 (fun k => AqS w w.heap.size bs s k) (fun k => AqS w w.heap.size bs s (k + 1)) (fun _ _ => False) B Bx ?_ ?_ hY W hW hBW
    · exact fun r W h => h.cs
    · exact fun k W h => h
  case body =>
    rintro l k W hk hS
    obtain ⟨ao, cap, hc, hG, hn⟩ := hS.g
    have HS := hide hS
    have HG := hide hG
    have HN := hide hn
    have HC := hide hc
    clear hS hG hn hws
    refine wpIn_block ?_
    refine region_list_round (by kernel_rfl) ?_ ?_
    · rintro ⟨a, w, h⟩
      rcases h with ⟨h, _⟩ | ⟨h, _⟩ <;> cases h
    have hz := HS.out.z
    go_wp2_with (at_builtin; refine wpList_app1 _ rfl _ _ 22 rfl 24 (.float .f64 0) 8 Try.underlying22 info24 rfl ao k cap ((List.range k).map fun i => Value.float .f64 (gridW s i)) rfl HG.out.own _ (.float .f64 (gridW s k)) rfl rfl (by unfold maxLen; omega) (by omega) ?_)
    intro g' cap' w' how hf hb
    have hx := HS.out.hx
    have hs := HS.out.hs
    have lx := block_lt_of_cell HC.out
    simp only at lx
    have e1 : w'.cell? ⟨w.heap.size, 0, none⟩ = some (.slice ao k cap) := (hf.cell (a := ⟨w.heap.size, 0, none⟩) lx HN.out).trans HC.out
    have e2 : w'.frozen? ⟨w.heap.size, 0, none⟩ = false := by
      have := hf.block w.heap.size lx HN.out
      unfold World.frozen? at hz ⊢
      rw [this]; exact hz
    have lb := block_lt_of_cell HS.out.cs
    simp only at lb
    have e3 : w'.cell? ⟨bs, 0, none⟩ = some (.int .i64 s) := (hf.cell (a := ⟨bs, 0, none⟩) lb (fun e => by have h := HG.out.new bs e; omega)).trans HS.out.cs
    have hg' : g' ≠ w.heap.size := by
      rintro rfl
      rcases hb with hb | hb
      · exact HN.out hb
      · omega
    have hk1 : KeepsOthers W w' := ⟨hf.size, fun j o ho hoc => (hf.block j (lt_of_block ho) (fun e => by
      obtain ⟨cur, hcur⟩ := own_cells HG.out.own e
      rw [hcur] at ho
      cases ho
      cases hoc)).trans ho⟩
    have hG2 := HG.out.app (x := gridW s) how hf hb rfl
    have h9 : AqS w w.heap.size bs s (k + 1) (w'.setCell ⟨w.heap.size, 0, none⟩ (.slice (some ⟨g', 0, none⟩) (k + 1) cap')) := by
      refine ⟨⟨some ⟨g', 0, none⟩, cap', World.cell?_setCell_same' _ _ _ (by rw [e1]; rfl), ⟨own_of hG2.own (fun g e => ?_), hG2.fr.setCell _ _ (fun h => by simp only at h; omega), hG2.new⟩, fun e => ?_⟩, by rw [World.frozen?_setCell]; exact e2,
        (World.cell?_of_block (heap_setCell_other w' _ bs _ (by simp only; omega))).trans e3, hx, hs⟩
      · simp [blk] at e
        subst e
        exact heap_setCell_other w' _ g' _ (by simpa using hg')
      · simp [blk] at e
        exact hg' e
    have H9 := hide h9
    have HK1 := hide hk1
    clear h9 hk1 hG2 how hf hb hz e3 lx lb hx hs hg'
    go_wp2_with fail
    exact ⟨trivial, HK1.out.trans (KeepsOthers.setCell _ _ _), H9.out⟩
  case done =>
    rintro D W hD hS hK
    obtain ⟨ao, cap, hc, hG, hn⟩ := hS.g
    have HG := hide hG
    clear hS hn hG
    go_wp2_with fail
    refine ⟨by simp, .inl ⟨_, _, rfl, run_takeDeferred hK, ?_⟩⟩
    have hG := HG.out
    refine ⟨_, results_tmp rfl _ _ _, ao, cap, rfl, ⟨own_of hG.own (fun g e => ?_), hG.fr.grown (grownBy_putObj' _ D _) (fun k e hk => by cases e; omega), hG.new⟩⟩
    obtain ⟨cur, hcur⟩ := own_cells hG.own e
    refine World.putObj_heap_other (fun e2 => ?_)
    subst e2
    rw [hcur] at hK
    cases hK
  case stop => intro D x W _ h; exact h.elim
theorem collect36_at {w : World} {bs s : Nat} (hs1 : 1 ≤ s) (hs2 : s ≤ 1000) (hc : w.cell? ⟨bs, 0, none⟩ = some (.int .i64 s)) :
    Calls Try.prog 36 #[.func (.func 43) #[] #[.pointer (some ⟨bs, 0, none⟩)]] w fun e w' => ∃ ao cap, e = .returned (.slice ao (s + 1) cap) ∧ Grw w ao (s + 1) cap (gridW s) w' := by
  have C := hide (append50_at hs1 hs2 hc)
  clear hc
  go_enter Try.func36, Try.ntmps36
  go_wp2_with (go_at_call 50; refine C.out.mono ?_; clear C; rintro e w1 ⟨ao, cap, rfl, hG⟩)
  have HG := hide hG
  clear hG
  go_wp2_with fail
  go_ret
  exact ⟨ao, cap, rfl, HG.out⟩

set_option maxHeartbeats 1000000 in
theorem Grid21_err (w : World) {s : Int} (hs : s < 1 ∨ 1000 < s) : Calls Try.prog 21 #[.int .i64 s] w fun e w' => e = .returned (.tuple #[.slice none 0 0, .int .i64 2]) ∧ w = w' := by
  rcases hs with hs | hs
  · have d1 : decide (s < 1) = true := by simpa using hs
    go_enter Try.func21, Try.ntmps21
    go_wp2_with fail
    go_ret2
    exact ⟨rfl, rfl⟩
  · have d1 : decide (s < 1) = false := by simp; omega
    have d2 : decide (1000 < s) = true := by simpa using hs
    go_enter Try.func21, Try.ntmps21
    go_wp2_with fail
    go_ret2
    exact ⟨rfl, rfl⟩

set_option maxHeartbeats 1000000 in
theorem Grid21_ok (w : World) {s : Nat} (hs1 : 1 ≤ s) (hs2 : s ≤ 1000) : Calls Try.prog 21 #[.int .i64 s] w fun e w' => ∃ ao cap, e = .returned (.tuple #[.slice ao (s + 1) cap, .int .i64 0]) ∧ Grw w ao (s + 1) cap (gridW s) w' := by
  have d1 : decide ((s : Int) < 1) = false := by simp; omega
  have d2 : decide ((1000 : Int) < s) = false := by simp; omega
  have PP := hide (points_at (s : Int) w)
  have C := hide (collect36_at (w := w.alloc (.cells #[.int .i64 s] 3)) (bs := w.heap.size) hs1 hs2 (new_cell _ _ _))
  go_enter Try.func21, Try.ntmps21
  go_wp2_with (first
    | (go_at_call 30; refine PP.out.mono ?_; clear PP; rintro e w1 ⟨rfl, rfl⟩)
    | (go_at_call 36; refine C.out.mono ?_; clear C; rintro e w2 ⟨ao, cap, rfl, hG⟩))
  have HG := hide hG
  clear hG
  go_wp2_with fail
  go_ret2
  exact ⟨ao, cap, rfl, HG.out.own, (same_alloc _ _).trans HG.out.fr, fun g hg => Nat.le_trans (same_alloc w (.cells #[.int .i64 s] 3)).size (HG.out.new g hg)⟩

end Go.Proofs.Ytneidejngbokcaa

/- Walks: Peak, the code's. -/
import Derived.Test.YtneidejngbokcaaC3
import Derived.Laws.EntriesVeiled
namespace Go.Proofs.Ytneidejngbokcaa
open Go.RowKit Go.Shelf

attribute [local go_sem] Oper.semAt_some

/-- The first k numbers of a grid gone over: the top so far, and the class of the average there. -/
def pkS (n : Nat) (F : Nat → Cl) (s : Nat) : Nat → Nat × Cl
  | 0 => (0, avC n F 0)
  | k + 1 => if ordC (avC n F (gridW s k)) (pkS n F s k).2 = some .gt then (gridW s k, avC n F (gridW s k)) else pkS n F s k

theorem same_keeps {w w' : World} (h : Same' w w') : KeepsOthers w w' :=
  ⟨h.size, fun k _ hk _ => (h.block k (lt_of_block hk) id).trans hk⟩

theorem probB_zero : probB 0 = true := by decide +kernel

theorem frozen_same {w w' : World} {a : Addr} {v : Value} (hc : w.cell? a = some v) (hf : Same' w w') : w'.frozen? a = w.frozen? a := by
  unfold World.frozen?
  rw [hf.block a.block (block_lt_of_cell hc) id]

theorem new_cell (w : World) (v : Value) (t : TypeId) : (w.alloc (.cells #[v] t)).cell? ⟨w.heap.size, 0, none⟩ = some v := by simp
theorem new_free (w : World) (v : Value) (t : TypeId) : (w.alloc (.cells #[v] t)).frozen? ⟨w.heap.size, 0, none⟩ = false := frozen_of_row _ _ 0 _ _ (heap_alloc_new w _)
theorem same_alloc (w : World) (o : Obj) : Same' w (w.alloc o) := (Fr.refl _ w).alloc o

/-- What lies in the boxes of Peak. -/
structure PkW (w : World) (b b6 b7 b8 bp : Nat) (ao : Option Addr) (n c : Nat) (f : Nat → Nat) (s : Nat) (t : Nat × Cl) (W : World) : Prop where
  c28 : W.cell? ⟨b, 0, none⟩ = some (.slice ao n c)
  c6 : W.cell? ⟨b6, 0, none⟩ = some (.func (.func 42) #[] #[.pointer (some ⟨b, 0, none⟩)])
  c7 : W.cell? ⟨b7, 0, none⟩ = some (.float .f64 t.1)
  c8 : ∃ y, W.cell? ⟨b8, 0, none⟩ = some (.float .f64 y) ∧ cls y = t.2
  cp : W.cell? ⟨bp, 0, none⟩ = some (.int .i64 s)
  z7 : W.frozen? ⟨b7, 0, none⟩ = false
  z8 : W.frozen? ⟨b8, 0, none⟩ = false
  fr : Same' w W
  h7 : w.heap.size ≤ b7
  h8 : w.heap.size ≤ b8
  ne : b ≠ b7 ∧ b ≠ b8 ∧ b6 ≠ b7 ∧ b6 ≠ b8 ∧ bp ≠ b7 ∧ bp ≠ b8 ∧ b7 ≠ b8

theorem PkW.own {w : World} {b b6 b7 b8 bp : Nat} {ao : Option Addr} {n c : Nat} {f : Nat → Nat} {s : Nat} {t : Nat × Cl} {W W' : World} {B : Nat} {row : Option Nat} (h : PkW w b b6 b7 b8 bp ao n c f s t W) (hB : w.heap.size ≤ B) (hg : W.grownBy W' row)
    (hr : ∀ x, row = some x → B ≤ x ∧ ∃ o : Obj, W.heap[x]? = some o ∧ o.isCells = false) : PkW w b b6 b7 b8 bp ao n c f s t W' :=
  have hr' := fun x e => (hr x e).2
  let ⟨y, hy, hu⟩ := h.c8
  ⟨cell_kept h.c28 hg hr', cell_kept h.c6 hg hr', cell_kept h.c7 hg hr', ⟨y, cell_kept hy hg hr', hu⟩, cell_kept h.cp hg hr', (frozen_kept h.c7 hg hr').trans h.z7, (frozen_kept hy hg hr').trans h.z8,
    h.fr.grown hg (fun k e hk => by have := (hr k e).1; omega), h.h7, h.h8, h.ne⟩

theorem PkW.same {w : World} {b b6 b7 b8 bp : Nat} {ao : Option Addr} {n c : Nat} {f : Nat → Nat} {s : Nat} {t : Nat × Cl} {W W' : World} (h : PkW w b b6 b7 b8 bp ao n c f s t W) (hf : Same' W W') : PkW w b b6 b7 b8 bp ao n c f s t W' :=
  let ⟨y, hy, hu⟩ := h.c8
  ⟨cell_same h.c28 hf, cell_same h.c6 hf, cell_same h.c7 hf, ⟨y, cell_same hy hf, hu⟩, cell_same h.cp hf, (frozen_same h.c7 hf).trans h.z7, (frozen_same hy hf).trans h.z8, h.fr.trans hf, h.h7, h.h8, h.ne⟩

theorem PkW.set {w : World} {b b6 b7 b8 bp : Nat} {ao : Option Addr} {n c : Nat} {f : Nat → Nat} {s : Nat} {t : Nat × Cl} {W : World} (h : PkW w b b6 b7 b8 bp ao n c f s t W) (x y : Nat) :
    PkW w b b6 b7 b8 bp ao n c f s (x, cls y) ((W.setCell ⟨b7, 0, none⟩ (.float .f64 x)).setCell ⟨b8, 0, none⟩ (.float .f64 y)) := by
  obtain ⟨n1, n2, n3, n4, n5, n6, n7⟩ := h.ne
  obtain ⟨y0, hy0, _⟩ := h.c8
  have h7 := h.h7
  have h8 := h.h8
  have oth : ∀ k v, k ≠ b7 → k ≠ b8 → W.cell? ⟨k, 0, none⟩ = some v → ((W.setCell ⟨b7, 0, none⟩ (.float .f64 x)).setCell ⟨b8, 0, none⟩ (.float .f64 y)).cell? ⟨k, 0, none⟩ = some v := fun k v h1 h2 hc =>
    (World.cell?_of_block (heap_setCell_other _ _ k _ h2)).trans ((World.cell?_of_block (heap_setCell_other _ _ k _ h1)).trans hc)
  have e8 : (W.setCell ⟨b7, 0, none⟩ (.float .f64 x)).cell? ⟨b8, 0, none⟩ = some (.float .f64 y0) := (World.cell?_of_block (heap_setCell_other _ _ b8 _ (by simp only; omega))).trans hy0
  refine ⟨oth _ _ n1 n2 h.c28, oth _ _ n3 n4 h.c6, ?_, ⟨y, ?_, rfl⟩, oth _ _ n5 n6 h.cp, ?_, ?_, ?_, h.h7, h.h8, h.ne⟩
  · exact (World.cell?_of_block (heap_setCell_other _ _ b7 _ (by simp only; omega))).trans (World.cell?_setCell_same' _ _ _ (by rw [h.c7]; rfl))
  · exact World.cell?_setCell_same' _ _ _ (by rw [e8]; rfl)
  · rw [World.frozen?_setCell, World.frozen?_setCell]; exact h.z7
  · rw [World.frozen?_setCell, World.frozen?_setCell]; exact h.z8
  · exact (h.fr.setCell _ _ (fun hlt => by simp only at hlt; omega)).setCell _ _ (fun hlt => by simp only at hlt; omega)

set_option maxHeartbeats 1000000 in
theorem Peak23_err {w : World} {ao : Option Addr} {n : Nat} (c : Nat) {f : Nat → Nat} (h : FlAt w ao n f) {s : Int} (hv : valB n f = false ∨ s < 1 ∨ 1000 < s) :
    Calls Try.prog 23 #[.slice ao n c, .int .i64 s] w fun e w' => e = .returned (.tuple #[.float .f64 0, .int .i64 2]) ∧ Same' w w' := by
  have C := hide (valid27_one (c := c) h)
  clear h
  cases hb : valB n f with
  | false =>
    rw [hb] at C
    clear hv hb
    go_enter Try.func23, Try.ntmps23
    go_wp2_with (go_at_call 27; refine C.out.mono ?_; clear C; rintro e w2 ⟨rfl, hf⟩)
    go_ret2
    exact ⟨rfl, ((Fr.refl _ w).alloc _).trans hf⟩
  | true =>
    rw [hb] at C
    rcases hv with hv | hv | hv
    · rw [hb] at hv; cases hv
    · clear hb
      have d1 : decide (s < 1) = true := by simpa using hv
      go_enter Try.func23, Try.ntmps23
      go_wp2_with (go_at_call 27; refine C.out.mono ?_; clear C; rintro e w2 ⟨rfl, hf⟩)
      go_ret2
      exact ⟨rfl, ((Fr.refl _ w).alloc _).trans hf⟩
    · clear hb
      have d1 : decide (s < 1) = false := by simp; omega
      have d2 : decide (1000 < s) = true := by simpa using hv
      go_enter Try.func23, Try.ntmps23
      go_wp2_with (go_at_call 27; refine C.out.mono ?_; clear C; rintro e w2 ⟨rfl, hf⟩)
      go_ret2
      exact ⟨rfl, ((Fr.refl _ w).alloc _).trans hf⟩

set_option maxRecDepth 100000 in
set_option maxHeartbeats 1000000 in
theorem Peak23_ok {w : World} {ao : Option Addr} {n : Nat} (c : Nat) {f : Nat → Nat} (h : FlAt w ao n f) {s : Nat} (hv : valB n f = true) (hs1 : 1 ≤ s) (hs2 : s ≤ 1000) :
    Calls Try.prog 23 #[.slice ao n c, .int .i64 s] w fun e w' => e = .returned (.tuple #[.float .f64 (pkS n (fun i => cls (f i)) s (s + 1)).1, .int .i64 0]) ∧ Same' w w' := by
  refine (callsIn_wide (n := 9)).1 ?_
  have C := hide (valid27_one (c := c) h)
  rw [hv] at C
  have HL := hide h
  have HV := hide hv
  have hw0 : ∀ ad i v, ao = some ad → w.cell? (ad.add i) = some v → True := fun _ _ _ _ _ => trivial
  have d1 : decide ((s : Int) < 1) = false := by simp; omega
  have d2 : decide ((1000 : Int) < s) = false := by simp; omega
  have A := hide (fun W => average28_at W ao n c)
  have PP := hide (fun W => points_at (s : Int) W)
  clear h hv hw0
  refine callsIn_of_wp_marks Try.func23 rfl trivial ?_ rfl
  refine wpIn_wide.2 ?_
  simp only [Try.ntmps23, List.size_toArray, List.length_cons, List.length_nil, Nat.reduceAdd, Nat.reduceSub, Array.replicate_succ, Array.replicate_zero, List.push_toArray, List.append_toArray, List.nil_append, List.cons_append]
  go_wp2_with (first
    | (go_at_call 27; refine C.out.mono ?_; clear C; rintro e w2 ⟨rfl, hf⟩; have hf' := ((Fr.refl (fun _ => False) w).alloc (.cells #[.slice ao n c] 22)).trans hf)
    | (go_at_call 28; refine (A.out _).mono ?_; rintro e w3 ⟨rfl, rfl⟩)
    | (go_at_call 42; refine (at42 (ao := ao) (n := n) (c := c) (f := fun i => f i) (p := 0) (by simp) (HL.out.keep ((hf'.alloc _).alloc _)) HV.out probB_zero).mono ?_; rintro e w4 ⟨a0, rfl, ha0, hf4⟩; have HA0 := hide ha0; clear ha0)
    | (go_at_call 30; refine (PP.out _).mono ?_; rintro e w5 ⟨rfl, rfl⟩))
  have hz := hf'.size
  have hz4 := hf4.size
  simp only [World.size_alloc] at hz4
  have hfw : Same' w (((w4.alloc (.cells #[.float .f64 0] 24)).alloc (.cells #[.float .f64 a0] 24)).alloc (.cells #[.int .i64 s] 3)) := ((((hf'.alloc _).alloc _).trans hf4).alloc _ |>.alloc _).alloc _
  have k1 : w4.cell? ⟨w2.heap.size, 0, none⟩ = some (.slice ao n c) := cell_same (by simp) hf4
  have k2 : w4.cell? ⟨w2.heap.size + 1, 0, none⟩ = some (.func (.func 42) #[] #[.pointer (some ⟨w2.heap.size, 0, none⟩)]) := cell_same (by simp) hf4
  have hS : PkW w w2.heap.size (w2.heap.size + 1) w4.heap.size (w4.heap.size + 1) (w4.heap.size + 1 + 1) ao n c f s (pkS n (fun i => cls (f i)) s 0) (((w4.alloc (.cells #[.float .f64 0] 24)).alloc (.cells #[.float .f64 a0] 24)).alloc (.cells #[.int .i64 s] 3)) := by
    refine ⟨?_, ?_, ?_, ⟨a0, ?_, HA0.out⟩, ?_, ?_, ?_, hfw, by omega, by omega, by omega⟩
    · exact cell_same k1 (((same_alloc _ _).trans (same_alloc _ _)).trans (same_alloc _ _))
    · exact cell_same k2 (((same_alloc _ _).trans (same_alloc _ _)).trans (same_alloc _ _))
    · exact cell_same (new_cell _ _ _) ((same_alloc _ _).trans (same_alloc _ _))
    · have h := cell_same (new_cell (w4.alloc (.cells #[.float .f64 0] 24)) (.float .f64 a0) 24) (same_alloc _ (.cells #[.int .i64 s] 3))
      simpa using h
    · have h := new_cell ((w4.alloc (.cells #[.float .f64 0] 24)).alloc (.cells #[.float .f64 a0] 24)) (.int .i64 s) 3
      simpa using h
    · exact (frozen_same (new_cell _ _ _) ((same_alloc _ _).trans (same_alloc _ _))).trans (new_free _ _ _)
    · have h := (frozen_same (new_cell (w4.alloc (.cells #[.float .f64 0] 24)) (.float .f64 a0) 24) (same_alloc _ (.cells #[.int .i64 s] 3))).trans (new_free _ _ _)
      simpa using h
  have hws : w.heap.size ≤ (((w4.alloc (.cells #[.float .f64 0] 24)).alloc (.cells #[.float .f64 a0] 24)).alloc (.cells #[.int .i64 s] 3)).heap.size := hfw.size
  clear hfw k1 k2 HA0 hf hf4 hf' hz hz4 A PP d1 d2
  refine (wpIn_wide (n := 8)).1 ?_
  refine wpIn_rangeFunc_al (n := 8) (α := Nat) rfl (by omega) (gf := 43) (lb := #[.pointer (some ⟨w4.heap.size + 1 + 1, 0, none⟩)]) rfl trivial (enters_of Try.func43 (by kernel_rfl) rfl) (enc := fun x => .float .f64 (gridW s x)) rfl
    (fun k => PkW w w2.heap.size (w2.heap.size + 1) w4.heap.size (w4.heap.size + 1) (w4.heap.size + 1 + 1) ao n c f s (pkS n (fun i => cls (f i)) s k))
    (fun k => PkW w w2.heap.size (w2.heap.size + 1) w4.heap.size (w4.heap.size + 1) (w4.heap.size + 1 + 1) ao n c f s (pkS n (fun i => cls (f i)) s (k + 1)))
    (fun _ _ => False)
    (fun s A B row hs hg hr => hs.own hws hg hr) (fun s A B row hs hg hr => hs.own hws hg hr) (fun s A B row hs hg hr => hs) 0 (s + 1) hS
    (fun x => x ≤ s)
    (fun x => { tmps := #[Value.slice ao n c, Value.int IntKind.i64 ↑s, undef, undef, Value.float FloatKind.f64 0,
          Value.int IntKind.i64 0, Value.pointer (some { block := w2.heap.size + 1, off := 0 }),
          Value.pointer (some { block := w4.heap.size, off := 0 }),
          Value.pointer (some { block := w4.heap.size + 1, off := 0 }), Value.float .f64 (gridW s x), undef, Value.slice ao n c,
          Value.slice (some { block := w.heap.size, off := 0 }) 1 1, Value.bool true, Value.bool false,
          Value.bool false, Value.int IntKind.i64 ↑s, Value.bool false, Value.bool false, Value.bool false,
          Value.int IntKind.i64 ↑s, Value.bool false, Value.bool false, Value.slice ao n c,
          Value.func (Fn.func 42) #[] #[Value.pointer (some { block := w2.heap.size, off := 0 })],
          Value.func (Fn.func 42) #[] #[Value.pointer (some { block := w2.heap.size, off := 0 })],
          Value.float FloatKind.f64 a0, Value.int IntKind.i64 ↑s,
          Value.func (Fn.func 43) #[] #[Value.pointer (some { block := w4.heap.size + 1 + 1, off := 0 })], Value.float .f64 (gridW s x), undef,
          undef, undef, undef, undef, undef, undef, undef, undef], defers := [] }) ?assign ?body ?iter ?done ?stop
  case assign =>
    intro l x W K hK
    gi_wp2
    exact hK
  case iter =>
    intro l B Bx hB hBx hY W hW hBW
    refine points1_at l (w4.heap.size + 1 + 1) s hs1 hs2 (fun k => PkW w w2.heap.size (w2.heap.size + 1) w4.heap.size (w4.heap.size + 1) (w4.heap.size + 1 + 1) ao n c f s (pkS n (fun i => cls (f i)) s k))
      (fun k => PkW w w2.heap.size (w2.heap.size + 1) w4.heap.size (w4.heap.size + 1) (w4.heap.size + 1 + 1) ao n c f s (pkS n (fun i => cls (f i)) s (k + 1))) (fun _ _ => False) B Bx ?_ ?_ hY W hW hBW
    · exact fun r W h => h.cp
    · exact fun k W h => h
  case body =>
    rintro l k W hk hS
    have hp := grid_prob hs1 hs2 hk
    obtain ⟨p, hpe⟩ : ∃ p, p = gridW s k := ⟨_, rfl⟩
    rw [← hpe] at hp ⊢
    have c6 := hS.c6
    have C := hide (callsIn_round (n := 5) l (at42 hS.c28 (HL.out.keep hS.fr) HV.out hp))
    have HS := hide hS
    have HP := hide hpe
    clear hS hp hpe hws
    gi_wp2
    refine ⟨trivial, C.out.mono ?_⟩
    clear C
    rintro e W2 ⟨a, rfl, ha, hf2⟩
    have hS2 := HS.out.same hf2
    have hk2 := same_keeps hf2
    have c7 := hS2.c7
    have z7 := hS2.z7
    have z8 := hS2.z8
    obtain ⟨y, hy, hu⟩ := hS2.c8
    have ne78 := hS2.ne.2.2.2.2.2.2
    have HS2 := hide hS2
    have HA := hide ha
    have HU := hide hu
    clear hS2 ha hu c6 HS hf2
    have hst : pkS n (fun i => cls (f i)) s (k + 1) = if ordr a y = some .gt then (p, cls a) else pkS n (fun i => cls (f i)) s k := by
      show (if ordC (avC n (fun i => cls (f i)) (gridW s k)) (pkS n (fun i => cls (f i)) s k).2 = some .gt then (gridW s k, avC n (fun i => cls (f i)) (gridW s k)) else pkS n (fun i => cls (f i)) s k) = _
      rw [← HP.out, ← HA.out, ← HU.out, ordC_cls]
    have HST := hide hst
    clear hst
    by_cases ho : FloatKind.f64.format.order a y = some .gt
    · gi_wp2
      refine ⟨hk2.trans ((KeepsOthers.setCell _ _ _).trans (KeepsOthers.setCell _ _ _)), ?_⟩
      rw [HST.out, if_pos ho]
      exact HS2.out.set p a
    · have hob : (FloatKind.f64.format.order a y == some Ordering.gt) = false := by simpa using ho
      gi_wp2
      rw [HST.out, if_neg ho]
      exact HS2.out
  case done =>
    rintro D W hD hS hK
    have c7 := hS.c7
    have HS := hide hS.fr
    clear hS
    go_wp2_with fail
    refine ⟨by simp, .inl ⟨_, _, rfl, run_takeDeferred hK, ?_⟩⟩
    exact ⟨_, results_tmp2 rfl _ _ _, rfl, HS.out.grown (grownBy_putObj' _ D _) (fun k e hk => by cases e; omega)⟩
  case stop => intro D x W _ h; exact h.elim
end Go.Proofs.Ytneidejngbokcaa

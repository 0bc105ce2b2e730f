/- Walks: Cross, the code's. -/
import Derived.Test.YtneidejngbokcaaC5
import Derived.Test.YtneidejngbokcaaQ
namespace Go.Proofs.Ytneidejngbokcaa
open Go.RowKit Go.Shelf

attribute [local go_sem] Oper.semAt_some

/-- How the two averages compare at the k-th number of the grid. -/
def sgK (n : Nat) (F : Nat → Cl) (m : Nat) (G : Nat → Cl) (s k : Nat) : Int := sgC (avC n F (gridW s k)) (avC m G (gridW s k))
def sg0 (n : Nat) (F : Nat → Cl) (m : Nat) (G : Nat → Cl) : Int := sgC (avC n F 0) (avC m G 0)
/-- What Cross hands back. -/
def CrOut (n : Nat) (F : Nat → Cl) (m : Nat) (G : Nat → Cl) (s r : Nat) (b : Bool) : Prop :=
  (b = true ∧ ∃ k, k ≤ s ∧ r = gridW s k ∧ sgK n F m G s k ≠ sg0 n F m G ∧ ∀ j, j < k → sgK n F m G s j = sg0 n F m G) ∨ (b = false ∧ r = 0 ∧ ∀ j, j ≤ s → sgK n F m G s j = sg0 n F m G)

/-- What lies in the boxes of Cross. -/
structure CsW (w : World) (b6 b7 b8 b9 b10 b11 b12 bp bx bz : Nat) (ao zo : Option Addr) (n m c d s : Nat) (first : Int) (r : Nat) (bo : Bool) (er : Int) (W : World) : Prop where
  c6 : W.cell? ⟨b6, 0, none⟩ = some (.float .f64 r)
  c7 : W.cell? ⟨b7, 0, none⟩ = some (.bool bo)
  c8 : W.cell? ⟨b8, 0, none⟩ = some (.int .i64 er)
  z6 : W.frozen? ⟨b6, 0, none⟩ = false
  z7 : W.frozen? ⟨b7, 0, none⟩ = false
  z8 : W.frozen? ⟨b8, 0, none⟩ = false
  c9 : W.cell? ⟨b9, 0, none⟩ = some (.func (.func 42) #[] #[.pointer (some ⟨bx, 0, none⟩)])
  c10 : W.cell? ⟨b10, 0, none⟩ = some (.func (.func 42) #[] #[.pointer (some ⟨bz, 0, none⟩)])
  c11 : W.cell? ⟨b11, 0, none⟩ = some (.func (.func 29) #[] #[.pointer (some ⟨b9, 0, none⟩), .pointer (some ⟨b10, 0, none⟩)])
  c12 : W.cell? ⟨b12, 0, none⟩ = some (.int .i64 first)
  cp : W.cell? ⟨bp, 0, none⟩ = some (.int .i64 s)
  cx : W.cell? ⟨bx, 0, none⟩ = some (.slice ao n c)
  cz : W.cell? ⟨bz, 0, none⟩ = some (.slice zo m d)
  fr : Same' w W
  h6 : w.heap.size ≤ b6
  h7 : w.heap.size ≤ b7
  h8 : w.heap.size ≤ b8
  e7 : b7 = b6 + 1
  e8 : b8 = b6 + 1 + 1
  ne : b8 < b9 ∧ b8 < b10 ∧ b8 < b11 ∧ b8 < b12 ∧ b8 < bp ∧ b8 < bx ∧ b8 < bz

section
variable {w : World} {b6 b7 b8 b9 b10 b11 b12 bp bx bz : Nat} {ao zo : Option Addr} {n m c d s : Nat} {first : Int} {r : Nat} {bo : Bool} {er : Int} {W W' : World}

theorem CsW.own {B : Nat} {row : Option Nat} (h : CsW w b6 b7 b8 b9 b10 b11 b12 bp bx bz ao zo n m c d s first r bo er W) (hB : w.heap.size ≤ B) (hg : W.grownBy W' row)
    (hr : ∀ x, row = some x → B ≤ x ∧ ∃ o : Obj, W.heap[x]? = some o ∧ o.isCells = false) : CsW w b6 b7 b8 b9 b10 b11 b12 bp bx bz ao zo n m c d s first r bo er W' :=
  have hr' := fun x e => (hr x e).2
  ⟨cell_kept h.c6 hg hr', cell_kept h.c7 hg hr', cell_kept h.c8 hg hr', (frozen_kept h.c6 hg hr').trans h.z6, (frozen_kept h.c7 hg hr').trans h.z7, (frozen_kept h.c8 hg hr').trans h.z8,
    cell_kept h.c9 hg hr', cell_kept h.c10 hg hr', cell_kept h.c11 hg hr', cell_kept h.c12 hg hr', cell_kept h.cp hg hr', cell_kept h.cx hg hr', cell_kept h.cz hg hr',
    h.fr.grown hg (fun k e hk => by have := (hr k e).1; omega), h.h6, h.h7, h.h8, h.e7, h.e8, h.ne⟩

theorem CsW.same (h : CsW w b6 b7 b8 b9 b10 b11 b12 bp bx bz ao zo n m c d s first r bo er W) (hf : Same' W W') : CsW w b6 b7 b8 b9 b10 b11 b12 bp bx bz ao zo n m c d s first r bo er W' :=
  ⟨cell_same h.c6 hf, cell_same h.c7 hf, cell_same h.c8 hf, (frozen_same h.c6 hf).trans h.z6, (frozen_same h.c7 hf).trans h.z7, (frozen_same h.c8 hf).trans h.z8,
    cell_same h.c9 hf, cell_same h.c10 hf, cell_same h.c11 hf, cell_same h.c12 hf, cell_same h.cp hf, cell_same h.cx hf, cell_same h.cz hf, h.fr.trans hf, h.h6, h.h7, h.h8, h.e7, h.e8, h.ne⟩

theorem CsW.set (h : CsW w b6 b7 b8 b9 b10 b11 b12 bp bx bz ao zo n m c d s first r bo er W) (r' : Nat) (bo' : Bool) (er' : Int) :
    CsW w b6 b7 b8 b9 b10 b11 b12 bp bx bz ao zo n m c d s first r' bo' er' (((W.setCell ⟨b6, 0, none⟩ (.float .f64 r')).setCell ⟨b7, 0, none⟩ (.bool bo')).setCell ⟨b8, 0, none⟩ (.int .i64 er')) := by
  obtain ⟨n1, n2, n3, n4, n5, n6, n7⟩ := h.ne
  have e7 := h.e7
  have e8 := h.e8
  have h6 := h.h6
  have h7 := h.h7
  have h8 := h.h8
  have oth : ∀ k v, b8 < k → W.cell? ⟨k, 0, none⟩ = some v → (((W.setCell ⟨b6, 0, none⟩ (.float .f64 r')).setCell ⟨b7, 0, none⟩ (.bool bo')).setCell ⟨b8, 0, none⟩ (.int .i64 er')).cell? ⟨k, 0, none⟩ = some v := fun k v h1 hc =>
    (World.cell?_of_block (heap_setCell_other _ _ k _ (by simp only; omega))).trans ((World.cell?_of_block (heap_setCell_other _ _ k _ (by simp only; omega))).trans ((World.cell?_of_block (heap_setCell_other _ _ k _ (by simp only; omega))).trans hc))
  have f7 : (W.setCell ⟨b6, 0, none⟩ (.float .f64 r')).cell? ⟨b7, 0, none⟩ = some (.bool bo) := (World.cell?_of_block (heap_setCell_other _ _ b7 _ (by simp only; omega))).trans h.c7
  have f8 : ((W.setCell ⟨b6, 0, none⟩ (.float .f64 r')).setCell ⟨b7, 0, none⟩ (.bool bo')).cell? ⟨b8, 0, none⟩ = some (.int .i64 er) := (World.cell?_of_block (heap_setCell_other _ _ b8 _ (by simp only; omega))).trans ((World.cell?_of_block (heap_setCell_other _ _ b8 _ (by simp only; omega))).trans h.c8)
  refine ⟨?_, ?_, ?_, ?_, ?_, ?_, oth _ _ n1 h.c9, oth _ _ n2 h.c10, oth _ _ n3 h.c11, oth _ _ n4 h.c12, oth _ _ n5 h.cp, oth _ _ n6 h.cx, oth _ _ n7 h.cz, ?_, h6, h7, h8, e7, e8, h.ne⟩
  · exact (World.cell?_of_block (heap_setCell_other _ _ b6 _ (by simp only; omega))).trans ((World.cell?_of_block (heap_setCell_other _ _ b6 _ (by simp only; omega))).trans (World.cell?_setCell_same' _ _ _ (by rw [h.c6]; rfl)))
  · exact (World.cell?_of_block (heap_setCell_other _ _ b7 _ (by simp only; omega))).trans (World.cell?_setCell_same' _ _ _ (by rw [f7]; rfl))
  · exact World.cell?_setCell_same' _ _ _ (by rw [f8]; rfl)
  · rw [World.frozen?_setCell, World.frozen?_setCell, World.frozen?_setCell]; exact h.z6
  · rw [World.frozen?_setCell, World.frozen?_setCell, World.frozen?_setCell]; exact h.z7
  · rw [World.frozen?_setCell, World.frozen?_setCell, World.frozen?_setCell]; exact h.z8
  · exact ((h.fr.setCell _ _ (fun hlt => by simp only at hlt; omega)).setCell _ _ (fun hlt => by simp only at hlt; omega)).setCell _ _ (fun hlt => by simp only at hlt; omega)
end

/-- Two rows handed over. -/
theorem valid27_two {w : World} {ao zo : Option Addr} {n m c d : Nat} {f g : Nat → Nat} (h : FlAt w ao n f) (h2 : FlAt w zo m g) :
    Calls Try.prog 27 #[.slice (some ⟨w.heap.size, 0, none⟩) 2 2] (w.alloc (.cells #[.slice ao n c, .slice zo m d] 22)) fun e w' => e = .returned (.bool (valB n f && valB m g)) ∧ Same' (w.alloc (.cells #[.slice ao n c, .slice zo m d] 22)) w' := by
  have hL : LsAt (w.alloc (.cells #[.slice ao n c, .slice zo m d] 22)) w.heap.size 2 (fun i => if i = 0 then ao else zo) (fun i => if i = 0 then n else m) (fun i => if i = 0 then c else d) (fun i => if i = 0 then f else g) := by
    refine ⟨fun i hi => ?_, fun i hi => ?_⟩
    · have e : i = 0 ∨ i = 1 := by omega
      rcases e with rfl | rfl <;> simp
    · have e : i = 0 ∨ i = 1 := by omega
      rcases e with rfl | rfl
      · exact h.keep (same_alloc _ _)
      · exact h2.keep (same_alloc _ _)
  refine (valid27_at (k := 2) (by omega) hL).mono fun e w' ⟨he, hw⟩ => ⟨he.trans (ret_bool (by simp [allV, List.range_succ])), hw⟩

/-- The cells of the results, new. -/
theorem res_new {w W : World} {ao zo : Option Addr} {n m c d : Nat} (hf : Same' ((((w.alloc (.cells #[.float .f64 0] 24)).alloc (.cells #[.bool false] 4)).alloc (.cells #[.int .i64 0] 25)).alloc (.cells #[.slice ao n c, .slice zo m d] 22)) W) :
    W.cell? ⟨w.heap.size, 0, none⟩ = some (.float .f64 0) ∧ W.cell? ⟨w.heap.size + 1, 0, none⟩ = some (.bool false) ∧ W.cell? ⟨w.heap.size + 1 + 1, 0, none⟩ = some (.int .i64 0) ∧
    W.frozen? ⟨w.heap.size, 0, none⟩ = false ∧ W.frozen? ⟨w.heap.size + 1, 0, none⟩ = false ∧ W.frozen? ⟨w.heap.size + 1 + 1, 0, none⟩ = false ∧ Same' w W := by
  have s6 := ((same_alloc _ (.cells #[.bool false] 4)).trans (same_alloc _ (.cells #[.int .i64 0] 25))).trans (same_alloc _ (.cells #[.slice ao n c, .slice zo m d] 22)) |>.trans hf
  have s7 := ((same_alloc _ (.cells #[.int .i64 0] 25)).trans (same_alloc _ (.cells #[.slice ao n c, .slice zo m d] 22))).trans hf
  have s8 := (same_alloc _ (.cells #[.slice ao n c, .slice zo m d] 22)).trans hf
  have n6 := new_cell w (.float .f64 0) 24
  have n7 := new_cell (w.alloc (.cells #[.float .f64 0] 24)) (.bool false) 4
  have n8 := new_cell ((w.alloc (.cells #[.float .f64 0] 24)).alloc (.cells #[.bool false] 4)) (.int .i64 0) 25
  have q6 := new_free w (.float .f64 0) 24
  have q7 := new_free (w.alloc (.cells #[.float .f64 0] 24)) (.bool false) 4
  have q8 := new_free ((w.alloc (.cells #[.float .f64 0] 24)).alloc (.cells #[.bool false] 4)) (.int .i64 0) 25
  have z6 := (frozen_same n6 s6).trans q6
  have z7 := (frozen_same n7 s7).trans q7
  have z8 := (frozen_same n8 s8).trans q8
  have k6 := cell_same n6 s6
  have k7 := cell_same n7 s7
  have k8 := cell_same n8 s8
  simp only [World.size_alloc] at k7 k8 z7 z8
  exact ⟨k6, k7, k8, z6, z7, z8, (same_alloc _ _).trans s6⟩

set_option maxRecDepth 100000 in
set_option maxHeartbeats 1000000 in
theorem Cross15_err {w : World} {ao zo : Option Addr} {n m : Nat} (c d : Nat) {f g : Nat → Nat} (h : FlAt w ao n f) (h2 : FlAt w zo m g) {s : Int} (hv : (valB n f && valB m g) = false ∨ s < 1 ∨ 1000 < s) :
    Calls Try.prog 15 #[.slice ao n c, .slice zo m d, .int .i64 s] w fun e w' => e = .returned (.tuple #[.float .f64 0, .bool false, .int .i64 2]) ∧ Same' w w' := by
  have hfa := ((same_alloc w (.cells #[.float .f64 0] 24)).trans (same_alloc _ (.cells #[.bool false] 4))).trans (same_alloc _ (.cells #[.int .i64 0] 25))
  have C := valid27_two (c := c) (d := d) (h.keep hfa) (h2.keep hfa)
  simp only [World.size_alloc] at C
  replace C := hide C
  clear h h2
  have hd : (valB n f && valB m g) = false ∨ ((valB n f && valB m g) = true ∧ (decide (s < 1) = true ∨ (decide (s < 1) = false ∧ decide (1000 < s) = true))) := by
    cases hb : (valB n f && valB m g)
    · exact .inl rfl
    · rw [hb] at hv
      refine .inr ⟨rfl, ?_⟩
      simp at hv ⊢
      omega
  clear hv
  have KC := hide (fun (W : World) (hf : Same' ((((w.alloc (.cells #[.float .f64 0] 24)).alloc (.cells #[.bool false] 4)).alloc (.cells #[.int .i64 0] 25)).alloc (.cells #[.slice ao n c, .slice zo m d] 22)) W) => res_new (ao := ao) (zo := zo) (n := n) (m := m) (c := c) (d := d) hf)
  obtain ⟨V, hV⟩ : ∃ V, V = (valB n f && valB m g) := ⟨_, rfl⟩
  rw [← hV] at hd C
  clear hV
  rcases hd with rfl | ⟨rfl, d1 | ⟨d1, d2⟩⟩
  all_goals
    go_enter Try.func15, Try.ntmps15
    go_wp2_with fail
    refine C.out.mono ?_
    clear C
    rintro e w2 ⟨rfl, hf⟩
    obtain ⟨c6, c7, c8, z6, z7, z8, hfw⟩ := KC.out _ hf
    have HF := hide hfw
    clear hfw hf KC
    go_wp2_with fail
    refine bodyPost_ret (v := .tuple #[.float .f64 0, .bool false, .int .i64 2]) (by simp [results, Try.results15, go_sem, c6, c7, c8]) rfl ⟨rfl, ?_⟩
    exact ((HF.out.setCell _ _ (fun hlt => by simp only at hlt; omega)).setCell _ _ (fun hlt => by simp only at hlt; omega)).setCell _ _ (fun hlt => by simp only at hlt; omega)
end Go.Proofs.Ytneidejngbokcaa

/- Walks: weighted, and the code's Average. -/
import Derived.Test.YtneidejngbokcaaB5
namespace Go.Proofs.Ytneidejngbokcaa
open Go.RowKit Go.Shelf

attribute [local go_sem] Oper.semAt_some

theorem FlAt.own {W W' : World} {ao : Option Addr} {n : Nat} {f : Nat → Nat} {row : Option Nat} (h : FlAt W ao n f) (hg : W.grownBy W' row) (hr : ∀ x, row = some x → ∃ o : Obj, W.heap[x]? = some o ∧ o.isCells = false) : FlAt W' ao n f := fun i hi => by
  obtain ⟨ad, h1, h2⟩ := h i hi
  exact ⟨ad, h1, cell_kept h2 hg hr⟩

/-- What lies in the boxes of weighted: the two rows, the sum so far. -/
structure WgS (w : World) (bs b1 b2 : Nat) (xo vo : Option Addr) (n c d : Nat) (f g : Nat → Nat) (u : Cl) (W : World) : Prop where
  c1 : W.cell? ⟨b1, 0, none⟩ = some (.slice xo n c)
  c2 : W.cell? ⟨b2, 0, none⟩ = some (.slice vo n d)
  fx : FlAt W xo n f
  fv : FlAt W vo n g
  cs : ∃ y, W.cell? ⟨bs, 0, none⟩ = some (.float .f64 y) ∧ cls y = u
  zs : W.frozen? ⟨bs, 0, none⟩ = false
  fr : Same' w W
  hb : w.heap.size ≤ bs
  n1 : b1 ≠ bs
  n2 : b2 ≠ bs

theorem WgS.own {w : World} {bs b1 b2 : Nat} {xo vo : Option Addr} {n c d : Nat} {f g : Nat → Nat} {u : Cl} {W W' : World} {B : Nat} {row : Option Nat} (h : WgS w bs b1 b2 xo vo n c d f g u W) (hB : w.heap.size ≤ B) (hg : W.grownBy W' row)
    (hr : ∀ x, row = some x → B ≤ x ∧ ∃ o : Obj, W.heap[x]? = some o ∧ o.isCells = false) : WgS w bs b1 b2 xo vo n c d f g u W' :=
  have hr' := fun x e => (hr x e).2
  let ⟨y, hy, hu⟩ := h.cs
  ⟨cell_kept h.c1 hg hr', cell_kept h.c2 hg hr', h.fx.own hg hr', h.fv.own hg hr', ⟨y, cell_kept hy hg hr', hu⟩, (frozen_kept hy hg hr').trans h.zs, h.fr.grown hg (fun k e hk => by have := (hr k e).1; omega), h.hb, h.n1, h.n2⟩

theorem WgS.drew {w : World} {bs b1 b2 : Nat} {xo vo : Option Addr} {n c d : Nat} {f g : Nat → Nat} {u : Cl} (W : World) (h : WgS w bs b1 b2 xo vo n c d f g u W) : WgS w bs b1 b2 xo vo n c d f g u W.drew :=
  ⟨h.c1, h.c2, h.fx, h.fv, h.cs, h.zs, h.fr.to rfl rfl rfl rfl, h.hb, h.n1, h.n2⟩

theorem WgS.set {w : World} {bs b1 b2 : Nat} {xo vo : Option Addr} {n c d : Nat} {f g : Nat → Nat} {u : Cl} {W : World} (h : WgS w bs b1 b2 xo vo n c d f g u W) (hx : FlAt w xo n f) (hv : FlAt w vo n g) (y : Nat) :
    WgS w bs b1 b2 xo vo n c d f g (cls y) (W.setCell ⟨bs, 0, none⟩ (.float .f64 y)) := by
  have hf : Same' w (W.setCell ⟨bs, 0, none⟩ (.float .f64 y)) := h.fr.setCell _ _ (fun hlt => by have := h.hb; simp only at hlt; omega)
  obtain ⟨y0, hy0, _⟩ := h.cs
  refine ⟨?_, ?_, hx.keep hf, hv.keep hf, ⟨y, ?_, rfl⟩, ?_, hf, h.hb, h.n1, h.n2⟩
  · exact (World.cell?_of_block (heap_setCell_other W _ b1 _ h.n1)).trans h.c1
  · exact (World.cell?_of_block (heap_setCell_other W _ b2 _ h.n2)).trans h.c2
  · exact World.cell?_setCell_same' _ _ _ (by rw [hy0]; rfl)
  · rw [World.frozen?_setCell]; exact h.zs

set_option maxRecDepth 100000 in
set_option maxHeartbeats 1000000 in
theorem weighted_at {w : World} {xo vo : Option Addr} {n : Nat} (c d : Nat) {f g : Nat → Nat} (hn : n ≤ 16385) (hx : FlAt w xo n f) (hv : FlAt w vo n g) :
    Calls Try.prog 38 #[.slice xo n c, .slice vo n d] w fun e w' => ∃ s, e = .returned (.float .f64 s) ∧ cls s = sumC (fun k => cls (f k)) (fun k => cls (g k)) n ∧ Same' w w' := by
  refine (callsIn_wide (n := 9)).1 ?_
  have C := hide (fun W => terms_at xo vo n c n d W)
  have HX := hide hx
  have HV := hide hv
  clear hx hv
  refine callsIn_of_wp_marks Try.func38 rfl trivial ?_ rfl
  refine wpIn_wide.2 ?_
  simp only [Try.ntmps38, List.size_toArray, List.length_cons, List.length_nil, Nat.reduceAdd, Nat.reduceSub, Array.replicate_succ, Array.replicate_zero, List.push_toArray, List.append_toArray, List.nil_append, List.cons_append]
  go_wp2_with (go_at_call 51; refine (C.out _).mono ?_; clear C; rintro e w1 ⟨b1, b2, rfl, hb, hb1, hc1, hc2, hf1⟩)
  have hlt1 : w.heap.size + 1 ≤ w1.heap.size := by have := hf1.size; simpa using this
  have hs1 : w1.cell? ⟨w.heap.size, 0, none⟩ = some (.float .f64 0) := (hf1.cell (a := ⟨w.heap.size, 0, none⟩) (by simp) id).trans (by simp)
  have hz1 : w1.frozen? ⟨w.heap.size, 0, none⟩ = false := by
    have hb := hf1.block w.heap.size (by simp) id
    rw [heap_alloc_new] at hb
    exact frozen_of_row w1 _ 0 _ _ hb
  have hfw : Same' w w1 := ((Fr.refl _ w).alloc _).trans hf1
  have hS : WgS w w.heap.size b1 b2 xo vo n c d f g (sumC (fun k => cls (f k)) (fun k => cls (g k)) 0) w1 :=
    ⟨hc1, hc2, HX.out.keep hfw, HV.out.keep hfw, ⟨0, hs1, rfl⟩, hz1, hfw, Nat.le_refl _, by simp at hb1; omega, by simp at hb1; omega⟩
  have hws := hfw.size
  clear hs1 hz1 hfw hc1 hc2 hf1
  refine (wpIn_wide (n := 8)).1 ?_
  refine wpIn_rangeFunc_al (n := 8) (α := Nat × Nat) rfl (by omega) (gf := 64) (lb := #[.pointer (some ⟨b1, 0, none⟩), .pointer (some ⟨b2, 0, none⟩)]) rfl trivial (enters_of Try.func64 (by kernel_rfl) rfl) (enc := fun x => .float .f64 x.2) rfl
    (fun x => WgS w w.heap.size b1 b2 xo vo n c d f g (sumC (fun k => cls (f k)) (fun k => cls (g k)) x.1))
    (fun x => WgS w w.heap.size b1 b2 xo vo n c d f g (sumC (fun k => cls (f k)) (fun k => cls (g k)) (x.1 + 1)))
    (fun _ _ => False)
    (fun s A B row hs hg hr => hs.own hws hg hr) (fun s A B row hs hg hr => hs.own hws hg hr) (fun s A B row hs hg hr => hs) (0, 0) (n, 0) hS
    (fun x => x.1 < n ∧ cls x.2 = fop .mul (cls (f x.1)) (cls (g x.1)))
    (fun x => { tmps := #[Value.slice xo n c, Value.slice vo n d, undef, undef, Value.float FloatKind.f64 0,
          Value.pointer (some { block := w.heap.size, off := 0 }), Value.float .f64 x.2, Value.slice xo n c, Value.slice vo n d,
          Value.func (Fn.func 64) #[]
            #[Value.pointer (some { block := b1, off := 0 }), Value.pointer (some { block := b2, off := 0 })],
          Value.float .f64 x.2, undef, undef, undef, undef], defers := [] }) ?assign ?body ?iter ?done ?stop
  case assign =>
    intro l x W K hK
    gi_wp2
    exact hK
  case iter =>
    intro l B Bx hB hBx hY W hW hBW
    refine terms1_at l b1 b2 (xo := xo) (vo := vo) (c := c) (d := d) (fun x => WgS w w.heap.size b1 b2 xo vo n c d f g (sumC (fun k => cls (f k)) (fun k => cls (g k)) x.1))
      (fun x => WgS w w.heap.size b1 b2 xo vo n c d f g (sumC (fun k => cls (f k)) (fun k => cls (g k)) (x.1 + 1))) (fun _ _ => False) B Bx hn ?_ ?_ ?_ hB hY W hW hBW
    · exact fun r W h => ⟨h.c1, h.c2, h.fx, h.fv⟩
    · exact fun k r r' W h => ⟨WgS.drew _ (WgS.drew _ h), WgS.drew _ h⟩
    · exact fun k r r' W h => h
  case body =>
    rintro l ⟨k, r⟩ W ⟨hk, hr⟩ hS
    obtain ⟨y, hy, hu⟩ := hS.cs
    have hz := hS.zs
    have HR := hide hr
    have HU := hide hu
    have HS := hide hS
    clear hr hu hS hws
    cases em : floatBits .add .f64 y r with
    | some q =>
      have hm : ∀ w, (binOp .add 24 (.float .f64 y) (.float .f64 r)).run Try.prog w = .ok (.float .f64 q) w := fun w => run_float_arith w .add 24 .f64 _ _ _ em
      have hq := cls_some em
      have HQ := hide hq
      clear em hq
      gi_wp2
      refine ⟨KeepsOthers.setCell _ _ _, ?_⟩
      have h := HS.out.set HX.out HV.out q
      rw [HQ.out, HU.out, HR.out] at h
      exact h
    | none =>
      have hm : ∀ w, (binOp .add 24 (.float .f64 y) (.float .f64 r)).run Try.prog w = .ok (.float .f64 (nanW y r w)) w.drew := run_none .add 24 _ _ (by simp) em
      have hq : ∀ w, cls (nanW y r w) = _ := fun w => cls_none em (nanW_nan _ _ w)
      have HQ := hide hq
      clear em hq
      gi_wp2
      refine ⟨(KeepsOthers.setCell _ _ _).trans (KeepsOthers.drew _), ?_⟩
      have h := WgS.drew _ (HS.out.set HX.out HV.out (nanW y r W))
      rw [HQ.out, HU.out, HR.out] at h
      exact h
  case done =>
    rintro D W hD hS hK
    obtain ⟨y, hy, hu⟩ := hS.cs
    have HU := hide hu
    have HS := hide hS.fr
    clear hS hu
    go_wp2_with fail
    refine ⟨by simp, .inl ⟨_, _, rfl, run_takeDeferred hK, ?_⟩⟩
    exact ⟨_, results_tmp rfl _ _ _, y, rfl, HU.out, HS.out.grown (grownBy_putObj' _ D _) (fun k e hk => by cases e; omega)⟩
  case stop => intro D x W _ h; exact h.elim
end Go.Proofs.Ytneidejngbokcaa

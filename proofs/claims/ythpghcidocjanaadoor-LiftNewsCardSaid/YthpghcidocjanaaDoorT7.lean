/- Walks: Up. -/
import Derived.Test.YthpghcidocjanaaDoorT6
import Derived.Test.YthpghcidocjanaaDoorRW
namespace Go.Proofs.YthpghcidocjanaaDoor
open Go.RowKit Go.Shelf

attribute [local go_sem] Oper.semAt_some

/-- A whole table of the forest p of n nodes at block b. -/
def Full (w : World) (b n : Nat) (p : Nat → Int) : Prop := Forest n p ∧ n ≤ 8192 ∧ ∃ g gd, Tab w b n g gd (upAt p) (fun v => (dep n p v : Nat))

theorem Full.keep {w w' : World} {b n : Nat} {p : Nat → Int} (h : Full w b n p) (hf : Same' w w') : Full w' b n p := by
  obtain ⟨h1, h2, g, gd, hT⟩ := h
  exact ⟨h1, h2, g, gd, hT.same hf⟩

/-- What lies in the boxes of Up: the table, the node that is j steps above v, what is left of k. -/
structure UpS (w : World) (b bt bv bk : Nat) (p : Nat → Int) (v r j : Nat) (W : World) : Prop where
  ck : W.cell? ⟨bk, 0, none⟩ = some (.int .u64 r)
  fk : W.frozen? ⟨bk, 0, none⟩ = false
  ct : W.cell? ⟨bt, 0, none⟩ = some (.pointer (some ⟨b, 0, none⟩))
  cv : W.cell? ⟨bv, 0, none⟩ = some (.int .i64 (anc p j v))
  fv : W.frozen? ⟨bv, 0, none⟩ = false
  fr : Same' w W

theorem UpS.own {w : World} {b bt bv bk B : Nat} {p : Nat → Int} {v r j : Nat} {W W' : World} {row : Option Nat} (h : UpS w b bt bv bk p v r j W) (hB : w.heap.size ≤ B) (hg : W.grownBy W' row)
    (hr : ∀ x, row = some x → B ≤ x ∧ ∃ o : Obj, W.heap[x]? = some o ∧ o.isCells = false) : UpS w b bt bv bk p v r j W' :=
  have hr' := fun x e => (hr x e).2
  ⟨cell_kept h.ck hg hr', (frozen_kept h.ck hg hr').trans h.fk, cell_kept h.ct hg hr', cell_kept h.cv hg hr', (frozen_kept h.cv hg hr').trans h.fv,
    h.fr.grown hg (fun k e hk => by have := (hr k e).1; omega)⟩

theorem UpS.setK {w : World} {b bt bv bk : Nat} {p : Nat → Int} {v r j : Nat} {W : World} (h : UpS w b bt bv bk p v r j W) (h1 : bt ≠ bk) (h2 : bv ≠ bk) (hk : w.heap.size ≤ bk) (r' : Nat) :
    UpS w b bt bv bk p v r' j (W.setCell ⟨bk, 0, none⟩ (.int .u64 r')) :=
  ⟨World.cell?_setCell_same' _ _ _ (by rw [h.ck]; rfl), by rw [World.frozen?_setCell]; exact h.fk,
    (World.cell?_setCell_other W ⟨bk, 0, none⟩ ⟨bt, 0, none⟩ _ (by simp <;> omega)).trans h.ct,
    (World.cell?_setCell_other W ⟨bk, 0, none⟩ ⟨bv, 0, none⟩ _ (by simp <;> omega)).trans h.cv,
    by rw [World.frozen?_setCell]; exact h.fv, h.fr.setCell _ _ (fun hlt => by simp at hlt; omega)⟩

theorem UpS.setV {w : World} {b bt bv bk : Nat} {p : Nat → Int} {v r j : Nat} {W : World} (h : UpS w b bt bv bk p v r j W) (h1 : bt ≠ bv) (h2 : bk ≠ bv) (hk : w.heap.size ≤ bv) (j' : Nat) (q : Int) (hq : q = anc p j' v) :
    UpS w b bt bv bk p v r j' (W.drew.setCell ⟨bv, 0, none⟩ (.int .i64 q)) := by
  subst hq
  exact ⟨(World.cell?_setCell_other W.drew ⟨bv, 0, none⟩ ⟨bk, 0, none⟩ _ (by simp <;> omega)).trans h.ck, by rw [World.frozen?_setCell]; exact h.fk,
    (World.cell?_setCell_other W.drew ⟨bv, 0, none⟩ ⟨bt, 0, none⟩ _ (by simp <;> omega)).trans h.ct,
    World.cell?_setCell_same' W.drew _ _ (by rw [show W.drew.cell? ⟨bv, 0, none⟩ = W.cell? ⟨bv, 0, none⟩ from rfl, h.cv]; rfl),
    by rw [World.frozen?_setCell]; exact h.fv, (h.fr.drew).setCell _ _ (fun hlt => by simp at hlt; omega)⟩

/-- Ahead of a round that has r left, and behind it. -/
def UpI1 (w : World) (b bt bv bk : Nat) (p : Nat → Int) (v k r : Nat) (W : World) : Prop := r ≤ k ∧ UpS w b bt bv bk p v r (k - r) W
def UpI2 (w : World) (b bt bv bk : Nat) (p : Nat → Int) (v k r : Nat) (W : World) : Prop := (0 < r ∧ r ≤ k) ∧ UpS w b bt bv bk p v r (k - (r &&& (r - 1))) W

set_option maxRecDepth 100000 in
set_option maxHeartbeats 1000000 in
theorem Up_in {w : World} {b n gd : Nat} {g : Nat → Nat} {p : Nat → Int} (hT : Tab w b n g gd (upAt p) (fun v => (dep n p v : Nat))) (hF : Forest n p) (hn : n ≤ 8192) (ht : TzTab w) (v k : Nat) (hv : v < n) (hk : k ≤ dep n p v) :
    CallsIn Fence.wide 9 Tryd.prog 16 #[.pointer (some ⟨b, 0, none⟩), .int .i64 v, .int .i64 k] w fun e w' => e = .returned (.tuple #[.int .i64 (anc p k v), .bool true]) ∧ Same' w w' := by
  have hd := hF.dep_lt hv
  have C := hide (fun (W : World) (hf : Same' w W) => (hT.same hf).node_is (v : Int) (t := true) (by unfold inN; simp; omega))
  have C2 := hide (fun (W : World) => callsIn_wide.1 (ones_at (k : Int) W))
  have cd := hT.cd
  have cv : w.cell? ⟨gd, v, none⟩ = some (.int .i64 (dep n p v : Nat)) := hT.depth.cell v hv
  have h1 : decide ((k : Int) < 0) = false := by simp
  have h2 : decide (dep n p v < k) = false := by simp; omega
  have hbl := lt_of_block hT.hdr
  have hgl := hT.depth.lt
  have HT := hide hT
  have HF := hide hF
  clear hT hF
  refine callsIn_of_wp_marks Tryd.func16 rfl trivial ?_ rfl
  refine wpIn_wide.2 ?_
  simp only [Tryd.ntmps16, List.size_toArray, List.length_cons, List.length_nil, Nat.reduceAdd, Nat.reduceSub, Array.replicate_succ, Array.replicate_zero, List.push_toArray, List.append_toArray, List.nil_append, List.cons_append]
  go_wp2
  go_quiet ((go_at_call 26; exact Calls.quiet_of_same ((C.out _ ((((Fr.refl _ w).alloc _).alloc _).drewN _)).mono fun _ _ h => ⟨h.1, h.2.symm⟩)))
  go_wp2_with (go_at_call 27; refine (C2.out _).mono ?_; clear C2; rintro e w' ⟨rfl, rfl⟩)
  refine (wpIn_wide (n := 8)).1 ?_
  have hS : UpS w b w.heap.size (w.heap.size + 1) (w.heap.size + 1 + 1) p v k 0 ((((w.alloc (Obj.cells #[Value.pointer (some { block := b, off := 0 })] 24)).alloc (Obj.cells #[Value.int IntKind.i64 ↑v] 3)).drewN nq).alloc (Obj.cells #[Value.int IntKind.u64 ↑k] 67)) := by
    refine ⟨by go_simp, by go_simp, by go_simp, by go_simp; rfl, by go_simp, ((((Fr.refl _ w).alloc _).alloc _).drewN _).alloc _⟩
  refine wpIn_rangeFunc_st (n := 8) rfl (by omega) (gf := 38) (lb := #[.pointer (some ⟨w.heap.size + 1 + 1, 0, none⟩)]) rfl trivial (enters_of Tryd.func38 (by kernel_rfl) rfl) (enc := fun r => .int .i64 (tz r : Nat)) rfl
    (UpI1 w b w.heap.size (w.heap.size + 1) (w.heap.size + 1 + 1) p v k)
    (UpI2 w b w.heap.size (w.heap.size + 1) (w.heap.size + 1 + 1) p v k)
    (fun s A B row hs hg hr => ⟨hs.1, hs.2.own (by simp; omega) hg hr⟩) (fun s A B row hs hg hr => ⟨hs.1, hs.2.own (by simp; omega) hg hr⟩) k 0 ⟨Nat.le_refl _, by rw [Nat.sub_self]; exact hS⟩ (fun r => 0 < r ∧ r < 8192)
    (fun r => { tmps := #[Value.pointer (some { block := b, off := 0 }), Value.int IntKind.i64 ↑v, Value.int IntKind.i64 ↑k,
          Value.pointer (some { block := w.heap.size, off := 0 }),
          Value.pointer (some { block := w.heap.size + 1, off := 0 }), undef, Value.int IntKind.i64 0, Value.bool false,
          Value.int IntKind.i64 (tz r : Nat), Value.pointer (some { block := b, off := 0 }), Value.int IntKind.i64 ↑v, Value.bool true,
          Value.bool false, Value.bool false, Value.int IntKind.i64 ↑k, Value.bool false, Value.bool false,
          Value.bool false, Value.int IntKind.i64 ↑k, Value.pointer (some { block := b, off := 0 }),
          Value.pointer (some { block := b, off := 0 }), Value.pointer (some { block := b, off := 15 }),
          Value.slice (some { block := gd, off := 0 }) n n, Value.int IntKind.i64 ↑v,
          Value.pointer (some { block := gd, off := v }), Value.int IntKind.i64 ↑(dep n p v), Value.bool false,
          Value.bool false, Value.int IntKind.i64 ↑k, Value.int IntKind.u64 ↑k,
          Value.func (Fn.func 38) #[] #[Value.pointer (some { block := w.heap.size + 1 + 1, off := 0 })], Value.int IntKind.i64 (tz r : Nat), undef,
          undef, undef, undef, undef, undef, undef, undef, undef, undef, undef], defers := [] }) ?assign ?body ?iter ?done
  case assign =>
    intro l x W K hK
    gi_wp2
    exact hK
  case iter =>
    intro l B hB hY W hW hBW
    refine ones1_at l (w.heap.size + 1 + 1) (UpI1 w b w.heap.size (w.heap.size + 1) (w.heap.size + 1 + 1) p v k) (UpI2 w b w.heap.size (w.heap.size + 1) (w.heap.size + 1 + 1) p v k) B ?_ ?_ hB hY k W hW hBW
    · rintro r W ⟨hr, hs⟩
      exact ⟨by omega, hs.ck, ht.keep hs.fr (fun h => h)⟩
    · rintro r W ⟨⟨hr0, hr⟩, hs⟩
      exact ⟨hs.ck, hs.fk, Nat.le_trans Nat.and_le_left hr, hs.setK (by omega) (by omega) (by omega) _⟩
  case body =>
    rintro l r W ⟨hr0, hr1⟩ ⟨hrk, hs⟩
    have hT' := HT.out.same hs.fr
    obtain ⟨_, htz, hsum⟩ := tz_spec hr0 hr1
    have hle := Nat.and_le_left (n := r) (m := r - 1)
    obtain ⟨u, hu, hun, hdu⟩ := HF.out.anc_dep hv (show k - r ≤ dep n p v by omega)
    obtain ⟨x, hx, hxn, _⟩ := HF.out.anc_dep hv (show k - (r &&& (r - 1)) ≤ dep n p v by omega)
    have hup : upAt p (tz r) u = anc p (k - (r &&& (r - 1))) v := by
      have := anc_add HF.out.par hv (k - r) (2 ^ tz r)
      rw [show k - r + 2 ^ tz r = k - (r &&& (r - 1)) by omega, hu, if_neg (by omega)] at this
      rw [this]
      rfl
    have hxm : (x : Int) < 8192 := by clear hsum hup; omega
    have c1 := hT'.cu htz
    have c2 : W.cell? ⟨g (tz r), u, none⟩ = some (.int .i32 (x : Nat)) := by
      rw [(hT'.up (tz r) htz).cell u hun, ← hx, ← hup]
      rfl
    have ct := hs.ct
    have cv' : W.cell? ⟨w.heap.size + 1, 0, none⟩ = some (.int .i64 (u : Nat)) := by rw [hs.cv, hu]
    have fv := hs.fv
    have HS := hide (And.intro hs (And.intro hrk (And.intro hx hsum)))
    obtain ⟨i, hi⟩ : ∃ i, i = tz r := ⟨_, rfl⟩
    rw [← hi] at c1 c2 htz ⊢
    clear hs hrk hx hsum hup hu hi HF HT hT' hr1 hle hdu cd cv h1 h2 C ht
    have hm : Tryd.prog.follows .mixedOrders = true := by kernel_rfl
    have hi0 : (0 : Int) ≤ (i : Int) := by omega
    have hi1 : (i : Int) < 14 := by omega
    have hu0 : (0 : Int) ≤ (u : Int) := by omega
    have hu1 : (u : Int) < (n : Int) := by omega
    gi_wp2
    refine region_still_tail_round 10 hm (by kernel_rfl) ?_ (by kernel_rfl) ?_
    · rintro ⟨a, w, h⟩
      obtain ⟨h, _⟩ := h
      cases h
    simp only [List.take_succ_cons, List.take_zero, List.drop_succ_cons, List.drop_zero]
    repeat still_step
    refine wpStill_nil ?_
    go_wp2
    obtain ⟨hs, hrk, hx, hsum⟩ := HS.out
    exact ⟨(KeepsOthers.setCell _ _ _).trans (KeepsOthers.drew _), ⟨hr0, hrk⟩, hs.setV (by omega) (by omega) (by omega) _ _ hx.symm⟩
  case done =>
    rintro D W hD ⟨_, hs⟩ hK
    have cv' := hs.cv
    rw [Nat.sub_zero] at cv'
    have HS := hide hs.fr
    clear hs
    go_wp2
    refine ⟨by simp, .inl ⟨_, _, rfl, run_takeDeferred hK, ?_⟩⟩
    exact ⟨_, results_tmp2 rfl _ _ _, rfl, HS.out.grown (grownBy_putObj' _ D _) (fun k e hk => by cases e; simp at hD; omega)⟩

end Go.Proofs.YthpghcidocjanaaDoor

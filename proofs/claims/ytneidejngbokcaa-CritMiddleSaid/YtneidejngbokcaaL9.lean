/- Walks: the law CritMiddle. -/
import Derived.Test.YtneidejngbokcaaL1
import Derived.Test.YtneidejngbokcaaC9
import Derived.Test.YtneidejngbokcaaF12
import Derived.Test.YtneidejngbokcaaP1
namespace Go.Proofs.Ytneidejngbokcaa
open Go.RowKit

/-- Whole numbers in a slice. -/
def IlAt (w : World) (ao : Option Addr) (n : Nat) (xs : Nat → Int) : Prop := ∀ i, i < n → ∃ ad, ao = some ad ∧ w.cell? (ad.add i) = some (.int .i32 (xs i))
theorem IlAt.keep {w w' : World} {ao : Option Addr} {n : Nat} {xs : Nat → Int} (h : IlAt w ao n xs) (hf : Same' w w') : IlAt w' ao n xs := fun i hi => by
  obtain ⟨ad, h1, h2⟩ := h i hi
  exact ⟨ad, h1, cell_same h2 hf⟩

theorem Grw.other {w0 w w' : World} {ao bo : Option Addr} {k cap : Nat} {x : Nat → Nat} (h : Grw w0 bo k cap x w) (hf : Fr (fun j => blk ao = some j) w w') (h0 : Same' w0 w') (hn : ∀ g, blk bo = some g → blk ao ≠ some g) : Grw w0 bo k cap x w' :=
  ⟨own_of h.own fun g hg => by
    obtain ⟨cur, hc⟩ := own_cells h.own hg
    exact hf.block g (lt_of_block hc) (hn g hg), h0, h.new⟩

theorem Grw.alloc {w0 w : World} {bo : Option Addr} {k cap : Nat} {x : Nat → Nat} (h : Grw w0 bo k cap x w) (o : Obj) : Grw w0 bo k cap x (w.alloc o) :=
  h.other (ao := none) (((Fr.refl _ w).alloc o)) (h.fr.alloc o) (fun g _ h => by simp [blk] at h)

/-- The three rows. -/
structure Md (w0 : World) (n k : Nat) (y : Nat → Int) (ao bo co : Option Addr) (ac bc cc : Nat) (w : World) : Prop where
  a : Grw w0 ao k ac (fun i => flI (y i)) w
  b : Grw w0 bo k bc (fun i => flI (y (n - 1 - i))) w
  c : Grw w0 co k cc (fun _ => flI (y 0)) w
  ab : ∀ g, blk ao = some g → blk bo ≠ some g
  ac' : ∀ g, blk ao = some g → blk co ≠ some g
  bc' : ∀ g, blk bo = some g → blk co ≠ some g

theorem blk_lt {w0 w : World} {ao : Option Addr} {k cap : Nat} {x : Nat → Nat} (h : Grw w0 ao k cap x w) {g : Nat} (hg : blk ao = some g) : g < w.heap.size := by
  obtain ⟨cur, hc⟩ := own_cells h.own hg
  exact lt_of_block hc

set_option maxRecDepth 200000 in
set_option maxHeartbeats 4000000 in
theorem CritMiddle_at (w : World) (ao : Option Addr) (n c : Nat) (xs : Nat → Int) (hn : n ≤ maxLen) (h : IlAt w ao n xs) :
    Calls Try.prog 6 #[.slice ao n c] w fun e w' => e = .returned (.bool true) ∧ Same' w w' := by
  unfold maxLen at hn
  have W := hide works_at
  by_cases h1 : 1000 < n
  · have d1 : decide ((1000 : Int) < n) = true := by simp; omega
    clear h
    go_enter Try.func6, Try.ntmps6
    go_wp2_with (go_at_call 14; refine (W.out _).mono ?_; rintro e w1 ⟨rfl, hf⟩)
    go_ret
    exact ⟨rfl, hf⟩
  have d1 : decide ((1000 : Int) < n) = false := by simp; omega
  have HL := hide h
  obtain ⟨y, hy⟩ : ∃ y : Nat → Int, ∀ i, y i = (xs i).tmod 1048576 := ⟨fun i => (xs i).tmod 1048576, fun _ => rfl⟩
  have hyb : ∀ i, -1048576 ≤ y i ∧ y i ≤ 1048576 := fun i => by
    have a := Int.tmod_lt_of_pos (xs i) (show (0 : Int) < 1048576 by decide)
    have b := Int.lt_tmod_of_pos (xs i) (show (0 : Int) < 1048576 by decide)
    rw [hy i]; omega
  have HY := hide hy
  have HB := hide hyb
  have e0 : flI 0 = 0 := by decide +kernel
  have E0 := hide e0
  clear h hy hyb e0
  go_enter Try.func6, Try.ntmps6
  go_wp2_with fail
  go_loopg [3, 4, 5, 6, 7, 8] n (fun z sa sb sc lo hi i wr => ∃ (j : Nat) (L H : Int) (ra rb rc : Option Addr) (ca cb cc : Nat), j + z = n ∧ i = .int .i64 j ∧ sa = .slice ra j ca ∧ sb = .slice rb j cb ∧ sc = .slice rc j cc ∧
    lo = .float .f64 (flI L) ∧ hi = .float .f64 (flI H) ∧ (0 < j → ∀ i, i < j → L ≤ y i ∧ y i ≤ H) ∧ (-1048576 ≤ L ∧ L ≤ 1048576 ∧ -1048576 ≤ H ∧ H ≤ 1048576) ∧ Md w n j y ra rb rc ca cb cc wr)
  case atStart => exact ⟨0, 0, 0, none, none, none, 0, 0, 0, by omega, rfl, rfl, rfl, rfl, by rw [E0.out], by rw [E0.out], fun h => by omega, by omega, Grw.nil _ _ _ (Fr.refl _ _), Grw.nil _ _ _ (Fr.refl _ _), Grw.nil _ _ _ (Fr.refl _ _), fun g hg => by simp [blk] at hg, fun g hg => by simp [blk] at hg, fun g hg => by simp [blk] at hg⟩
  case round =>
    obtain ⟨j, L, H, ra, rb, rc, ca, cb, cc, hj, rfl, rfl, rfl, rfl, rfl, rfl, hLH, hb4, hM⟩ := hrel
    have HJ := hide hj
    have HLH := hide hLH
    have HM := hide hM
    clear hLH hM hj
    by_cases hlt : j < n
    · have hd : decide (j < n) = true := by simpa using hlt
      obtain ⟨r, hr⟩ : ∃ r, r = n - 1 - j := ⟨_, rfl⟩
      have hri : (n : Int) - 1 - j = (r : Int) := by omega
      have hrn0 : r < n := by omega
      have h0n0 : 0 < n := by omega
      have HR := hide hr
      have KI := hide (fun (W : World) (hf : Same' w W) => HL.out.keep hf)
      have hx1 : floatOfInt .f64 ((xs j).tmod 1048576) = flI (y j) := by rw [HY.out j]; rfl
      have hx2 : floatOfInt .f64 ((xs r).tmod 1048576) = flI (y r) := by rw [HY.out r]; rfl
      have hx3 : floatOfInt .f64 ((xs 0).tmod 1048576) = flI (y 0) := by rw [HY.out 0]; rfl
      have hjn : (j : Int) < n := by omega
      have hrn : (r : Int) < n := by omega
      have h0n : (0 : Int) < n := by omega
      obtain ⟨a1, rfl, q1⟩ := KI.out _ HM.out.a.fr j hlt
      clear hr
      go_wp2_with (at_builtin; refine wpList_app1 _ rfl _ _ 22 rfl 24 (.float .f64 0) 8 Try.underlying22 info24 rfl ra j ca ((List.range j).map fun i => Value.float .f64 (flI (y i))) rfl HM.out.a.own _ (.float .f64 (flI (y j))) rfl rfl (by unfold maxLen; omega) (by omega) ?_)
      intro g1 k1 w1 how1 hf1 hb1
      have A1 := hide (HM.out.a.app (x := fun i => flI (y i)) how1 hf1 hb1 rfl)
      have B1 := hide (HM.out.b.other hf1 A1.out.fr (fun g hg h => HM.out.ab g h hg))
      have D1 := hide (HM.out.c.other hf1 A1.out.fr (fun g hg h => HM.out.ac' g h hg))
      have N1 : Hid (∀ g, g1 = g → blk rb ≠ some g ∧ blk rc ≠ some g) := fun g hg => by
        subst hg
        rcases hb1 with h | h
        · exact ⟨HM.out.ab _ h, HM.out.ac' _ h⟩
        · exact ⟨fun e => by have := blk_lt HM.out.b e; omega, fun e => by have := blk_lt HM.out.c e; omega⟩
      have N2 := hide HM.out.bc'
      clear q1 how1 hf1 hb1 HM
      obtain ⟨a2, h2, q2⟩ := KI.out _ A1.out.fr r hrn0
      simp only [Option.some.injEq] at h2
      subst h2
      go_wp2_with (at_builtin; refine wpList_app1 _ rfl _ _ 22 rfl 24 (.float .f64 0) 8 Try.underlying22 info24 rfl rb j cb ((List.range j).map fun i => Value.float .f64 (flI (y (n - 1 - i)))) rfl B1.out.own _ (.float .f64 (flI (y r))) rfl rfl (by unfold maxLen; omega) (by omega) ?_)
      intro g2 k2 w2 how2 hf2 hb2
      have B2 := hide (B1.out.app (x := fun i => flI (y (n - 1 - i))) how2 hf2 hb2 (by rw [HR.out]))
      have A2 := hide (A1.out.other hf2 B2.out.fr (fun g hg h => by simp [blk] at hg; exact (N1.out g hg).1 h))
      have D2 := hide (D1.out.other hf2 B2.out.fr (fun g hg h => N2.out g h hg))
      have N3 : Hid (g1 ≠ g2 ∧ blk rc ≠ some g2) := by
        rcases hb2 with h | h
        · exact ⟨fun e => (N1.out g2 e).1 h, N2.out g2 h⟩
        · refine ⟨fun e => ?_, fun e => by have := blk_lt D1.out e; omega⟩
          have := blk_lt A1.out (show blk (some ⟨g1, 0, none⟩) = some g1 from rfl)
          omega
      clear q2 how2 hf2 hb2 A1 B1 D1
      obtain ⟨a3, h3, q3⟩ := KI.out _ A2.out.fr 0 h0n0
      simp only [Option.some.injEq] at h3
      subst h3
      rw [show a1.add 0 = a1 by cases a1; simp [Addr.add]] at q3
      go_wp2_with (at_builtin; refine wpList_app1 _ rfl _ _ 22 rfl 24 (.float .f64 0) 8 Try.underlying22 info24 rfl rc j cc ((List.range j).map fun i => Value.float .f64 (flI (y 0))) rfl D2.out.own _ (.float .f64 (flI (y 0))) rfl rfl (by unfold maxLen; omega) (by omega) ?_)
      intro g3 k3 w3 how3 hf3 hb3
      have D3 := hide (D2.out.app (x := fun _ => flI (y 0)) how3 hf3 hb3 rfl)
      have A3 := hide (A2.out.other hf3 D3.out.fr (fun g hg h => by simp [blk] at hg; exact (N1.out g hg).2 h))
      have B3 := hide (B2.out.other hf3 D3.out.fr (fun g hg h => by simp [blk] at hg; exact N3.out.2 (by rw [hg]; exact h)))
      have N4 : Hid (g1 ≠ g3 ∧ g2 ≠ g3) := by
        rcases hb3 with h | h
        · exact ⟨fun e => (N1.out g3 e).2 h, fun e => N3.out.2 (by rw [e]; exact h)⟩
        · have l1 := blk_lt A2.out (show blk (some ⟨g1, 0, none⟩) = some g1 from rfl)
          have l2 := blk_lt B2.out (show blk (some ⟨g2, 0, none⟩) = some g2 from rfl)
          exact ⟨by omega, by omega⟩
      have HM3 := hide (Md.mk (n := n) (y := y) A3.out B3.out D3.out
        (fun g hg h => by simp [blk] at hg h; exact N3.out.1 (by omega)) (fun g hg h => by simp [blk] at hg h; exact N4.out.1 (by omega)) (fun g hg h => by simp [blk] at hg h; exact N4.out.2 (by omega)))
      clear q3 how3 hf3 hb3 A2 B2 D2 A3 B3 D3 N1 N2 N3 N4 hx1 hx2 hx3 hri hjn hrn h0n KI
      obtain ⟨yj, hyj⟩ : ∃ yj, yj = y j := ⟨_, rfl⟩
      rw [← hyj]
      have HYJ := hide hyj
      have hyb := HB.out j
      rw [← hyj] at hyb
      clear hyj
      have nL := flI_V (n := L) (by omega) (by omega)
      have nH := flI_V (n := H) (by omega) (by omega)
      have nY := flI_V (n := yj) (by omega) (by omega)
      have oL := ordr_fin nY.2 nL.2
      have oH := ordr_fin nY.2 nH.2
      have iL := (R_flI_inj (a := yj) (b := L) (by omega) (by omega) (by omega) (by omega)).2
      have iH := (R_flI_inj (a := H) (b := yj) (by omega) (by omega) (by omega) (by omega)).2
      have bL : (FloatKind.f64.format.order (flI yj) (flI L) == some Ordering.lt) = decide (yj < L) := by
        by_cases h : yj < L
        · rw [show FloatKind.f64.format.order (flI yj) (flI L) = some .lt from oL.trans (by rw [cmp_lt (iL.2 h)]), decide_eq_true h]; rfl
        · rw [decide_eq_false h]
          refine beq_eq_false_iff_ne.2 fun e => ?_
          obtain ⟨_, _, hc⟩ := ordr_some e
          by_cases h2 : R (flI yj) = R (flI L)
          · rw [cmp_eq h2] at hc; cases hc
          · rw [cmp_gt (by have := (fun g => h (iL.1 g)); omega)] at hc; cases hc
      have bH : (FloatKind.f64.format.order (flI yj) (flI H) == some Ordering.gt) = decide (H < yj) := by
        by_cases h : H < yj
        · rw [show FloatKind.f64.format.order (flI yj) (flI H) = some .gt from oH.trans (by rw [cmp_gt (iH.2 h)]), decide_eq_true h]; rfl
        · rw [decide_eq_false h]
          refine beq_eq_false_iff_ne.2 fun e => ?_
          obtain ⟨_, _, hc⟩ := ordr_some e
          have := cmp_gt_iff.1 hc
          exact h (iH.1 this)
      clear nL nH nY oL oH iL iH
      by_cases hj0 : j = 0
      · have z0 : ((j : Int) == 0) = true := by simp [hj0]
        have HJ0 := hide hj0
        clear hj0 bL bH
        go_wp2_with fail
        go_roundg (gk - 1)
        case measure => have := HJ.out; omega
        case rel =>
          refine ⟨j + 1, yj, yj, _, _, _, _, _, _, by have := HJ.out; omega, by go_num, rfl, rfl, rfl, rfl, rfl, fun _ i hi => ?_, by omega, HM3.out⟩
          have e : i = j := by have := HJ0.out; omega
          subst e
          rw [HYJ.out]; exact ⟨Int.le_refl _, Int.le_refl _⟩
      · have z0 : ((j : Int) == 0) = false := by simp [hj0]
        have HJ0 := hide hj0
        have hall := HLH.out (by omega)
        have HALL := hide hall
        clear hj0 hall
        by_cases l1 : yj < L
        · rw [decide_eq_true l1] at bL
          have hLH : L ≤ H := by have := HALL.out 0 (by have := HJ0.out; omega); omega
          have l2 : ¬ H < yj := by omega
          rw [decide_eq_false l2] at bH
          go_wp2_with fail
          go_roundg (gk - 1)
          case measure => have := HJ.out; omega
          case rel =>
            refine ⟨j + 1, yj, H, _, _, _, _, _, _, by have := HJ.out; omega, by go_num, rfl, rfl, rfl, rfl, rfl, fun _ i hi => ?_, by omega, HM3.out⟩
            by_cases e : i = j
            · subst e; rw [← HYJ.out]; omega
            · have := HALL.out i (by omega); omega
        · rw [decide_eq_false l1] at bL
          by_cases l2 : H < yj
          · rw [decide_eq_true l2] at bH
            go_wp2_with fail
            go_roundg (gk - 1)
            case measure => have := HJ.out; omega
            case rel =>
              refine ⟨j + 1, L, yj, _, _, _, _, _, _, by have := HJ.out; omega, by go_num, rfl, rfl, rfl, rfl, rfl, fun _ i hi => ?_, by omega, HM3.out⟩
              by_cases e : i = j
              · subst e; rw [← HYJ.out]; omega
              · have := HALL.out i (by omega); omega
          · rw [decide_eq_false l2] at bH
            go_wp2_with fail
            go_roundg (gk - 1)
            case measure => have := HJ.out; omega
            case rel =>
              refine ⟨j + 1, L, H, _, _, _, _, _, _, by have := HJ.out; omega, by go_num, rfl, rfl, rfl, rfl, rfl, fun _ i hi => ?_, by omega, HM3.out⟩
              by_cases e : i = j
              · subst e; rw [← HYJ.out]; omega
              · have := HALL.out i (by omega); omega
    · have hd : decide (j < n) = false := by simpa using hlt
      obtain rfl : j = n := by have := HJ.out; omega
      by_cases hn0 : j = 0
      · have z0 : ((j : Int) == 0) = true := by simp [hn0]
        have hv : ∀ f : Nat → Nat, valB j f = false := fun f => valB_out (.inl (by omega))
        have C1 := hide (Mean19_err ca HM.out.a.fl (hv _))
        have C2 := hide (fun W (hf : Same' wr W) => Mean19_err cb (HM.out.b.fl.keep hf) (hv _))
        have C3 := hide (fun W (hf : Same' wr W) => Mean19_err cc (HM.out.c.fl.keep hf) (hv _))
        clear hv hn0
        go_wp2_with fail
        refine C1.out.mono ?_
        clear C1
        rintro e w1 ⟨rfl, hf1⟩
        go_wp2_with fail
        refine (C2.out _ hf1).mono ?_
        clear C2
        rintro e w2 ⟨rfl, hf2⟩
        replace hf2 := hf1.trans hf2
        go_wp2_with fail
        refine (C3.out _ hf2).mono ?_
        clear C3
        rintro e w3 ⟨rfl, hf3⟩
        replace hf3 := hf2.trans hf3
        go_wp2_with (go_at_call 14; refine (W.out _).mono ?_; rintro e w4 ⟨rfl, hf4⟩)
        go_ret
        exact ⟨rfl, (HM.out.a.fr.trans hf3).trans hf4⟩
      · have z0 : ((j : Int) == 0) = false := by simp [hn0]
        have hn1 : 1 ≤ j := by omega
        have hn2 : j ≤ 1000 := by omega
        have hall := HLH.out (by omega)
        have hbd := HB.out
        have va : valB j (fun i => flI (y i)) = true := valB_ok hn1 (by omega) fun i hi => num_flI (hbd i).1 (hbd i).2
        have vb : valB j (fun i => flI (y (j - 1 - i))) = true := valB_ok hn1 (by omega) fun i hi => num_flI (hbd _).1 (hbd _).2
        have vc : valB j (fun _ => flI (y 0)) = true := valB_ok hn1 (by omega) fun i hi => num_flI (hbd _).1 (hbd _).2
        have ea : (fun i => cls (flI (y i))) = fun i => fI (y i) := funext fun i => cls_flI (y i)
        have eb : (fun i => cls (flI (y (j - 1 - i)))) = fun i => fI (y (j - 1 - i)) := funext fun i => cls_flI _
        have ec : (fun (_ : Nat) => cls (flI (y 0))) = fun _ => fI (y 0) := funext fun i => cls_flI _
        obtain ⟨z, hz, hzq, fz, hzk⟩ := mean_int (y := y) (n := j) (fun i hi => hbd i) hn2 hn1
        obtain ⟨z', hz', hzq', _, _⟩ := mean_int (y := fun i => y (j - 1 - i)) (n := j) (fun i hi => hbd _) hn2 hn1
        have hzz : mnC j (fun i => fI (y (j - 1 - i))) = some z := by
          rw [hzq', isum_rev y j j (Nat.le_refl _), ← hz, hzq, Nat.sub_self]
          show fop .quo (fI (isum y j - 0)) _ = _
          rw [Int.sub_zero]
        obtain ⟨v, hv, nv, pv⟩ := var_nn va
        obtain ⟨u, hu, fu, ru⟩ := var_same (c := y 0) (n := j) (hbd 0) hn2 hn1
        have hs := isum_bd (y := y) (L := L) (H := H) (n := j) (fun i hi => hall i hi) j (Nat.le_refl _)
        have kL := (hzk L (by omega) (by omega)).1 hs.1
        have kH := (hzk H (by omega) (by omega)).2 hs.2
        have nL := flI_V (n := L) (by omega) (by omega)
        have nH := flI_V (n := H) (by omega) (by omega)
        have oz := ord_self (fin_nn fz)
        have oL : FloatKind.f64.format.order z (flI L) = some .gt ∨ FloatKind.f64.format.order z (flI L) = some .eq := by
          have := ordr_fin fz nL.2
          by_cases e : R z = R (flI L)
          · exact .inr (this.trans (by rw [cmp_eq e]))
          · exact .inl (this.trans (by rw [cmp_gt (by omega)]))
        have oH : FloatKind.f64.format.order z (flI H) = some .lt ∨ FloatKind.f64.format.order z (flI H) = some .eq := by
          have := ordr_fin fz nH.2
          by_cases e : R z = R (flI H)
          · exact .inr (this.trans (by rw [cmp_eq e]))
          · exact .inl (this.trans (by rw [cmp_lt (by omega)]))
        have ov : FloatKind.f64.format.order v 0 = some .gt ∨ FloatKind.f64.format.order v 0 = some .eq := by
          have := ordr_nn nv isN_zero
          by_cases e : R v = R 0
          · exact .inr (this.trans (by rw [cmp_eq e]))
          · rw [R_zero] at e; exact .inl (this.trans (by rw [cmp_gt (by rw [R_zero]; omega)]))
        have ou : FloatKind.f64.format.order u 0 = some .eq := (ordr_nn (fin_nn fu) isN_zero).trans (by rw [cmp_eq (by rw [ru, R_zero])])
        have C1 := hide ((Mean19_ok ca HM.out.a.fl va).mono (R' := fun e w' => e = .returned (.tuple #[.float .f64 z, .float .f64 v, .int .i64 0]) ∧ Same' wr w') (fun e w' ⟨x1, x2, g1, g2, g3, g4⟩ => by
          rw [ea, hz] at g2
          rw [hv] at g3
          obtain rfl := cls_word g2
          obtain rfl := cls_word g3
          exact ⟨g1, g4⟩))
        have C2 := hide (fun W (hf : Same' wr W) => (Mean19_ok cb (HM.out.b.fl.keep hf) vb).mono (R' := fun e w' => ∃ x2, e = .returned (.tuple #[.float .f64 z, .float .f64 x2, .int .i64 0]) ∧ Same' wr w') (fun e w' ⟨x1, x2, g1, g2, g3, g4⟩ => by
          rw [eb, hzz] at g2
          obtain rfl := cls_word g2
          exact ⟨x2, g1, hf.trans g4⟩))
        have C3 := hide (fun W (hf : Same' wr W) => (Mean19_ok cc (HM.out.c.fl.keep hf) vc).mono (R' := fun e w' => ∃ x1, e = .returned (.tuple #[.float .f64 x1, .float .f64 u, .int .i64 0]) ∧ Same' wr w') (fun e w' ⟨x1, x2, g1, g2, g3, g4⟩ => by
          rw [ec, hu] at g3
          obtain rfl := cls_word g3
          exact ⟨x1, g1, hf.trans g4⟩))
        clear hall hbd va vb vc ea eb ec hz hzq fz hzk hz' hzq' hzz hv nv pv hu fu ru hs kL kH nL nH hn0
        go_wp2_with fail
        refine C1.out.mono ?_
        clear C1
        rintro e w1 ⟨rfl, hf1⟩
        go_wp2_with fail
        refine (C2.out _ hf1).mono ?_
        clear C2
        rintro e w2 ⟨x2, rfl, hf2⟩
        go_wp2_with fail
        refine (C3.out _ hf2).mono ?_
        clear C3
        rintro e w3 ⟨x1, rfl, hf3⟩
        rcases oL with oL | oL <;> rcases oH with oH | oH <;> rcases ov with ov | ov
        all_goals
          go_wp2_with (go_at_call 14; refine (W.out _).mono ?_; rintro e w4 ⟨rfl, hf4⟩)
          go_ret
          exact ⟨rfl, (HM.out.a.fr.trans hf3).trans hf4⟩

end Go.Proofs.Ytneidejngbokcaa

/- Walks: the document's Cross. -/
import Derived.Test.YtneidejngbokcaaL4
namespace Go.Proofs.Ytneidejngbokcaa
open Go.RowKit

def sgB (l g : Bool) : Int := if l then -1 else if g then 1 else 0

theorem sgC_sgB (x y : Nat) : sgC (cls x) (cls y) = sgB (FloatKind.f64.format.order x y == some .lt) (FloatKind.f64.format.order x y == some .gt) := by
  unfold sgC sgB
  rw [ordC_cls]
  show (if ordr x y = some .lt then (-1 : Int) else if ordr x y = some .gt then 1 else 0) = if (ordr x y == some .lt) = true then -1 else if (ordr x y == some .gt) = true then 1 else 0
  rcases ordr x y with _ | _ | _ | _ <;> rfl

theorem CrOut.uniq {n : Nat} {F : Nat → Cl} {m : Nat} {G : Nat → Cl} {s r r' : Nat} {bo bo' : Bool} (h : CrOut n F m G s r bo) (h' : CrOut n F m G s r' bo') : r = r' ∧ bo = bo' := by
  rcases h with ⟨hb, k, hk, hr, hk2, hall2⟩ | ⟨hb, hr, hall2⟩
  · obtain ⟨e1, e2⟩ := h'.at hk hall2 hk2
    exact ⟨hr.trans e1.symm, hb.trans e2.symm⟩
  · obtain ⟨e1, e2⟩ := h'.none (fun i hi => hall2 i (by omega))
    exact ⟨hr.trans e1.symm, hb.trans e2.symm⟩

theorem CrOut.nn {n : Nat} {F : Nat → Cl} {m : Nat} {G : Nat → Cl} {s r : Nat} {bo : Bool} (hs1 : 1 ≤ s) (hs2 : s ≤ 1000) (h : CrOut n F m G s r bo) : isN r = false := by
  rcases h with ⟨hb, k, hk, hr, hk2, hall2⟩ | ⟨hb, hr, hall2⟩
  · rw [hr]; exact (grid_rnd hs1 hs2 (by omega)).2.1
  · rw [hr]; exact isN_zero

set_option maxRecDepth 100000 in
set_option maxHeartbeats 1000000 in
theorem Cross16_err {w : World} {ao zo : Option Addr} {n m : Nat} (c d : Nat) {f g : Nat → Nat} (h : FlAt w ao n f) (h2 : FlAt w zo m g) {s : Int} (hv : (valB n f && valB m g) = false ∨ s < 1 ∨ 1000 < s) :
    Calls Try.prog 16 #[.slice ao n c, .slice zo m d, .int .i64 s] w fun e w' => e = .returned (.tuple #[.float .f64 0, .bool false, .int .i64 2]) ∧ Same' w w' := by
  have hG : ∃ er : Int, Hid (∀ w0, Calls Try.prog 22 #[.int .i64 s] w0 fun e w' => ∃ ao k cap, e = .returned (.tuple #[.slice ao k cap, .int .i64 er]) ∧ Same' w0 w') ∧ ((er = 2) ∨ (er = 0 ∧ (valB n f && valB m g) = false)) := by
    by_cases hr : s < 1 ∨ 1000 < s
    · exact ⟨2, fun w0 => (Grid22_err w0 hr).mono fun e w' h => ⟨none, 0, 0, h.1, h.2 ▸ Fr.refl _ _⟩, .inl rfl⟩
    · obtain ⟨k, rfl⟩ : ∃ k : Nat, s = k := ⟨s.toNat, by omega⟩
      exact ⟨0, fun w0 => (Grid22_ok w0 (s := k) (by omega) (by omega)).mono fun e w' ⟨ao, cap, h1, h2⟩ => ⟨ao, _, cap, h1, h2.fr⟩, .inr ⟨rfl, by rcases hv with h | h; exact h; exact absurd h hr⟩⟩
  obtain ⟨er, C1, her⟩ := hG
  have C2 := hide (fun W (hf : Same' w W) => values_at c (h.keep hf))
  have C3 := hide (fun W (hf : Same' w W) => values_at d (h2.keep hf))
  have hcase : (valB n f = false) ∨ (valB n f = true ∧ valB m g = false) ∨ (valB n f = true ∧ valB m g = true ∧ er = 2) := by
    cases hb : valB n f
    · exact .inl rfl
    · cases hb2 : valB m g
      · exact .inr (.inl ⟨rfl, rfl⟩)
      · refine .inr (.inr ⟨rfl, rfl, ?_⟩)
        rcases her with h | ⟨_, h⟩
        · exact h
        · rw [hb, hb2] at h; cases h
  clear h h2 hv her
  rcases hcase with x1 | ⟨x1, x2⟩ | ⟨x1, x2, rfl⟩
  · rw [x1] at C2
    clear x1
    go_enter Try.func16, Try.ntmps16
    go_wp2_with fail
    refine (C1.out _).mono ?_
    clear C1
    rintro e w1 ⟨go, k, cap, rfl, hf1⟩
    go_wp2_with (go_at_call 31; refine (C2.out _ hf1).mono ?_; clear C2; rintro e w2 ⟨rfl, rfl⟩)
    go_ret3
    exact ⟨rfl, hf1⟩
  · rw [x1] at C2
    rw [x2] at C3
    clear x1 x2
    go_enter Try.func16, Try.ntmps16
    go_wp2_with fail
    refine (C1.out _).mono ?_
    clear C1
    rintro e w1 ⟨go, k, cap, rfl, hf1⟩
    go_wp2_with fail
    refine (C2.out _ hf1).mono ?_
    clear C2
    rintro e w2 ⟨rfl, rfl⟩
    go_wp2_with fail
    refine (C3.out _ hf1).mono ?_
    clear C3
    rintro e w2 ⟨rfl, rfl⟩
    go_wp2_with fail
    go_ret3
    exact ⟨rfl, hf1⟩
  · rw [x1] at C2
    rw [x2] at C3
    clear x1 x2
    go_enter Try.func16, Try.ntmps16
    go_wp2_with fail
    refine (C1.out _).mono ?_
    clear C1
    rintro e w1 ⟨go, k, cap, rfl, hf1⟩
    go_wp2_with fail
    refine (C2.out _ hf1).mono ?_
    clear C2
    rintro e w2 ⟨rfl, rfl⟩
    go_wp2_with fail
    refine (C3.out _ hf1).mono ?_
    clear C3
    rintro e w2 ⟨rfl, rfl⟩
    go_wp2_with fail
    go_ret3
    exact ⟨rfl, hf1⟩

set_option maxRecDepth 100000 in
set_option maxHeartbeats 4000000 in
theorem Cross16_ok {w : World} {ao zo : Option Addr} {n m : Nat} (c d : Nat) {f g : Nat → Nat} (h : FlAt w ao n f) (h2 : FlAt w zo m g) {s : Nat} (hv : valB n f = true) (hu : valB m g = true) (hs1 : 1 ≤ s) (hs2 : s ≤ 1000) :
    Calls Try.prog 16 #[.slice ao n c, .slice zo m d, .int .i64 s] w fun e w' => ∃ r bo, e = .returned (.tuple #[.float .f64 r, .bool bo, .int .i64 0]) ∧ CrOut n (fun i => cls (f i)) m (fun i => cls (g i)) s r bo ∧ Same' w w' := by
  have C1 := hide (Grid22_ok w hs1 hs2)
  have C2 := fun W (hf : Same' w W) => values_at (w := W) c (h.keep hf)
  have C3 := fun W (hf : Same' w W) => values_at (w := W) d (h2.keep hf)
  rw [hv] at C2
  rw [hu] at C3
  have C2' := hide C2
  have C3' := hide C3
  have HL := hide h
  have HL2 := hide h2
  have HV := hide hv
  have HU := hide hu
  clear h h2 hv hu C2 C3
  go_enter Try.func16, Try.ntmps16
  go_wp2_with fail
  refine C1.out.mono ?_
  clear C1
  rintro e w1 ⟨go, c1, rfl, hG1⟩
  have HG := hide hG1.fl
  have hf1 := hG1.fr
  clear hG1
  go_wp2_with fail
  refine (C2'.out _ hf1).mono ?_
  clear C2'
  rintro e w2 ⟨rfl, rfl⟩
  go_wp2_with fail
  refine (C3'.out _ hf1).mono ?_
  clear C3'
  rintro e w2 ⟨rfl, rfl⟩
  have HF := hide hf1
  clear hf1
  obtain ⟨fst, hfst⟩ : ∃ fst, fst = sg0 n (fun i => cls (f i)) m (fun i => cls (g i)) := ⟨_, rfl⟩
  have hfst0 : sgK n (fun i => cls (f i)) m (fun i => cls (g i)) s 0 = fst := by rw [hfst]; exact sgK_zero _ _ hs1 hs2
  have HFST := hide hfst
  have HF0 := hide hfst0
  clear hfst hfst0
  go_wp2_with fail
  go_loopg [11] s (fun z i wr => ∃ j : Nat, j + z = s + 1 ∧ 1 ≤ j ∧ i = .int .i64 j ∧ (∀ i, i < j → sgK n (fun i => cls (f i)) m (fun i => cls (g i)) s i = fst) ∧ Same' w1 wr)
  case atStart => exact ⟨1, by omega, by omega, rfl, fun i hi => (by (have e : i = 0 := (by omega)); subst e; exact HF0.out), Fr.refl _ _⟩
  case round =>
    obtain ⟨j, hj, hj1, rfl, hall, hf⟩ := hrel
    have HJ := hide hj
    have HA := hide hall
    clear hall hj
    by_cases hlt : j < s + 1
    · obtain ⟨i, hij⟩ : ∃ i, j = i + 1 := ⟨j - 1, by omega⟩
      have hd : decide (j < s + 1) = true := by simpa using hlt
      have hd1 : decide (j ≤ s) = true := by simp; omega
      have hd2 : decide ((j : Int) < s + 1) = true := by simp; omega
      have hi : (j : Int) < s + 1 := by omega
      have hi2 : (i : Int) < s + 1 := by omega
      have hji : (j : Int) - 1 = (i : Int) := by omega
      have his : i + 1 ≤ s := by omega
      have HIJ := hide hij
      obtain ⟨gd, rfl, e1⟩ := (HG.out.keep hf) i (by omega)
      obtain ⟨gd2, hgd, e2⟩ := (HG.out.keep hf) j hlt
      simp only [Option.some.injEq] at hgd
      subst hgd
      have pi := grid_prob hs1 hs2 (show i ≤ s by omega)
      have pj := grid_prob hs1 hs2 (show j ≤ s by omega)
      have D1 := hide (average32_at c (HL.out.keep (HF.out.trans hf)) HV.out pi)
      have D2 := hide (fun W (hh : Same' wr W) => average32_at d (HL2.out.keep ((HF.out.trans hf).trans hh)) HU.out pi)
      have D3 := hide (fun W (hh : Same' wr W) => average32_at c (HL.out.keep ((HF.out.trans hf).trans hh)) HV.out pj)
      have D4 := hide (fun W (hh : Same' wr W) => average32_at d (HL2.out.keep ((HF.out.trans hf).trans hh)) HU.out pj)
      clear pi pj hij
      go_wp2_with fail
      refine D1.out.mono ?_
      clear D1
      rintro e w4 ⟨x, rfl, hx, hf4⟩
      have HX := hide hx
      clear hx
      replace e1 := cell_same e1 hf4
      replace e2 := cell_same e2 hf4
      go_wp2_with fail
      refine (D2.out _ hf4).mono ?_
      clear D2
      rintro e w5 ⟨y, rfl, hy, hf5⟩
      have HY := hide hy
      replace e1 := cell_same e1 hf5
      replace e2 := cell_same e2 hf5
      replace hf5 := hf4.trans hf5
      clear hy hf4
      go_wp2_with fail
      refine (D3.out _ hf5).mono ?_
      clear D3
      rintro e w6 ⟨v, rfl, hv, hf6⟩
      have HVV := hide hv
      replace e1 := cell_same e1 hf6
      replace e2 := cell_same e2 hf6
      replace hf6 := hf5.trans hf6
      clear hv hf5
      go_wp2_with fail
      refine (D4.out _ hf6).mono ?_
      clear D4
      rintro e w7 ⟨u, rfl, hu, hf7⟩
      have HUU := hide hu
      replace e1 := cell_same e1 hf7
      replace e2 := cell_same e2 hf7
      replace hf7 := hf6.trans hf7
      clear hu hf6
      have hs1' : fst = sgB (FloatKind.f64.format.order x y == some .lt) (FloatKind.f64.format.order x y == some .gt) := by
        rw [← sgC_sgB, HX.out, HY.out]; exact (HA.out i (by have := HIJ.out; omega)).symm
      have hs2' : sgK n (fun i => cls (f i)) m (fun i => cls (g i)) s j = sgB (FloatKind.f64.format.order v u == some .lt) (FloatKind.f64.format.order v u == some .gt) := by
        rw [← sgC_sgB, HVV.out, HUU.out]; rfl
      have hx1 : ¬ ((FloatKind.f64.format.order x y == some .lt) = true ∧ (FloatKind.f64.format.order x y == some .gt) = true) := by
        rcases FloatKind.f64.format.order x y with _ | _ | _ | _ <;> simp
      have hx2 : ¬ ((FloatKind.f64.format.order v u == some .lt) = true ∧ (FloatKind.f64.format.order v u == some .gt) = true) := by
        rcases FloatKind.f64.format.order v u with _ | _ | _ | _ <;> simp
      obtain ⟨L1, l1⟩ : ∃ b, (FloatKind.f64.format.order x y == some Ordering.lt) = b := ⟨_, rfl⟩
      obtain ⟨G1, g1⟩ : ∃ b, (FloatKind.f64.format.order x y == some Ordering.gt) = b := ⟨_, rfl⟩
      obtain ⟨L2, l2⟩ : ∃ b, (FloatKind.f64.format.order v u == some Ordering.lt) = b := ⟨_, rfl⟩
      obtain ⟨G2, g2⟩ : ∃ b, (FloatKind.f64.format.order v u == some Ordering.gt) = b := ⟨_, rfl⟩
      rw [l1, g1] at hs1' hx1
      rw [l2, g2] at hs2' hx2
      have HS1 := hide hs1'
      have HS2 := hide hs2'
      have HX1 := hide hx1
      have HX2 := hide hx2
      clear hs1' hs2' hx1 hx2
      cases L1 <;> cases G1 <;> cases L2 <;> cases G2
      all_goals first
        | (exact absurd ⟨rfl, rfl⟩ HX1.out)
        | (exact absurd ⟨rfl, rfl⟩ HX2.out)
        | skip
      all_goals
        go_wp2_with fail
        first
          | (go_roundg (gk - 1)
             case measure => have := HJ.out; omega
             case rel =>
               refine ⟨j + 1, by have := HJ.out; omega, by omega, by go_num, fun l hl => ?_, hf.trans hf7⟩
               by_cases e : l = j
               · subst e; rw [HS2.out, HS1.out]
               · exact HA.out l (by omega))
          | (go_ret3
             exact ⟨gridW s j, true, rfl, .inl ⟨rfl, j, by omega, rfl, by rw [← HFST.out, HS2.out, HS1.out]; decide, fun l hl => by rw [← HFST.out]; exact HA.out l (by omega)⟩, (HF.out.trans hf).trans hf7⟩)
    · have hd : decide (j < s + 1) = false := by simpa using hlt
      have hd1 : decide (j ≤ s) = false := by simp; omega
      have hd2 : decide ((j : Int) < s + 1) = false := by simp; omega
      go_wp2_with fail
      go_ret3
      exact ⟨0, false, rfl, .inr ⟨rfl, rfl, fun l hl => by rw [← HFST.out]; exact HA.out l (by omega)⟩, HF.out.trans hf⟩

end Go.Proofs.Ytneidejngbokcaa

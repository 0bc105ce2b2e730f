/- Walks: the document's Peak; the law CritPeaks. -/
import Derived.Test.YtneidejngbokcaaL1
import Derived.Test.YtneidejngbokcaaC9
import Derived.Test.YtneidejngbokcaaP1
import Derived.Deep.RegionHeld3
namespace Go.Proofs.Ytneidejngbokcaa
open Go.RowKit

/-- What the document's Peak holds: the place of the greatest of the first k numbers of the grid. -/
def rpK (n : Nat) (F : Nat → Cl) (s : Nat) : Nat → Nat
  | 0 => 0
  | k + 1 => if ordC (avC n F (gridW s k)) (avC n F (gridW s (rpK n F s k))) = some .gt then k else rpK n F s k

theorem rpK_le (n : Nat) (F : Nat → Cl) (s : Nat) : ∀ k, rpK n F s k ≤ k
  | 0 => Nat.le_refl _
  | k + 1 => by
    have := rpK_le n F s k
    unfold rpK
    split <;> omega

/-- The two go together. -/
theorem pk_rp {n s : Nat} (F : Nat → Cl) (hs1 : 1 ≤ s) (hs2 : s ≤ 1000) : ∀ k, R (pkS n F s k).1 = R (gridW s (rpK n F s k)) ∧ (pkS n F s k).2 = avC n F (gridW s (rpK n F s k)) ∧ isN (pkS n F s k).1 = false
  | 0 => ⟨by show R 0 = R (gridW s 0); rw [grid_zero hs1 hs2, R_zero], avC_congr (by show R 0 = R (gridW s 0); rw [grid_zero hs1 hs2, R_zero]), isN_zero⟩
  | k + 1 => by
    obtain ⟨h1, h2, h3⟩ := pk_rp F hs1 hs2 k
    show R (if ordC (avC n F (gridW s k)) (pkS n F s k).2 = some .gt then (gridW s k, avC n F (gridW s k)) else pkS n F s k).1 = R (gridW s (if ordC (avC n F (gridW s k)) (avC n F (gridW s (rpK n F s k))) = some .gt then k else rpK n F s k)) ∧
      (if ordC (avC n F (gridW s k)) (pkS n F s k).2 = some .gt then (gridW s k, avC n F (gridW s k)) else pkS n F s k).2 = avC n F (gridW s (if ordC (avC n F (gridW s k)) (avC n F (gridW s (rpK n F s k))) = some .gt then k else rpK n F s k)) ∧
      isN (if ordC (avC n F (gridW s k)) (pkS n F s k).2 = some .gt then (gridW s k, avC n F (gridW s k)) else pkS n F s k).1 = false
    rw [← h2]
    by_cases hg : ordC (avC n F (gridW s k)) (pkS n F s k).2 = some .gt
    · rw [if_pos hg, if_pos hg]
      refine ⟨rfl, rfl, ?_⟩
      -- a number of the grid, whatever k
      show isN (gridW s k) = false
      unfold gridW
      obtain ⟨v, hf⟩ := flI_V (n := (s : Int)) (by omega) (by omega)
      cases hq : floatBits .quo .f64 (flI k) (flI s) with
      | none => exact isN_zero
      | some z => exact floatBits_ok hq
    · rw [if_neg hg, if_neg hg]
      exact ⟨h1, h2, h3⟩

set_option maxHeartbeats 1000000 in
theorem Peak26_err {w : World} {ao : Option Addr} {n : Nat} (c : Nat) {f : Nat → Nat} (h : FlAt w ao n f) {s : Int} (hv : valB n f = false ∨ s < 1 ∨ 1000 < s) :
    Calls Try.prog 26 #[.slice ao n c, .int .i64 s] w fun e w' => e = .returned (.tuple #[.float .f64 0, .int .i64 2]) ∧ Same' w w' := by
  by_cases hr : s < 1 ∨ 1000 < s
  · have C1 := hide (Grid22_err w hr)
    have C2 := hide (values_at c h)
    clear h hv hr
    cases hb : valB n f with
    | false =>
      rw [hb] at C2
      clear hb
      go_enter Try.func26, Try.ntmps26
      go_wp2_with (first
        | (go_at_call 22; refine C1.out.mono ?_; clear C1; rintro e w1 ⟨rfl, rfl⟩)
        | (go_at_call 31; refine C2.out.mono ?_; clear C2; rintro e w2 ⟨rfl, rfl⟩))
      go_ret2
      exact ⟨rfl, Fr.refl _ _⟩
    | true =>
      rw [hb] at C2
      clear hb
      go_enter Try.func26, Try.ntmps26
      go_wp2_with (first
        | (go_at_call 22; refine C1.out.mono ?_; clear C1; rintro e w1 ⟨rfl, rfl⟩)
        | (go_at_call 31; refine C2.out.mono ?_; clear C2; rintro e w2 ⟨rfl, rfl⟩))
      go_ret2
      exact ⟨rfl, Fr.refl _ _⟩
  · obtain ⟨k, rfl⟩ : ∃ k : Nat, s = k := ⟨s.toNat, by omega⟩
    have hb : valB n f = false := by rcases hv with h | h; exact h; exact absurd h hr
    have C1 := hide (Grid22_ok w (s := k) (by omega) (by omega))
    have C2 := hide (fun W (hf : Same' w W) => values_at c (h.keep hf))
    rw [hb] at C2
    clear h hv hr hb
    go_enter Try.func26, Try.ntmps26
    go_wp2_with fail
    refine C1.out.mono ?_
    clear C1
    rintro e w1 ⟨ao, c1, rfl, hG1⟩
    have hf1 := hG1.fr
    clear hG1
    go_wp2_with (go_at_call 31; refine (C2.out _ hf1).mono ?_; clear C2; rintro e w2 ⟨rfl, rfl⟩)
    go_ret2
    exact ⟨rfl, hf1⟩

set_option maxRecDepth 100000 in
set_option maxHeartbeats 2000000 in
theorem Peak26_ok {w : World} {ao : Option Addr} {n : Nat} (c : Nat) {f : Nat → Nat} (h : FlAt w ao n f) {s : Nat} (hv : valB n f = true) (hs1 : 1 ≤ s) (hs2 : s ≤ 1000) :
    Calls Try.prog 26 #[.slice ao n c, .int .i64 s] w fun e w' => e = .returned (.tuple #[.float .f64 (gridW s (rpK n (fun i => cls (f i)) s (s + 1))), .int .i64 0]) ∧ Same' w w' := by
  have C1 := hide (Grid22_ok w hs1 hs2)
  have C2 := fun W (hf : Same' w W) => values_at (w := W) c (h.keep hf)
  rw [hv] at C2
  have C2' := hide C2
  have HL := hide h
  have HV := hide hv
  clear h hv C2
  go_enter Try.func26, Try.ntmps26
  go_wp2_with fail
  refine C1.out.mono ?_
  clear C1
  rintro e w1 ⟨go, c1, rfl, hG1⟩
  have HG := hide hG1.fl
  have hf1 := hG1.fr
  clear hG1
  go_wp2_with (go_at_call 31; refine (C2'.out _ hf1).mono ?_; clear C2'; rintro e w2 ⟨rfl, rfl⟩)
  have HF := hide hf1
  clear hf1
  go_loopg [8, 9] s (fun z a i wr => ∃ j : Nat, j + z = s + 1 ∧ 1 ≤ j ∧ i = .int .i64 j ∧ a = .int .i64 (rpK n (fun i => cls (f i)) s j : Nat) ∧ Same' w1 wr)
  case atStart =>
    refine ⟨1, by omega, by omega, rfl, ?_, Fr.refl _ _⟩
    have : rpK n (fun i => cls (f i)) s 1 = 0 := by
      show (if _ then 0 else 0) = 0
      split <;> rfl
    rw [this]; rfl
  case round =>
    obtain ⟨j, hj, hj1, rfl, rfl, hf⟩ := hrel
    have HJ := hide hj
    have hle := rpK_le n (fun i => cls (f i)) s j
    obtain ⟨q, hq⟩ : ∃ q, q = rpK n (fun i => cls (f i)) s j := ⟨_, rfl⟩
    rw [← hq] at hle ⊢
    by_cases hlt : j < s + 1
    · have hd : decide (j < s + 1) = true := by simpa using hlt
      have hd1 : decide (j ≤ s) = true := by simp; omega
      have hd2 : decide ((j : Int) < s + 1) = true := by simp; omega
      have hqs : q ≤ s := by omega
      have hi : (j : Int) < s + 1 := by omega
      have hi2 : (q : Int) < s + 1 := by omega
      obtain ⟨gd, rfl, e1⟩ := (HG.out.keep hf) j hlt
      obtain ⟨gd2, hgd, e2⟩ := (HG.out.keep hf) q (by omega)
      simp only [Option.some.injEq] at hgd
      subst hgd
      have pj := grid_prob hs1 hs2 (show j ≤ s by omega)
      have pq := grid_prob hs1 hs2 hqs
      obtain ⟨x, hx⟩ : ∃ x, x = gridW s j := ⟨_, rfl⟩
      obtain ⟨y, hy⟩ : ∃ y, y = gridW s q := ⟨_, rfl⟩
      rw [← hx] at e1 pj
      rw [← hy] at e2 pq
      have HX := hide hx
      have HY := hide hy
      have HQ := hide hq
      have CX := hide (fun (W : World) (hh : Same' wr W) => (average32_at c (HL.out.keep ((HF.out.trans hf).trans hh)) HV.out pj).mono (R' := fun e w' => ∃ a, e = .returned (.float .f64 a) ∧ cls a = avC n (fun i => cls (f i)) x ∧ Same' wr w') (fun e w' ⟨a, h1, h2, h3⟩ => ⟨a, h1, h2, hh.trans h3⟩))
      have CY := hide (fun (W : World) (hh : Same' wr W) => (average32_at c (HL.out.keep ((HF.out.trans hf).trans hh)) HV.out pq).mono (R' := fun e w' => ∃ a, e = .returned (.float .f64 a) ∧ cls a = avC n (fun i => cls (f i)) y ∧ Same' wr w') (fun e w' ⟨a, h1, h2, h3⟩ => ⟨a, h1, h2, hh.trans h3⟩))
      have KS := hide (fun (W : World) (hh : Same' wr W) => And.intro (cell_same e1 hh) (cell_same e2 hh))
      have h0 : Same' wr wr.drew := (Fr.refl _ wr).to rfl rfl rfl rfl
      clear hj hle hx hy hq pj pq e1 e2
      go_wp2_with fail
      go_region_held3 (fun w' => w'.cell? (gd.add j) = some (.float .f64 x) ∧ w'.cell? (gd.add q) = some (.float .f64 y)) (first | exact KS.out _ h0 | exact KS.out _ (by assumption))
        (first
          | (go_at_call 32; (with_reducible refine (CX.out _ (by assumption)).mono ?_); rintro e wx ⟨ax, rfl, hax, hfx⟩)
          | (go_at_call 32; (with_reducible refine (CY.out _ (by assumption)).mono ?_); rintro e wy ⟨ay, rfl, hay, hfy⟩))
      all_goals
        have hs : rpK n (fun i => cls (f i)) s (j + 1) = if ordr ax ay = some .gt then j else q := by
          show (if ordC (avC n (fun i => cls (f i)) (gridW s j)) (avC n (fun i => cls (f i)) (gridW s (rpK n (fun i => cls (f i)) s j))) = some .gt then j else rpK n (fun i => cls (f i)) s j) = _
          rw [← HQ.out, ← HX.out, ← HY.out, ← hax, ← hay, ordC_cls]
        have HS := hide hs
        by_cases ho : FloatKind.f64.format.order ax ay = some .gt
        · have HO : Hid (ordr ax ay = some .gt) := ho
          clear hs hax hay CX CY KS h0
          rw [ho, show (some Ordering.gt == some Ordering.gt) = true from rfl]
          clear ho
          go_wp2_with fail
          go_roundg (gk - 1)
          case measure => have := HJ.out; omega
          case rel => exact ⟨j + 1, by have := HJ.out; omega, by omega, by go_num, by rw [HS.out, if_pos HO.out], hf.trans (by assumption)⟩
        · have hob : (FloatKind.f64.format.order ax ay == some Ordering.gt) = false := beq_eq_false_iff_ne.2 ho
          have HO : Hid (¬ ordr ax ay = some .gt) := ho
          clear hs hax hay CX CY KS h0 ho
          rw [hob]
          clear hob
          go_wp2_with fail
          go_roundg (gk - 1)
          case measure => have := HJ.out; omega
          case rel => exact ⟨j + 1, by have := HJ.out; omega, by omega, by go_num, by rw [HS.out, if_neg HO.out], hf.trans (by assumption)⟩
    · have hd : decide (j < s + 1) = false := by simpa using hlt
      have hd1 : decide (j ≤ s) = false := by simp; omega
      have hd2 : decide ((j : Int) < s + 1) = false := by simp; omega
      have hjs : j = s + 1 := by omega
      have hq2 : q ≤ s := by
        have h1 : rpK n (fun i => cls (f i)) s (s + 1) ≤ s := by
          have h2 := rpK_le n (fun i => cls (f i)) s s
          show (if _ then s else rpK n (fun i => cls (f i)) s s) ≤ s
          split <;> omega
        rw [hq, hjs]; exact h1
      have hqe : gridW s q = gridW s (rpK n (fun i => cls (f i)) s (s + 1)) := by rw [hq, hjs]
      have HQE := hide hqe
      have hi2 : (q : Int) < s + 1 := by omega
      obtain ⟨gd, rfl, e2⟩ := (HG.out.keep hf) q (by omega)
      clear hq hqe hjs hj hle
      go_wp2_with fail
      go_ret2
      exact ⟨by rw [← HQE.out]; rfl, HF.out.trans hf⟩

end Go.Proofs.Ytneidejngbokcaa

/- Walks: the document's Average. -/
import Derived.Test.YtneidejngbokcaaB1
namespace Go.Proofs.Ytneidejngbokcaa
open Go.RowKit

/-- A word without its sign. -/
def absW (p : Nat) : Nat := (bits .andNot .u64 (p : Int) 9223372036854775808).toNat

theorem absW_eq (p : Nat) : absW p = rg p := by
  unfold absW bits rg
  show (IntKind.wrap .u64 (((BitVec.ofInt 64 (p : Int)) &&& ~~~(BitVec.ofInt 64 9223372036854775808)).toNat : Int)).toNat = _
  have e1 : ~~~(BitVec.ofInt 64 9223372036854775808) = 9223372036854775807#64 := by decide
  rw [e1]
  have e2 : (BitVec.ofInt 64 (p : Int) &&& 9223372036854775807#64).toNat = p % 9223372036854775808 := by
    rw [BitVec.toNat_and]
    have : (BitVec.ofInt 64 (p : Int)).toNat = p % 18446744073709551616 := by
      rw [BitVec.toNat_ofInt]; omega
    rw [this]
    have := Nat.and_two_pow_sub_one_eq_mod (p % 18446744073709551616) 63
    have e3 : (9223372036854775807#64).toNat = 2 ^ 63 - 1 := by decide
    rw [e3, this]
    omega
  rw [e2]
  have e4 : ∀ n : Nat, n < 9223372036854775808 → IntKind.wrap .u64 (n : Int) = n := by
    intro n hn
    unfold IntKind.wrap
    simp [IntKind.signed, IntKind.bits]
    omega
  rw [e4 _ (Nat.mod_lt _ (by decide))]
  rfl

theorem R_abs (p : Nat) : R (absW p) = rg p := by
  rw [absW_eq]
  unfold R
  have h := rg_lt p
  have e : sg (rg p) = false := by unfold sg; simp; omega
  rw [e]
  have : rg (rg p) = rg p := by unfold rg; omega
  simp [this]

/-- Whether a word is a probability. -/
def probB (p : Nat) : Bool := geB p 0 && leB p 4607182418800017408

theorem isN_zero : isN 0 = false := by decide
theorem isN_one : isN one = false := by decide
theorem R_zero : R 0 = 0 := by decide
theorem R_one : R one = 4607182418800017408 := by decide

theorem geB_nn {x y : Nat} (h : geB x y = true) : isN x = false ∧ isN y = false ∧ R y ≤ R x := by
  unfold geB at h
  have hx : isN x = false := by
    cases e : isN x
    · rfl
    · rw [ordr_nan (.inl e)] at h; simp at h
  have hy : isN y = false := by
    cases e : isN y
    · rfl
    · rw [ordr_nan (.inr e)] at h; simp at h
  refine ⟨hx, hy, ?_⟩
  rw [ordr_nn hx hy] at h
  by_cases hlt : R x < R y
  · rw [cmp_lt hlt] at h; simp at h
  · omega

theorem leB_nn {x y : Nat} (h : leB x y = true) : isN x = false ∧ isN y = false ∧ R x ≤ R y := by
  unfold leB at h
  have hx : isN x = false := by
    cases e : isN x
    · rfl
    · rw [ordr_nan (.inl e)] at h; simp at h
  have hy : isN y = false := by
    cases e : isN y
    · rfl
    · rw [ordr_nan (.inr e)] at h; simp at h
  refine ⟨hx, hy, ?_⟩
  rw [ordr_nn hx hy] at h
  by_cases hlt : R y < R x
  · rw [cmp_gt hlt] at h; simp at h
  · omega

theorem leB_of {x y : Nat} (hx : isN x = false) (hy : isN y = false) (h : R x ≤ R y) : leB x y = true := by
  unfold leB
  rw [ordr_nn hx hy]
  by_cases e : R x = R y
  · rw [cmp_eq e]; rfl
  · rw [cmp_lt (by omega)]; rfl

theorem geB_of {x y : Nat} (hx : isN x = false) (hy : isN y = false) (h : R y ≤ R x) : geB x y = true := by
  unfold geB
  rw [ordr_nn hx hy]
  by_cases e : R x = R y
  · rw [cmp_eq e]; rfl
  · rw [cmp_gt (by omega)]; rfl

theorem probB_R {p : Nat} (h : probB p = true) : isN p = false ∧ 0 ≤ R p ∧ R p ≤ R one := by
  unfold probB at h
  rw [Bool.and_eq_true] at h
  obtain ⟨a, b, c⟩ := geB_nn h.1
  obtain ⟨d, e, f⟩ := leB_nn h.2
  exact ⟨a, by rw [R_zero] at c; exact c, f⟩

theorem probB_of {p : Nat} (h : isN p = false) (h0 : 0 ≤ R p) (h1 : R p ≤ R one) : probB p = true := by
  unfold probB
  rw [Bool.and_eq_true]
  exact ⟨geB_of h isN_zero (by rw [R_zero]; exact h0), leB_of h isN_one h1⟩

theorem prob_abs {p : Nat} (h : probB p = true) : Prob (absW p) := by
  obtain ⟨a, b, c⟩ := probB_R h
  have hr : (rg p : Int) = R p := by
    unfold R at b ⊢
    split
    · rename_i hs; rw [if_pos hs] at b; omega
    · rfl
  have hR : R (absW p) = R p := by rw [R_abs, hr]
  rw [R_one] at c
  refine ⟨fin_of (by rw [hR]; unfold inf; omega) (by rw [hR]; unfold inf; omega), by omega, by rw [hR, R_one]; exact c⟩

theorem sumC_congr {f g h : Nat → Option Nat} {n : Nat} (e : ∀ i, i < n → g i = h i) : sumC f g n = sumC f h n := by
  induction n with
  | zero => rfl
  | succ n ih => unfold sumC; rw [ih (fun i hi => e i (by omega)), e n (by omega)]

/-- The average of n values at p, as a class. -/
def avC (n : Nat) (F : Nat → Cl) (p : Nat) : Cl := sumC F (wgt (n - 1) (cls (absW p)) (kz (n - 1) (absW p))) n

theorem add_at (g i : Nat) : (⟨g, 0, none⟩ : Addr).add i = ⟨g, i, none⟩ := by
  by_cases h : i = 0
  · subst h; rfl
  · simp [Addr.add, h]

theorem RowV.fl {w : World} {g n : Nat} {x : Nat → Nat} (h : RowV w g 24 n n (fun i => .float .f64 (x i))) : FlAt w (some ⟨g, 0, none⟩) n x := fun i hi => ⟨_, rfl, by rw [add_at]; exact h.cell i hi⟩

theorem Abs_w (w : World) (x : Nat) : Calls Try.prog 48 #[.float .f64 x] w fun e w' => e = .returned (.float .f64 (absW x)) ∧ w = w' := Abs_at w x

set_option maxHeartbeats 1000000 in
theorem Average44_ok {w : World} {ao : Option Addr} {n : Nat} (c : Nat) {f : Nat → Nat} {p : Nat} (h : FlAt w ao n f) (hv : valB n f = true) (hp : probB p = true) : Calls Try.prog 44 #[.slice ao n c, .float .f64 p] w fun e w' =>
    ∃ a, e = .returned (.tuple #[.float .f64 a, .int .i64 0]) ∧ cls a = avC n (fun i => cls (f i)) p ∧ Same' w w' := by
  have hn1 : 1 ≤ n := by unfold valB at hv; simp at hv; exact hv.1.1
  have hn2 : n ≤ 16385 := by unfold valB at hv; simp at hv; exact hv.1.2
  have C1 := list_at c h
  have C2 := probability_at w p
  rw [hv] at C1
  have HP := hide hp
  have HH := hide h
  obtain ⟨m, rfl⟩ : ∃ m, n = m + 1 := ⟨n - 1, by omega⟩
  unfold probB at hp
  rw [hp] at C2
  have C1' := hide C1
  have C2' := hide C2
  have C3 := hide (weights_at w (m := m) (by omega) (prob_abs HP.out))
  clear C1 C2 hp hv h
  go_enter Try.func44, Try.ntmps44
  go_wp2_with (first
    | (go_at_call 54; refine C1'.out.mono ?_; rintro e w' ⟨rfl, rfl⟩)
    | (go_at_call 55; refine C2'.out.mono ?_; rintro e w' ⟨rfl, rfl⟩)
    | (go_at_call 48; refine (Abs_w _ p).mono ?_; rintro e w' ⟨rfl, rfl⟩))
  refine C3.out.mono ?_
  rintro e w1 ⟨g, x, rfl, hg, hR, hx, hf⟩
  have C4 := hide (sum_at (w := w1) c (m + 1) (f := f) (g := x) (by omega) (HH.out.keep hf) hR.fl)
  have HX := hide hx
  clear hx
  go_wp2_with (go_at_call 56; refine C4.out.mono ?_; rintro e w2 ⟨s, rfl, hs, hf2⟩)
  have HS := hide hs
  clear hs
  go_wp2_with fail
  go_ret2
  exact ⟨s, rfl, by rw [HS.out]; exact sumC_congr fun i hi => HX.out i hi, hf.trans hf2⟩
end Go.Proofs.Ytneidejngbokcaa

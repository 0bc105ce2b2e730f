/- Sums, products .. of floats, valid or not: a law of the walk. No program in sight. -/
import Derived.WalkKit
import Derived.WalkLawsBesides
import Derived.Laws.FloatArith
namespace Go.Proofs.Ytneidejngbokcaa
open Go.RowKit

/-- Whether a word is a NaN. -/
def isN (x : Nat) : Bool := decide (9218868437227405312 < x % 9223372036854775808)
/-- The word of a float, none for a NaN. -/
def cls (x : Nat) : Option Nat := if isN x then none else some x

theorem run_arith {P : Program} (w : World) (op : BinOp) (t : TypeId) (x y : Nat) (hop : op = .add ∨ op = .sub ∨ op = .mul ∨ op = .quo) :
    ∃ r w', (binOp op t (.float .f64 x) (.float .f64 y)).run P w = .ok (.float .f64 r) w' ∧ ((floatBits op .f64 x y = some r ∧ w' = w) ∨ (floatBits op .f64 x y = none ∧ r = Question.cut (.nanBits .f64 x y) (w.tape w.drawn (.nanBits .f64 x y)) ∧ w' = w.drew)) := by
  cases h : floatBits op .f64 x y with
  | some r => exact ⟨r, w, run_float_arith w op t .f64 x y r h, .inl ⟨rfl, rfl⟩⟩
  | none =>
    refine ⟨_, w.drew, ?_, .inr ⟨rfl, rfl, rfl⟩⟩
    unfold floatBits at h
    rcases hop with rfl | rfl | rfl | rfl <;> simp only at h <;> simp [binOp, Op.floatArith, h, Question.forced]

theorem cut_nan (x y t : Nat) : isN (Question.cut (.nanBits .f64 x y) t) = true := by
  show isN ((t % 2) * 2 ^ 63 + 0x7ff0000000000000 + 1 + (t / 2) % (2 ^ 52 - 1)) = true
  unfold isN
  have h1 := Nat.mod_lt (t / 2) (show 0 < 2 ^ 52 - 1 by decide)
  have h2 := Nat.mod_lt t (show 0 < 2 by decide)
  generalize (t / 2) % (2 ^ 52 - 1) = a at *
  generalize t % 2 = b at *
  simp only [decide_eq_true_eq]
  omega

theorem read_nan {x : Nat} (h : isN x = true) : ∃ s f, FloatKind.f64.format.read x = .nan s f := by
  unfold isN at h
  simp only [decide_eq_true_eq] at h
  unfold Ieee.Format.read
  have e1 : FloatKind.f64.format.signWeight = 9223372036854775808 := by decide +kernel
  have e2 : FloatKind.f64.format.infRung = 9218868437227405312 := by decide +kernel
  have e3 : FloatKind.f64.format.binade = 4503599627370496 := by decide +kernel
  simp only [e1, e2, e3]
  rw [if_neg (by omega), if_neg (by omega), if_neg (by omega)]
  exact ⟨_, _, rfl⟩

theorem read_ok {x : Nat} (h : isN x = false) : ∀ s f, FloatKind.f64.format.read x ≠ .nan s f := by
  unfold isN at h
  simp only [decide_eq_false_iff_not] at h
  unfold Ieee.Format.read
  have e1 : FloatKind.f64.format.signWeight = 9223372036854775808 := by decide +kernel
  have e2 : FloatKind.f64.format.infRung = 9218868437227405312 := by decide +kernel
  have e3 : FloatKind.f64.format.binade = 4503599627370496 := by decide +kernel
  simp only [e1, e2, e3]
  intro s f
  split
  · simp
  · split
    · simp
    · rw [if_pos (by omega)]; simp

theorem write_ok {d : Ieee.Datum} (h : ∀ s f, d ≠ .nan s f) : isN (FloatKind.f64.format.write d) = false := by
  have e1 : FloatKind.f64.format.signWeight = 9223372036854775808 := by decide +kernel
  have e2 : FloatKind.f64.format.infRung = 9218868437227405312 := by decide +kernel
  have key : ∀ (neg : Bool) (r : Nat), r ≤ 9218868437227405312 → isN (FloatKind.f64.format.word neg r) = false := by
    intro neg r hr
    unfold isN Ieee.Format.word
    rw [e1]
    simp only [decide_eq_false_iff_not]
    split <;> omega
  cases d with
  | nan s f => exact absurd rfl (h s f)
  | infinity s => exact key s _ (by rw [e2]; omega)
  | number s m i =>
    show isN (FloatKind.f64.format.nearest s m i) = false
    unfold Ieee.Format.nearest
    split
    · exact key s 0 (by omega)
    · exact key s _ (by rw [e2]; exact Nat.min_le_right _ _)

/-- The same operation on classes. -/
def fop (op : BinOp) (a b : Option Nat) : Option Nat :=
  match a, b with
  | some x, some y => floatBits op .f64 x y
  | _, _ => none

theorem sum_nan_l {s : Bool} {f : Nat} (d : Ieee.Datum) : (Ieee.Datum.nan s f).sum d = none := by cases d <;> rfl
theorem sum_nan_r {s : Bool} {f : Nat} (d : Ieee.Datum) : d.sum (Ieee.Datum.nan s f) = none := by cases d <;> rfl
theorem prod_nan_l {s : Bool} {f : Nat} (d : Ieee.Datum) : (Ieee.Datum.nan s f).product d = none := by cases d <;> rfl
theorem prod_nan_r {s : Bool} {f : Nat} (d : Ieee.Datum) : d.product (Ieee.Datum.nan s f) = none := by cases d <;> rfl
theorem quot_nan_l {k : Nat} {s : Bool} {f : Nat} (d : Ieee.Datum) : (Ieee.Datum.nan s f).quotient k d = none := by cases d <;> rfl
theorem quot_nan_r {k : Nat} {s : Bool} {f : Nat} (d : Ieee.Datum) : d.quotient k (Ieee.Datum.nan s f) = none := by cases d <;> rfl

theorem floatBits_nan {op : BinOp} {x y : Nat} (h : isN x = true ∨ isN y = true) : floatBits op .f64 x y = none := by
  unfold floatBits Ieee.Format.add Ieee.Format.sub Ieee.Format.mul Ieee.Format.div
  rcases h with h | h
  · obtain ⟨s, f, e⟩ := read_nan h
    rw [e]
    split <;> simp [sum_nan_l, prod_nan_l, quot_nan_l]
  · obtain ⟨s, f, e⟩ := read_nan h
    rw [e]
    split <;> simp [sum_nan_r, prod_nan_r, quot_nan_r, Ieee.Datum.opposite]

theorem sum_ok {a b c : Ieee.Datum} (h : a.sum b = some c) : ∀ s f, c ≠ .nan s f := by
  intro s f e
  subst e
  cases a <;> cases b <;> simp [Ieee.Datum.sum] at h

theorem prod_ok {a b c : Ieee.Datum} (h : a.product b = some c) : ∀ s f, c ≠ .nan s f := by
  intro s f e
  subst e
  cases a <;> cases b <;> simp [Ieee.Datum.product] at h

theorem quot_ok {k : Nat} {a b c : Ieee.Datum} (h : a.quotient k b = some c) : ∀ s f, c ≠ .nan s f := by
  intro s f e
  subst e
  cases a <;> cases b <;> simp [Ieee.Datum.quotient] at h
  split at h
  · split at h <;> simp at h
  · simp at h

theorem floatBits_ok {op : BinOp} {x y r : Nat} (h : floatBits op .f64 x y = some r) : isN r = false := by
  unfold floatBits Ieee.Format.add Ieee.Format.sub Ieee.Format.mul Ieee.Format.div at h
  split at h
  · obtain ⟨d, hd, rfl⟩ := Option.map_eq_some_iff.1 h; exact write_ok (sum_ok hd)
  · obtain ⟨d, hd, rfl⟩ := Option.map_eq_some_iff.1 h; exact write_ok (sum_ok hd)
  · obtain ⟨d, hd, rfl⟩ := Option.map_eq_some_iff.1 h; exact write_ok (prod_ok hd)
  · obtain ⟨d, hd, rfl⟩ := Option.map_eq_some_iff.1 h; exact write_ok (quot_ok hd)
  · cases h

theorem fop_cls {op : BinOp} {x y : Nat} : fop op (cls x) (cls y) = floatBits op .f64 x y := by
  unfold fop cls
  by_cases hx : isN x = true
  · rw [if_pos hx, floatBits_nan (.inl hx)]
  · by_cases hy : isN y = true
    · rw [if_pos hy, floatBits_nan (.inr hy)]
      split <;> simp_all
    · rw [if_neg hx, if_neg hy]

/-- An operation on floats, as the classes tell it. -/
theorem run_arith_cls {P : Program} (w : World) (op : BinOp) (t : TypeId) (x y : Nat) (hop : op = .add ∨ op = .sub ∨ op = .mul ∨ op = .quo) :
    ∃ r w', (binOp op t (.float .f64 x) (.float .f64 y)).run P w = .ok (.float .f64 r) w' ∧ cls r = fop op (cls x) (cls y) ∧ (w' = w ∨ w' = w.drew) := by
  obtain ⟨r, w', hr, ⟨h, hw⟩ | ⟨h, rfl, hw⟩⟩ := run_arith (P := P) w op t x y hop
  · refine ⟨r, w', hr, ?_, .inl hw⟩
    rw [fop_cls, h]
    unfold cls
    rw [floatBits_ok h]; rfl
  · refine ⟨_, w', hr, ?_, .inr hw⟩
    rw [fop_cls, h]
    unfold cls
    rw [cut_nan]; rfl

end Go.Proofs.Ytneidejngbokcaa

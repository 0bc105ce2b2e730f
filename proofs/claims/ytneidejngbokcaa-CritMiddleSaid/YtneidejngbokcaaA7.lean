/- Comparing floats, as the classes tell it. -/
import Derived.Test.YtneidejngbokcaaA2
import Derived.Test.YtneidejngbokcaaA0
namespace Go.Proofs.Ytneidejngbokcaa
open Go.RowKit

theorem ord_nan_l {s : Bool} {f : Nat} (d : Ieee.Datum) : (Ieee.Datum.nan s f).order d = none := by cases d <;> rfl
theorem ord_nan_r {s : Bool} {f : Nat} (d : Ieee.Datum) : d.order (Ieee.Datum.nan s f) = none := by cases d <;> rfl

theorem ordr_nan {x y : Nat} (h : isN x = true ∨ isN y = true) : ordr x y = none := by
  unfold ordr Ieee.Format.order
  rcases h with h | h
  · obtain ⟨s, f, e⟩ := read_nan h
    rw [e, ord_nan_l]
  · obtain ⟨s, f, e⟩ := read_nan h
    rw [e, ord_nan_r]

/-- How two classes compare. -/
def ordC (a b : Option Nat) : Option Ordering :=
  match a, b with
  | some x, some y => ordr x y
  | _, _ => none

theorem ordC_cls {x y : Nat} : ordC (cls x) (cls y) = ordr x y := by
  unfold ordC cls
  by_cases hx : isN x = true
  · rw [if_pos hx, ordr_nan (.inl hx)]
  · by_cases hy : isN y = true
    · rw [if_pos hy, ordr_nan (.inr hy)]
      split <;> simp_all
    · rw [if_neg hx, if_neg hy]

end Go.Proofs.Ytneidejngbokcaa

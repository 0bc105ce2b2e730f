/- Plain: the answers of the chapter, as functions of the classes of floats. No program in sight. -/
import Derived.Test.YtneidejngbokcaaA7
import Derived.Test.YtneidejngbokcaaF6
namespace Go.Proofs.Ytneidejngbokcaa
open Go.RowKit

abbrev Cl := Option Nat
/-- The word of one. -/
def one : Nat := 4607182418800017408
/-- The class of a whole number. -/
def fI (n : Int) : Cl := some (flI n)

theorem cls_flI (n : Int) : cls (floatOfInt .f64 n) = fI n := by
  have : isN (floatOfInt .f64 n) = false := write_ok (d := .number (decide (n < 0)) n.natAbs 0) (fun s f h => by cases h)
  unfold cls
  rw [this]; rfl

/-- One step up, and one step down, of the weights of m trials at the probability p. -/
def stepU (m : Nat) (p : Cl) (k : Nat) (F : Nat → Cl) : Nat → Cl := fun j => if j = k + 1 then fop .mul (fop .mul (F k) (fop .quo (fI ((m : Int) - k)) (fI ((k : Int) + 1)))) (fop .quo p (fop .sub (some one) p)) else F j
def stepD (m : Nat) (p : Cl) (k : Nat) (F : Nat → Cl) : Nat → Cl := fun j => if j + 1 = k then fop .mul (fop .mul (F k) (fop .quo (fI k) (fI ((m : Int) - k + 1)))) (fop .quo (fop .sub (some one) p) p) else F j
def upW (m : Nat) (p : Cl) (k0 : Nat) : Nat → Nat → Cl
  | 0 => fun j => if j = k0 then some one else some 0
  | s + 1 => stepU m p (k0 + s) (upW m p k0 s)
def dnW (m : Nat) (p : Cl) (k0 : Nat) : Nat → Nat → Cl
  | 0 => upW m p k0 (m - k0)
  | s + 1 => stepD m p (k0 - s) (dnW m p k0 s)
def sumW (F : Nat → Cl) : Nat → Cl
  | 0 => some 0
  | k + 1 => fop .add (sumW F k) (F k)
/-- The weights of m trials at p, the greatest at k0. -/
def wgt (m : Nat) (p : Cl) (k0 : Nat) : Nat → Cl := fun j => fop .quo (dnW m p k0 k0 j) (sumW (dnW m p k0 k0) (m + 1))

/-- Where the weights begin: (m + 1) * p rounded down, at most m. -/
def prodW (m p : Nat) : Nat := (floatBits .mul .f64 (flI ((m : Int) + 1)) p).getD 0
def kz (m p : Nat) : Nat := min (trn (prodW m p)) m

end Go.Proofs.Ytneidejngbokcaa

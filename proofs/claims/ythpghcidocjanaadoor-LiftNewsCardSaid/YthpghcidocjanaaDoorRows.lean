/-
  NARROWER THAN 'FOR EVERY INPUT', by the rows' own cells (each row's printed sentence says how): LiftSteps: laid · LiftThree: laid · LiftNews: laid · LiftAsks: laid · LiftNil: laid · LiftCommon: laid · LiftAbove: laid · LiftClimbs: laid · LiftLoops: laid.
  DERIVED. THE GIVEN ROWS OF THIS SEAT. 9 by the template 'for every input the law returns true; each argument reads behind the call as it read before'; 0 by the template 'total and deterministic' (their statements: YthpghcidocjanaaDoorTotals.lean).
  GIVEN WITH THE SEED: the statements are not yours to turn. If you find one false, say at which input.
  Laid BY PROGRAM, IN A SANDBOX (cutbox-rows.mjs): the forced cells as the released guide's own fill.sh prints them over the translation ea7f747c188fd16f… (all of the seat's roots in one cut). By AI agents, Wed Nov 11 2026. No macro, syntax, notation, axiom, sorry.
-/
import Derived.Test.YthpghcidocjanaaDoorChecked
import GoSem.Claim
import GoSem.ClaimJoined
import GoSem.ClaimMapViews
import Derived.JoinedTies
import Derived.KernelRfl
namespace Go.Proofs.YthpghcidocjanaaDoor
/- THE CELL 'sum', in the pinned program and in every row, IS THE sha256 OF THE DUMP (.gsa) THAT YthpghcidocjanaaDoorProg.lean LOADS. Nothing in Lean hashes anything: it is a label: what it is worth is what the hold of that sum in a sandbox is worth. -/
noncomputable def Tryd.pinned : Pinned := { name := "ythpghcidocjanaadoor", sum := "ea7f747c188fd16fa8ca3593e84ad4470d52486b74844dc29a74bddd0a917af8", checked := Tryd.checked }
namespace Rows
def none {H : Type} : Left H := { results := [], args := [] }

/- WHAT THE LISTED PACKAGE-LEVEL VARIABLES READ AS WHEN THE CALL BEGINS. Each datum BY PROGRAM (the guide's laid-datum.mjs) off the statement by which the dump's own 'gosem.cut.vars' lays the variable. In a bare row this is a premise. The card (YthpghcidocjanaaDoorCards.lean) ties it to the program's text. -/
def laid_math_bits_deBruijn32tab {H : Type} : DataW H := .agg [.lit (.int .u8 0), .lit (.int .u8 1), .lit (.int .u8 28), .lit (.int .u8 2), .lit (.int .u8 29), .lit (.int .u8 14), .lit (.int .u8 24), .lit (.int .u8 3), .lit (.int .u8 30), .lit (.int .u8 22), .lit (.int .u8 20), .lit (.int .u8 15), .lit (.int .u8 25), .lit (.int .u8 17), .lit (.int .u8 4), .lit (.int .u8 8), .lit (.int .u8 31), .lit (.int .u8 27), .lit (.int .u8 13), .lit (.int .u8 23), .lit (.int .u8 21), .lit (.int .u8 19), .lit (.int .u8 16), .lit (.int .u8 7), .lit (.int .u8 26), .lit (.int .u8 12), .lit (.int .u8 18), .lit (.int .u8 6), .lit (.int .u8 11), .lit (.int .u8 5), .lit (.int .u8 10), .lit (.int .u8 9)]
def laid_math_bits_deBruijn64tab {H : Type} : DataW H := .agg [.lit (.int .u8 0), .lit (.int .u8 1), .lit (.int .u8 56), .lit (.int .u8 2), .lit (.int .u8 57), .lit (.int .u8 49), .lit (.int .u8 28), .lit (.int .u8 3), .lit (.int .u8 61), .lit (.int .u8 58), .lit (.int .u8 42), .lit (.int .u8 50), .lit (.int .u8 38), .lit (.int .u8 29), .lit (.int .u8 17), .lit (.int .u8 4), .lit (.int .u8 62), .lit (.int .u8 47), .lit (.int .u8 59), .lit (.int .u8 36), .lit (.int .u8 45), .lit (.int .u8 43), .lit (.int .u8 51), .lit (.int .u8 22), .lit (.int .u8 53), .lit (.int .u8 39), .lit (.int .u8 33), .lit (.int .u8 30), .lit (.int .u8 24), .lit (.int .u8 18), .lit (.int .u8 12), .lit (.int .u8 5), .lit (.int .u8 63), .lit (.int .u8 55), .lit (.int .u8 48), .lit (.int .u8 27), .lit (.int .u8 60), .lit (.int .u8 41), .lit (.int .u8 37), .lit (.int .u8 16), .lit (.int .u8 46), .lit (.int .u8 35), .lit (.int .u8 44), .lit (.int .u8 21), .lit (.int .u8 52), .lit (.int .u8 32), .lit (.int .u8 23), .lit (.int .u8 11), .lit (.int .u8 54), .lit (.int .u8 26), .lit (.int .u8 40), .lit (.int .u8 15), .lit (.int .u8 34), .lit (.int .u8 20), .lit (.int .u8 31), .lit (.int .u8 10), .lit (.int .u8 25), .lit (.int .u8 14), .lit (.int .u8 19), .lit (.int .u8 9), .lit (.int .u8 13), .lit (.int .u8 8), .lit (.int .u8 7), .lit (.int .u8 6)]

/-- 'seepagelaw19.LiftSteps': WHATEVER THE INPUT: true; the input reads as it did. -/
def liftStepsSpec : ChangeSpec := { name := "liftSteps", fn := fun _ => fun
  | [d1, d2, d3, d4, d5] => { results := [.lit (.bool true)], args := [d1, d2, d3, d4, d5] }
  | _ => none }
def liftStepsRow : OpenClaim := { program := "ythpghcidocjanaadoor", sum := "ea7f747c188fd16fa8ca3593e84ad4470d52486b74844dc29a74bddd0a917af8", func := "seepage/seepagelaw19.LiftSteps", spec := "liftSteps", unfollowed := true, recurses := true, named := ["math/bits.deBruijn32tab", "math/bits.deBruijn64tab"], apart := false, laid := [("math/bits.deBruijn32tab", laid_math_bits_deBruijn32tab), ("math/bits.deBruijn64tab", laid_math_bits_deBruijn64tab)] }
def LiftStepsSaid : Prop := liftStepsRow.holds Tryd.pinned (OpenSpec.ofChange liftStepsSpec)

/-- ITS FALSE NEIGHBOUR: 'it returns false'. Refute it at one input. -/
def liftStepsWrong : ChangeSpec := { name := "liftSteps", fn := fun _ => fun
  | [d1, d2, d3, d4, d5] => { results := [.lit (.bool false)], args := [d1, d2, d3, d4, d5] }
  | _ => none }
def LiftStepsWrongFalsely : Prop := liftStepsRow.holds Tryd.pinned (OpenSpec.ofChange liftStepsWrong)

/-- 'seepagelaw19.LiftThree': WHATEVER THE INPUT: true; the input reads as it did. -/
def liftThreeSpec : ChangeSpec := { name := "liftThree", fn := fun _ => fun
  | [d1, d2, d3, d4, d5] => { results := [.lit (.bool true)], args := [d1, d2, d3, d4, d5] }
  | _ => none }
def liftThreeRow : OpenClaim := { program := "ythpghcidocjanaadoor", sum := "ea7f747c188fd16fa8ca3593e84ad4470d52486b74844dc29a74bddd0a917af8", func := "seepage/seepagelaw19.LiftThree", spec := "liftThree", unfollowed := true, recurses := true, named := ["math/bits.deBruijn32tab", "math/bits.deBruijn64tab"], apart := false, laid := [("math/bits.deBruijn32tab", laid_math_bits_deBruijn32tab), ("math/bits.deBruijn64tab", laid_math_bits_deBruijn64tab)] }
def LiftThreeSaid : Prop := liftThreeRow.holds Tryd.pinned (OpenSpec.ofChange liftThreeSpec)

/-- ITS FALSE NEIGHBOUR: 'it returns false'. Refute it at one input. -/
def liftThreeWrong : ChangeSpec := { name := "liftThree", fn := fun _ => fun
  | [d1, d2, d3, d4, d5] => { results := [.lit (.bool false)], args := [d1, d2, d3, d4, d5] }
  | _ => none }
def LiftThreeWrongFalsely : Prop := liftThreeRow.holds Tryd.pinned (OpenSpec.ofChange liftThreeWrong)

/-- 'seepagelaw19.LiftNews': WHATEVER THE INPUT: true; the input reads as it did. -/
def liftNewsSpec : ChangeSpec := { name := "liftNews", fn := fun _ => fun
  | [d1, d2] => { results := [.lit (.bool true)], args := [d1, d2] }
  | _ => none }
def liftNewsRow : OpenClaim := { program := "ythpghcidocjanaadoor", sum := "ea7f747c188fd16fa8ca3593e84ad4470d52486b74844dc29a74bddd0a917af8", func := "seepage/seepagelaw19.LiftNews", spec := "liftNews", unfollowed := true, recurses := true, named := ["math/bits.deBruijn32tab", "math/bits.deBruijn64tab"], apart := false, laid := [("math/bits.deBruijn32tab", laid_math_bits_deBruijn32tab), ("math/bits.deBruijn64tab", laid_math_bits_deBruijn64tab)] }
def LiftNewsSaid : Prop := liftNewsRow.holds Tryd.pinned (OpenSpec.ofChange liftNewsSpec)

/-- ITS FALSE NEIGHBOUR: 'it returns false'. Refute it at one input. -/
def liftNewsWrong : ChangeSpec := { name := "liftNews", fn := fun _ => fun
  | [d1, d2] => { results := [.lit (.bool false)], args := [d1, d2] }
  | _ => none }
def LiftNewsWrongFalsely : Prop := liftNewsRow.holds Tryd.pinned (OpenSpec.ofChange liftNewsWrong)

/-- 'seepagelaw19.LiftAsks': WHATEVER THE INPUT: true; the input reads as it did. -/
def liftAsksSpec : ChangeSpec := { name := "liftAsks", fn := fun _ => fun
  | [d1, d2] => { results := [.lit (.bool true)], args := [d1, d2] }
  | _ => none }
def liftAsksRow : OpenClaim := { program := "ythpghcidocjanaadoor", sum := "ea7f747c188fd16fa8ca3593e84ad4470d52486b74844dc29a74bddd0a917af8", func := "seepage/seepagelaw19.LiftAsks", spec := "liftAsks", unfollowed := true, recurses := true, named := ["math/bits.deBruijn32tab", "math/bits.deBruijn64tab"], apart := false, laid := [("math/bits.deBruijn32tab", laid_math_bits_deBruijn32tab), ("math/bits.deBruijn64tab", laid_math_bits_deBruijn64tab)] }
def LiftAsksSaid : Prop := liftAsksRow.holds Tryd.pinned (OpenSpec.ofChange liftAsksSpec)

/-- ITS FALSE NEIGHBOUR: 'it returns false'. Refute it at one input. -/
def liftAsksWrong : ChangeSpec := { name := "liftAsks", fn := fun _ => fun
  | [d1, d2] => { results := [.lit (.bool false)], args := [d1, d2] }
  | _ => none }
def LiftAsksWrongFalsely : Prop := liftAsksRow.holds Tryd.pinned (OpenSpec.ofChange liftAsksWrong)

/-- 'seepagelaw19.LiftNil': WHATEVER THE INPUT: true; the input reads as it did. -/
def liftNilSpec : ChangeSpec := { name := "liftNil", fn := fun _ => fun
  | [d] => { results := [.lit (.bool true)], args := [d] }
  | _ => none }
def liftNilRow : OpenClaim := { program := "ythpghcidocjanaadoor", sum := "ea7f747c188fd16fa8ca3593e84ad4470d52486b74844dc29a74bddd0a917af8", func := "seepage/seepagelaw19.LiftNil", spec := "liftNil", unfollowed := true, recurses := true, named := ["math/bits.deBruijn32tab", "math/bits.deBruijn64tab"], apart := false, laid := [("math/bits.deBruijn32tab", laid_math_bits_deBruijn32tab), ("math/bits.deBruijn64tab", laid_math_bits_deBruijn64tab)] }
def LiftNilSaid : Prop := liftNilRow.holds Tryd.pinned (OpenSpec.ofChange liftNilSpec)

/-- ITS FALSE NEIGHBOUR: 'it returns false'. Refute it at one input. -/
def liftNilWrong : ChangeSpec := { name := "liftNil", fn := fun _ => fun
  | [d] => { results := [.lit (.bool false)], args := [d] }
  | _ => none }
def LiftNilWrongFalsely : Prop := liftNilRow.holds Tryd.pinned (OpenSpec.ofChange liftNilWrong)

/-- 'seepagelaw19.LiftCommon': WHATEVER THE INPUT: true; the input reads as it did. -/
def liftCommonSpec : ChangeSpec := { name := "liftCommon", fn := fun _ => fun
  | [d1, d2, d3, d4] => { results := [.lit (.bool true)], args := [d1, d2, d3, d4] }
  | _ => none }
def liftCommonRow : OpenClaim := { program := "ythpghcidocjanaadoor", sum := "ea7f747c188fd16fa8ca3593e84ad4470d52486b74844dc29a74bddd0a917af8", func := "seepage/seepagelaw19.LiftCommon", spec := "liftCommon", unfollowed := true, recurses := true, named := ["math/bits.deBruijn32tab", "math/bits.deBruijn64tab"], apart := false, laid := [("math/bits.deBruijn32tab", laid_math_bits_deBruijn32tab), ("math/bits.deBruijn64tab", laid_math_bits_deBruijn64tab)] }
def LiftCommonSaid : Prop := liftCommonRow.holds Tryd.pinned (OpenSpec.ofChange liftCommonSpec)

/-- ITS FALSE NEIGHBOUR: 'it returns false'. Refute it at one input. -/
def liftCommonWrong : ChangeSpec := { name := "liftCommon", fn := fun _ => fun
  | [d1, d2, d3, d4] => { results := [.lit (.bool false)], args := [d1, d2, d3, d4] }
  | _ => none }
def LiftCommonWrongFalsely : Prop := liftCommonRow.holds Tryd.pinned (OpenSpec.ofChange liftCommonWrong)

/-- 'seepagelaw19.LiftAbove': WHATEVER THE INPUT: true; the input reads as it did. -/
def liftAboveSpec : ChangeSpec := { name := "liftAbove", fn := fun _ => fun
  | [d1, d2, d3] => { results := [.lit (.bool true)], args := [d1, d2, d3] }
  | _ => none }
def liftAboveRow : OpenClaim := { program := "ythpghcidocjanaadoor", sum := "ea7f747c188fd16fa8ca3593e84ad4470d52486b74844dc29a74bddd0a917af8", func := "seepage/seepagelaw19.LiftAbove", spec := "liftAbove", unfollowed := true, recurses := true, named := ["math/bits.deBruijn32tab", "math/bits.deBruijn64tab"], apart := false, laid := [("math/bits.deBruijn32tab", laid_math_bits_deBruijn32tab), ("math/bits.deBruijn64tab", laid_math_bits_deBruijn64tab)] }
def LiftAboveSaid : Prop := liftAboveRow.holds Tryd.pinned (OpenSpec.ofChange liftAboveSpec)

/-- ITS FALSE NEIGHBOUR: 'it returns false'. Refute it at one input. -/
def liftAboveWrong : ChangeSpec := { name := "liftAbove", fn := fun _ => fun
  | [d1, d2, d3] => { results := [.lit (.bool false)], args := [d1, d2, d3] }
  | _ => none }
def LiftAboveWrongFalsely : Prop := liftAboveRow.holds Tryd.pinned (OpenSpec.ofChange liftAboveWrong)

/-- 'seepagelaw19.LiftClimbs': WHATEVER THE INPUT: true; the input reads as it did. -/
def liftClimbsSpec : ChangeSpec := { name := "liftClimbs", fn := fun _ => fun
  | [d1, d2, d3, d4, d5, d6] => { results := [.lit (.bool true)], args := [d1, d2, d3, d4, d5, d6] }
  | _ => none }
def liftClimbsRow : OpenClaim := { program := "ythpghcidocjanaadoor", sum := "ea7f747c188fd16fa8ca3593e84ad4470d52486b74844dc29a74bddd0a917af8", func := "seepage/seepagelaw19.LiftClimbs", spec := "liftClimbs", unfollowed := true, recurses := true, named := ["math/bits.deBruijn32tab", "math/bits.deBruijn64tab"], apart := false, laid := [("math/bits.deBruijn32tab", laid_math_bits_deBruijn32tab), ("math/bits.deBruijn64tab", laid_math_bits_deBruijn64tab)] }
def LiftClimbsSaid : Prop := liftClimbsRow.holds Tryd.pinned (OpenSpec.ofChange liftClimbsSpec)

/-- ITS FALSE NEIGHBOUR: 'it returns false'. Refute it at one input. -/
def liftClimbsWrong : ChangeSpec := { name := "liftClimbs", fn := fun _ => fun
  | [d1, d2, d3, d4, d5, d6] => { results := [.lit (.bool false)], args := [d1, d2, d3, d4, d5, d6] }
  | _ => none }
def LiftClimbsWrongFalsely : Prop := liftClimbsRow.holds Tryd.pinned (OpenSpec.ofChange liftClimbsWrong)

/-- 'seepagelaw19.LiftLoops': WHATEVER THE INPUT: true; the input reads as it did. -/
def liftLoopsSpec : ChangeSpec := { name := "liftLoops", fn := fun _ => fun
  | [d1, d2, d3, d4, d5] => { results := [.lit (.bool true)], args := [d1, d2, d3, d4, d5] }
  | _ => none }
def liftLoopsRow : OpenClaim := { program := "ythpghcidocjanaadoor", sum := "ea7f747c188fd16fa8ca3593e84ad4470d52486b74844dc29a74bddd0a917af8", func := "seepage/seepagelaw19.LiftLoops", spec := "liftLoops", unfollowed := true, recurses := true, named := ["math/bits.deBruijn32tab", "math/bits.deBruijn64tab"], apart := false, laid := [("math/bits.deBruijn32tab", laid_math_bits_deBruijn32tab), ("math/bits.deBruijn64tab", laid_math_bits_deBruijn64tab)] }
def LiftLoopsSaid : Prop := liftLoopsRow.holds Tryd.pinned (OpenSpec.ofChange liftLoopsSpec)

/-- ITS FALSE NEIGHBOUR: 'it returns false'. Refute it at one input. -/
def liftLoopsWrong : ChangeSpec := { name := "liftLoops", fn := fun _ => fun
  | [d1, d2, d3, d4, d5] => { results := [.lit (.bool false)], args := [d1, d2, d3, d4, d5] }
  | _ => none }
def LiftLoopsWrongFalsely : Prop := liftLoopsRow.holds Tryd.pinned (OpenSpec.ofChange liftLoopsWrong)

/- THE SECOND FORM. 'bulk': how many values and letters a reading holds, each counted each time it is reached (what is shared counts as often as it is met; a slice's spare places count too). A statement '..UptoSaid' is the law's where the arguments, and the package variables that the reading takes, are together of bulk at most 1048576: NARROWER than '..Said'. Prove '..Said' where nothing that the law and all that it calls make is longer than what came in: it says more and counts as full. Else prove '..UptoSaid'. A law counts once. -/
mutual
def uptoBulk {H : Type} : DataW H → Nat
  | .lit (.string bytes) => bytes.length + 1
  | .lit _ => 1
  | .nil => 1
  | .ptr d => uptoBulk d + 1
  | .slice elems spare => uptoBulkAll elems + uptoBulkAll spare + 1
  | .agg parts => uptoBulkAll parts + 1
  | .iface _ d => uptoBulk d + 1
  | .map entries => uptoBulkEntries entries + 1
  | .held _ => 1
def uptoBulkAll {H : Type} : List (DataW H) → Nat
  | [] => 0
  | d :: r => uptoBulk d + uptoBulkAll r
def uptoBulkEntries {H : Type} : List (Lit × DataW H) → Nat
  | [] => 0
  | x :: r => uptoBulkEntry x + uptoBulkEntries r
def uptoBulkEntry {H : Type} : Lit × DataW H → Nat
  | (.string bytes, d) => bytes.length + uptoBulk d + 1
  | (_, d) => uptoBulk d + 1
 end
def uptoSmall : (H : Type) → List (DataW H) → Bool := fun _ ds => decide (uptoBulkAll ds ≤ 1048576)
def OpenSpec.upto (s : _root_.Go.ChangeSpec) : _root_.Go.OpenSpec := { _root_.Go.OpenSpec.ofChange s with cond := some uptoSmall }

/-- 'seepagelaw19.LiftSteps', WHERE WHAT IT READS IS OF BULK AT MOST 1048576: true; the input reads as it did. -/
def liftStepsUptoRow : OpenClaim := { program := "ythpghcidocjanaadoor", sum := "ea7f747c188fd16fa8ca3593e84ad4470d52486b74844dc29a74bddd0a917af8", func := "seepage/seepagelaw19.LiftSteps", spec := "liftSteps", unfollowed := true, recurses := true, named := ["math/bits.deBruijn32tab", "math/bits.deBruijn64tab"], apart := false, laid := [("math/bits.deBruijn32tab", laid_math_bits_deBruijn32tab), ("math/bits.deBruijn64tab", laid_math_bits_deBruijn64tab)], narrowed := true }
def LiftStepsUptoSaid : Prop := liftStepsUptoRow.holds Tryd.pinned (OpenSpec.upto liftStepsSpec)

/-- 'seepagelaw19.LiftThree', WHERE WHAT IT READS IS OF BULK AT MOST 1048576: true; the input reads as it did. -/
def liftThreeUptoRow : OpenClaim := { program := "ythpghcidocjanaadoor", sum := "ea7f747c188fd16fa8ca3593e84ad4470d52486b74844dc29a74bddd0a917af8", func := "seepage/seepagelaw19.LiftThree", spec := "liftThree", unfollowed := true, recurses := true, named := ["math/bits.deBruijn32tab", "math/bits.deBruijn64tab"], apart := false, laid := [("math/bits.deBruijn32tab", laid_math_bits_deBruijn32tab), ("math/bits.deBruijn64tab", laid_math_bits_deBruijn64tab)], narrowed := true }
def LiftThreeUptoSaid : Prop := liftThreeUptoRow.holds Tryd.pinned (OpenSpec.upto liftThreeSpec)

/-- 'seepagelaw19.LiftNews', WHERE WHAT IT READS IS OF BULK AT MOST 1048576: true; the input reads as it did. -/
def liftNewsUptoRow : OpenClaim := { program := "ythpghcidocjanaadoor", sum := "ea7f747c188fd16fa8ca3593e84ad4470d52486b74844dc29a74bddd0a917af8", func := "seepage/seepagelaw19.LiftNews", spec := "liftNews", unfollowed := true, recurses := true, named := ["math/bits.deBruijn32tab", "math/bits.deBruijn64tab"], apart := false, laid := [("math/bits.deBruijn32tab", laid_math_bits_deBruijn32tab), ("math/bits.deBruijn64tab", laid_math_bits_deBruijn64tab)], narrowed := true }
def LiftNewsUptoSaid : Prop := liftNewsUptoRow.holds Tryd.pinned (OpenSpec.upto liftNewsSpec)

/-- 'seepagelaw19.LiftAsks', WHERE WHAT IT READS IS OF BULK AT MOST 1048576: true; the input reads as it did. -/
def liftAsksUptoRow : OpenClaim := { program := "ythpghcidocjanaadoor", sum := "ea7f747c188fd16fa8ca3593e84ad4470d52486b74844dc29a74bddd0a917af8", func := "seepage/seepagelaw19.LiftAsks", spec := "liftAsks", unfollowed := true, recurses := true, named := ["math/bits.deBruijn32tab", "math/bits.deBruijn64tab"], apart := false, laid := [("math/bits.deBruijn32tab", laid_math_bits_deBruijn32tab), ("math/bits.deBruijn64tab", laid_math_bits_deBruijn64tab)], narrowed := true }
def LiftAsksUptoSaid : Prop := liftAsksUptoRow.holds Tryd.pinned (OpenSpec.upto liftAsksSpec)

/-- 'seepagelaw19.LiftNil', WHERE WHAT IT READS IS OF BULK AT MOST 1048576: true; the input reads as it did. -/
def liftNilUptoRow : OpenClaim := { program := "ythpghcidocjanaadoor", sum := "ea7f747c188fd16fa8ca3593e84ad4470d52486b74844dc29a74bddd0a917af8", func := "seepage/seepagelaw19.LiftNil", spec := "liftNil", unfollowed := true, recurses := true, named := ["math/bits.deBruijn32tab", "math/bits.deBruijn64tab"], apart := false, laid := [("math/bits.deBruijn32tab", laid_math_bits_deBruijn32tab), ("math/bits.deBruijn64tab", laid_math_bits_deBruijn64tab)], narrowed := true }
def LiftNilUptoSaid : Prop := liftNilUptoRow.holds Tryd.pinned (OpenSpec.upto liftNilSpec)

/-- 'seepagelaw19.LiftCommon', WHERE WHAT IT READS IS OF BULK AT MOST 1048576: true; the input reads as it did. -/
def liftCommonUptoRow : OpenClaim := { program := "ythpghcidocjanaadoor", sum := "ea7f747c188fd16fa8ca3593e84ad4470d52486b74844dc29a74bddd0a917af8", func := "seepage/seepagelaw19.LiftCommon", spec := "liftCommon", unfollowed := true, recurses := true, named := ["math/bits.deBruijn32tab", "math/bits.deBruijn64tab"], apart := false, laid := [("math/bits.deBruijn32tab", laid_math_bits_deBruijn32tab), ("math/bits.deBruijn64tab", laid_math_bits_deBruijn64tab)], narrowed := true }
def LiftCommonUptoSaid : Prop := liftCommonUptoRow.holds Tryd.pinned (OpenSpec.upto liftCommonSpec)

/-- 'seepagelaw19.LiftAbove', WHERE WHAT IT READS IS OF BULK AT MOST 1048576: true; the input reads as it did. -/
def liftAboveUptoRow : OpenClaim := { program := "ythpghcidocjanaadoor", sum := "ea7f747c188fd16fa8ca3593e84ad4470d52486b74844dc29a74bddd0a917af8", func := "seepage/seepagelaw19.LiftAbove", spec := "liftAbove", unfollowed := true, recurses := true, named := ["math/bits.deBruijn32tab", "math/bits.deBruijn64tab"], apart := false, laid := [("math/bits.deBruijn32tab", laid_math_bits_deBruijn32tab), ("math/bits.deBruijn64tab", laid_math_bits_deBruijn64tab)], narrowed := true }
def LiftAboveUptoSaid : Prop := liftAboveUptoRow.holds Tryd.pinned (OpenSpec.upto liftAboveSpec)

/-- 'seepagelaw19.LiftClimbs', WHERE WHAT IT READS IS OF BULK AT MOST 1048576: true; the input reads as it did. -/
def liftClimbsUptoRow : OpenClaim := { program := "ythpghcidocjanaadoor", sum := "ea7f747c188fd16fa8ca3593e84ad4470d52486b74844dc29a74bddd0a917af8", func := "seepage/seepagelaw19.LiftClimbs", spec := "liftClimbs", unfollowed := true, recurses := true, named := ["math/bits.deBruijn32tab", "math/bits.deBruijn64tab"], apart := false, laid := [("math/bits.deBruijn32tab", laid_math_bits_deBruijn32tab), ("math/bits.deBruijn64tab", laid_math_bits_deBruijn64tab)], narrowed := true }
def LiftClimbsUptoSaid : Prop := liftClimbsUptoRow.holds Tryd.pinned (OpenSpec.upto liftClimbsSpec)

/-- 'seepagelaw19.LiftLoops', WHERE WHAT IT READS IS OF BULK AT MOST 1048576: true; the input reads as it did. -/
def liftLoopsUptoRow : OpenClaim := { program := "ythpghcidocjanaadoor", sum := "ea7f747c188fd16fa8ca3593e84ad4470d52486b74844dc29a74bddd0a917af8", func := "seepage/seepagelaw19.LiftLoops", spec := "liftLoops", unfollowed := true, recurses := true, named := ["math/bits.deBruijn32tab", "math/bits.deBruijn64tab"], apart := false, laid := [("math/bits.deBruijn32tab", laid_math_bits_deBruijn32tab), ("math/bits.deBruijn64tab", laid_math_bits_deBruijn64tab)], narrowed := true }
def LiftLoopsUptoSaid : Prop := liftLoopsUptoRow.holds Tryd.pinned (OpenSpec.upto liftLoopsSpec)

end Rows
end Go.Proofs.YthpghcidocjanaaDoor

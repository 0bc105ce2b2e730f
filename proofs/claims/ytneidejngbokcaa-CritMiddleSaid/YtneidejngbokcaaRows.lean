/-
  No cell of these rows narrows 'for every input' (looked for: loops, veiled, ifaces, maps, wideKeys, modest, calm, conditions, laid).
  DERIVED. THE GIVEN ROWS OF THIS SEAT. 11 by the template 'for every input the law returns true; each argument reads behind the call as it read before'; 0 by the template 'total and deterministic' (their statements: YtneidejngbokcaaTotals.lean).
  GIVEN WITH THE SEED: the statements are not yours to turn. If you find one false, say at which input.
  Laid BY PROGRAM, IN A SANDBOX (cutbox-rows.mjs): the forced cells as the released guide's own fill.sh prints them over the translation 520cab96c224127b… (all of the seat's roots in one cut). By AI agents, Wed Nov 11 2026. No macro, syntax, notation, axiom, sorry.
-/
import Derived.Test.YtneidejngbokcaaChecked
import GoSem.Claim
import GoSem.ClaimJoined
import GoSem.ClaimMapViews
import Derived.JoinedTies
import Derived.KernelRfl
namespace Go.Proofs.Ytneidejngbokcaa
/- THE CELL 'sum', in the pinned program and in every row, IS THE sha256 OF THE DUMP (.gsa) THAT YtneidejngbokcaaProg.lean LOADS. Nothing in Lean hashes anything: it is a label: what it is worth is what the hold of that sum in a sandbox is worth. -/
noncomputable def Try.pinned : Pinned := { name := "ytneidejngbokcaa", sum := "520cab96c224127b715150546fba00a9a6f4109340143e4ce75685483114f465", checked := Try.checked }
namespace Rows
def none {H : Type} : Left H := { results := [], args := [] }

/-- 'seepagelaw32.CritCrosses': WHATEVER THE INPUT: true; the input reads as it did. -/
def critCrossesSpec : ChangeSpec := { name := "critCrosses", fn := fun _ => fun
  | [d1, d2, d3] => { results := [.lit (.bool true)], args := [d1, d2, d3] }
  | _ => none }
def critCrossesRow : OpenClaim := { program := "ytneidejngbokcaa", sum := "520cab96c224127b715150546fba00a9a6f4109340143e4ce75685483114f465", func := "seepage/seepagelaw32.CritCrosses", spec := "critCrosses", inPlace := ["math.Float64bits", "math.Float64frombits", "math.archFloor", "math.archTrunc"], unfollowed := true, recurses := true, apart := false }
def CritCrossesSaid : Prop := critCrossesRow.holds Try.pinned (OpenSpec.ofChange critCrossesSpec)

/-- ITS FALSE NEIGHBOUR: 'it returns false'. Refute it at one input. -/
def critCrossesWrong : ChangeSpec := { name := "critCrosses", fn := fun _ => fun
  | [d1, d2, d3] => { results := [.lit (.bool false)], args := [d1, d2, d3] }
  | _ => none }
def CritCrossesWrongFalsely : Prop := critCrossesRow.holds Try.pinned (OpenSpec.ofChange critCrossesWrong)

/-- 'seepagelaw32.CritSolves': WHATEVER THE INPUT: true; the input reads as it did. -/
def critSolvesSpec : ChangeSpec := { name := "critSolves", fn := fun _ => fun
  | [d1, d2] => { results := [.lit (.bool true)], args := [d1, d2] }
  | _ => none }
def critSolvesRow : OpenClaim := { program := "ytneidejngbokcaa", sum := "520cab96c224127b715150546fba00a9a6f4109340143e4ce75685483114f465", func := "seepage/seepagelaw32.CritSolves", spec := "critSolves", inPlace := ["math.Float64bits", "math.Float64frombits", "math.archFloor", "math.archTrunc"], unfollowed := true, recurses := true, apart := false }
def CritSolvesSaid : Prop := critSolvesRow.holds Try.pinned (OpenSpec.ofChange critSolvesSpec)

/-- ITS FALSE NEIGHBOUR: 'it returns false'. Refute it at one input. -/
def critSolvesWrong : ChangeSpec := { name := "critSolves", fn := fun _ => fun
  | [d1, d2] => { results := [.lit (.bool false)], args := [d1, d2] }
  | _ => none }
def CritSolvesWrongFalsely : Prop := critSolvesRow.holds Try.pinned (OpenSpec.ofChange critSolvesWrong)

/-- 'seepagelaw32.CritMeans': WHATEVER THE INPUT: true; the input reads as it did. -/
def critMeansSpec : ChangeSpec := { name := "critMeans", fn := fun _ => fun
  | [d] => { results := [.lit (.bool true)], args := [d] }
  | _ => none }
def critMeansRow : OpenClaim := { program := "ytneidejngbokcaa", sum := "520cab96c224127b715150546fba00a9a6f4109340143e4ce75685483114f465", func := "seepage/seepagelaw32.CritMeans", spec := "critMeans", inPlace := ["math.Float64bits", "math.Float64frombits"], unfollowed := true, recurses := true, apart := false }
def CritMeansSaid : Prop := critMeansRow.holds Try.pinned (OpenSpec.ofChange critMeansSpec)

/-- ITS FALSE NEIGHBOUR: 'it returns false'. Refute it at one input. -/
def critMeansWrong : ChangeSpec := { name := "critMeans", fn := fun _ => fun
  | [d] => { results := [.lit (.bool false)], args := [d] }
  | _ => none }
def CritMeansWrongFalsely : Prop := critMeansRow.holds Try.pinned (OpenSpec.ofChange critMeansWrong)

/-- 'seepagelaw32.CritMiddle': WHATEVER THE INPUT: true; the input reads as it did. -/
def critMiddleSpec : ChangeSpec := { name := "critMiddle", fn := fun _ => fun
  | [d] => { results := [.lit (.bool true)], args := [d] }
  | _ => none }
def critMiddleRow : OpenClaim := { program := "ytneidejngbokcaa", sum := "520cab96c224127b715150546fba00a9a6f4109340143e4ce75685483114f465", func := "seepage/seepagelaw32.CritMiddle", spec := "critMiddle", inPlace := ["math.Float64bits", "math.Float64frombits"], unfollowed := true, recurses := true, apart := false }
def CritMiddleSaid : Prop := critMiddleRow.holds Try.pinned (OpenSpec.ofChange critMiddleSpec)

/-- ITS FALSE NEIGHBOUR: 'it returns false'. Refute it at one input. -/
def critMiddleWrong : ChangeSpec := { name := "critMiddle", fn := fun _ => fun
  | [d] => { results := [.lit (.bool false)], args := [d] }
  | _ => none }
def CritMiddleWrongFalsely : Prop := critMiddleRow.holds Try.pinned (OpenSpec.ofChange critMiddleWrong)

/-- 'seepagelaw32.CritGrids': WHATEVER THE INPUT: true; the input reads as it did. -/
def critGridsSpec : ChangeSpec := { name := "critGrids", fn := fun _ => fun
  | [d] => { results := [.lit (.bool true)], args := [d] }
  | _ => none }
def critGridsRow : OpenClaim := { program := "ytneidejngbokcaa", sum := "520cab96c224127b715150546fba00a9a6f4109340143e4ce75685483114f465", func := "seepage/seepagelaw32.CritGrids", spec := "critGrids", inPlace := ["math.Float64bits", "math.Float64frombits"], unfollowed := true, recurses := true, apart := false }
def CritGridsSaid : Prop := critGridsRow.holds Try.pinned (OpenSpec.ofChange critGridsSpec)

/-- ITS FALSE NEIGHBOUR: 'it returns false'. Refute it at one input. -/
def critGridsWrong : ChangeSpec := { name := "critGrids", fn := fun _ => fun
  | [d] => { results := [.lit (.bool false)], args := [d] }
  | _ => none }
def CritGridsWrongFalsely : Prop := critGridsRow.holds Try.pinned (OpenSpec.ofChange critGridsWrong)

/-- 'seepagelaw32.CritRises': WHATEVER THE INPUT: true; the input reads as it did. -/
def critRisesSpec : ChangeSpec := { name := "critRises", fn := fun _ => fun
  | [d] => { results := [.lit (.bool true)], args := [d] }
  | _ => none }
def critRisesRow : OpenClaim := { program := "ytneidejngbokcaa", sum := "520cab96c224127b715150546fba00a9a6f4109340143e4ce75685483114f465", func := "seepage/seepagelaw32.CritRises", spec := "critRises", inPlace := ["math.Float64bits", "math.Float64frombits"], unfollowed := true, recurses := true, apart := false }
def CritRisesSaid : Prop := critRisesRow.holds Try.pinned (OpenSpec.ofChange critRisesSpec)

/-- ITS FALSE NEIGHBOUR: 'it returns false'. Refute it at one input. -/
def critRisesWrong : ChangeSpec := { name := "critRises", fn := fun _ => fun
  | [d] => { results := [.lit (.bool false)], args := [d] }
  | _ => none }
def CritRisesWrongFalsely : Prop := critRisesRow.holds Try.pinned (OpenSpec.ofChange critRisesWrong)

/-- 'seepagelaw32.CritBest': WHATEVER THE INPUT: true; the input reads as it did. -/
def critBestSpec : ChangeSpec := { name := "critBest", fn := fun _ => fun
  | [d1, d2] => { results := [.lit (.bool true)], args := [d1, d2] }
  | _ => none }
def critBestRow : OpenClaim := { program := "ytneidejngbokcaa", sum := "520cab96c224127b715150546fba00a9a6f4109340143e4ce75685483114f465", func := "seepage/seepagelaw32.CritBest", spec := "critBest", inPlace := ["math.Float64bits", "math.Float64frombits"], unfollowed := true, recurses := true, apart := false }
def CritBestSaid : Prop := critBestRow.holds Try.pinned (OpenSpec.ofChange critBestSpec)

/-- ITS FALSE NEIGHBOUR: 'it returns false'. Refute it at one input. -/
def critBestWrong : ChangeSpec := { name := "critBest", fn := fun _ => fun
  | [d1, d2] => { results := [.lit (.bool false)], args := [d1, d2] }
  | _ => none }
def CritBestWrongFalsely : Prop := critBestRow.holds Try.pinned (OpenSpec.ofChange critBestWrong)

/-- 'seepagelaw32.CritFirst': WHATEVER THE INPUT: true; the input reads as it did. -/
def critFirstSpec : ChangeSpec := { name := "critFirst", fn := fun _ => fun
  | [d1, d2, d3] => { results := [.lit (.bool true)], args := [d1, d2, d3] }
  | _ => none }
def critFirstRow : OpenClaim := { program := "ytneidejngbokcaa", sum := "520cab96c224127b715150546fba00a9a6f4109340143e4ce75685483114f465", func := "seepage/seepagelaw32.CritFirst", spec := "critFirst", inPlace := ["math.Float64bits", "math.Float64frombits"], unfollowed := true, recurses := true, apart := false }
def CritFirstSaid : Prop := critFirstRow.holds Try.pinned (OpenSpec.ofChange critFirstSpec)

/-- ITS FALSE NEIGHBOUR: 'it returns false'. Refute it at one input. -/
def critFirstWrong : ChangeSpec := { name := "critFirst", fn := fun _ => fun
  | [d1, d2, d3] => { results := [.lit (.bool false)], args := [d1, d2, d3] }
  | _ => none }
def CritFirstWrongFalsely : Prop := critFirstRow.holds Try.pinned (OpenSpec.ofChange critFirstWrong)

/-- 'seepagelaw32.CritReached': WHATEVER THE INPUT: true; the input reads as it did. -/
def critReachedSpec : ChangeSpec := { name := "critReached", fn := fun _ => fun
  | [d1, d2] => { results := [.lit (.bool true)], args := [d1, d2] }
  | _ => none }
def critReachedRow : OpenClaim := { program := "ytneidejngbokcaa", sum := "520cab96c224127b715150546fba00a9a6f4109340143e4ce75685483114f465", func := "seepage/seepagelaw32.CritReached", spec := "critReached", inPlace := ["math.Float64bits", "math.Float64frombits"], unfollowed := true, recurses := true, apart := false }
def CritReachedSaid : Prop := critReachedRow.holds Try.pinned (OpenSpec.ofChange critReachedSpec)

/-- ITS FALSE NEIGHBOUR: 'it returns false'. Refute it at one input. -/
def critReachedWrong : ChangeSpec := { name := "critReached", fn := fun _ => fun
  | [d1, d2] => { results := [.lit (.bool false)], args := [d1, d2] }
  | _ => none }
def CritReachedWrongFalsely : Prop := critReachedRow.holds Try.pinned (OpenSpec.ofChange critReachedWrong)

/-- 'seepagelaw32.CritMonotone': WHATEVER THE INPUT: true; the input reads as it did. -/
def critMonotoneSpec : ChangeSpec := { name := "critMonotone", fn := fun _ => fun
  | [d1, d2, d3] => { results := [.lit (.bool true)], args := [d1, d2, d3] }
  | _ => none }
def critMonotoneRow : OpenClaim := { program := "ytneidejngbokcaa", sum := "520cab96c224127b715150546fba00a9a6f4109340143e4ce75685483114f465", func := "seepage/seepagelaw32.CritMonotone", spec := "critMonotone", inPlace := ["math.Float64bits", "math.Float64frombits"], unfollowed := true, recurses := true, apart := false }
def CritMonotoneSaid : Prop := critMonotoneRow.holds Try.pinned (OpenSpec.ofChange critMonotoneSpec)

/-- ITS FALSE NEIGHBOUR: 'it returns false'. Refute it at one input. -/
def critMonotoneWrong : ChangeSpec := { name := "critMonotone", fn := fun _ => fun
  | [d1, d2, d3] => { results := [.lit (.bool false)], args := [d1, d2, d3] }
  | _ => none }
def CritMonotoneWrongFalsely : Prop := critMonotoneRow.holds Try.pinned (OpenSpec.ofChange critMonotoneWrong)

/-- 'seepagelaw32.CritPeaks': WHATEVER THE INPUT: true; the input reads as it did. -/
def critPeaksSpec : ChangeSpec := { name := "critPeaks", fn := fun _ => fun
  | [d1, d2] => { results := [.lit (.bool true)], args := [d1, d2] }
  | _ => none }
def critPeaksRow : OpenClaim := { program := "ytneidejngbokcaa", sum := "520cab96c224127b715150546fba00a9a6f4109340143e4ce75685483114f465", func := "seepage/seepagelaw32.CritPeaks", spec := "critPeaks", inPlace := ["math.Float64bits", "math.Float64frombits", "math.archFloor", "math.archTrunc"], unfollowed := true, recurses := true, apart := false }
def CritPeaksSaid : Prop := critPeaksRow.holds Try.pinned (OpenSpec.ofChange critPeaksSpec)

/-- ITS FALSE NEIGHBOUR: 'it returns false'. Refute it at one input. -/
def critPeaksWrong : ChangeSpec := { name := "critPeaks", fn := fun _ => fun
  | [d1, d2] => { results := [.lit (.bool false)], args := [d1, d2] }
  | _ => none }
def CritPeaksWrongFalsely : Prop := critPeaksRow.holds Try.pinned (OpenSpec.ofChange critPeaksWrong)

/- THE SECOND FORM. 'bulk': how many values and letters a reading holds, each counted each time it is reached (what is shared counts as often as it is met; a slice's spare places count too). A statement '..UptoSaid' is the law's where the arguments, and the package variables that the reading takes, are together of bulk at most 1048576: NARROWER than '..Said'. Prove '..Said' where nothing that the law and all that it calls make is longer than what came in: it says more and counts as full. Else prove '..UptoSaid'. A law counts once. -/
mutual
def uptoBulk {H : Type} : DataW H → Nat
  | .lit (.string bytes) => bytes.length + 1
  | .lit _ => 1
  | .nil => 1
  | .ptr d => uptoBulk d + 1
  | .slice elems spare => uptoBulkAll elems + uptoBulkAll spare + 1
  | .agg parts => uptoBulkAll parts + 1
  | .iface _ d => uptoBulk d + 1
  | .map entries => uptoBulkEntries entries + 1
  | .held _ => 1
def uptoBulkAll {H : Type} : List (DataW H) → Nat
  | [] => 0
  | d :: r => uptoBulk d + uptoBulkAll r
def uptoBulkEntries {H : Type} : List (Lit × DataW H) → Nat
  | [] => 0
  | x :: r => uptoBulkEntry x + uptoBulkEntries r
def uptoBulkEntry {H : Type} : Lit × DataW H → Nat
  | (.string bytes, d) => bytes.length + uptoBulk d + 1
  | (_, d) => uptoBulk d + 1
 end
def uptoSmall : (H : Type) → List (DataW H) → Bool := fun _ ds => decide (uptoBulkAll ds ≤ 1048576)
def OpenSpec.upto (s : _root_.Go.ChangeSpec) : _root_.Go.OpenSpec := { _root_.Go.OpenSpec.ofChange s with cond := some uptoSmall }

/-- 'seepagelaw32.CritCrosses', WHERE WHAT IT READS IS OF BULK AT MOST 1048576: true; the input reads as it did. -/
def critCrossesUptoRow : OpenClaim := { program := "ytneidejngbokcaa", sum := "520cab96c224127b715150546fba00a9a6f4109340143e4ce75685483114f465", func := "seepage/seepagelaw32.CritCrosses", spec := "critCrosses", inPlace := ["math.Float64bits", "math.Float64frombits", "math.archFloor", "math.archTrunc"], unfollowed := true, recurses := true, apart := false, narrowed := true }
def CritCrossesUptoSaid : Prop := critCrossesUptoRow.holds Try.pinned (OpenSpec.upto critCrossesSpec)

/-- 'seepagelaw32.CritSolves', WHERE WHAT IT READS IS OF BULK AT MOST 1048576: true; the input reads as it did. -/
def critSolvesUptoRow : OpenClaim := { program := "ytneidejngbokcaa", sum := "520cab96c224127b715150546fba00a9a6f4109340143e4ce75685483114f465", func := "seepage/seepagelaw32.CritSolves", spec := "critSolves", inPlace := ["math.Float64bits", "math.Float64frombits", "math.archFloor", "math.archTrunc"], unfollowed := true, recurses := true, apart := false, narrowed := true }
def CritSolvesUptoSaid : Prop := critSolvesUptoRow.holds Try.pinned (OpenSpec.upto critSolvesSpec)

/-- 'seepagelaw32.CritMeans', WHERE WHAT IT READS IS OF BULK AT MOST 1048576: true; the input reads as it did. -/
def critMeansUptoRow : OpenClaim := { program := "ytneidejngbokcaa", sum := "520cab96c224127b715150546fba00a9a6f4109340143e4ce75685483114f465", func := "seepage/seepagelaw32.CritMeans", spec := "critMeans", inPlace := ["math.Float64bits", "math.Float64frombits"], unfollowed := true, recurses := true, apart := false, narrowed := true }
def CritMeansUptoSaid : Prop := critMeansUptoRow.holds Try.pinned (OpenSpec.upto critMeansSpec)

/-- 'seepagelaw32.CritMiddle', WHERE WHAT IT READS IS OF BULK AT MOST 1048576: true; the input reads as it did. -/
def critMiddleUptoRow : OpenClaim := { program := "ytneidejngbokcaa", sum := "520cab96c224127b715150546fba00a9a6f4109340143e4ce75685483114f465", func := "seepage/seepagelaw32.CritMiddle", spec := "critMiddle", inPlace := ["math.Float64bits", "math.Float64frombits"], unfollowed := true, recurses := true, apart := false, narrowed := true }
def CritMiddleUptoSaid : Prop := critMiddleUptoRow.holds Try.pinned (OpenSpec.upto critMiddleSpec)

/-- 'seepagelaw32.CritGrids', WHERE WHAT IT READS IS OF BULK AT MOST 1048576: true; the input reads as it did. -/
def critGridsUptoRow : OpenClaim := { program := "ytneidejngbokcaa", sum := "520cab96c224127b715150546fba00a9a6f4109340143e4ce75685483114f465", func := "seepage/seepagelaw32.CritGrids", spec := "critGrids", inPlace := ["math.Float64bits", "math.Float64frombits"], unfollowed := true, recurses := true, apart := false, narrowed := true }
def CritGridsUptoSaid : Prop := critGridsUptoRow.holds Try.pinned (OpenSpec.upto critGridsSpec)

/-- 'seepagelaw32.CritRises', WHERE WHAT IT READS IS OF BULK AT MOST 1048576: true; the input reads as it did. -/
def critRisesUptoRow : OpenClaim := { program := "ytneidejngbokcaa", sum := "520cab96c224127b715150546fba00a9a6f4109340143e4ce75685483114f465", func := "seepage/seepagelaw32.CritRises", spec := "critRises", inPlace := ["math.Float64bits", "math.Float64frombits"], unfollowed := true, recurses := true, apart := false, narrowed := true }
def CritRisesUptoSaid : Prop := critRisesUptoRow.holds Try.pinned (OpenSpec.upto critRisesSpec)

/-- 'seepagelaw32.CritBest', WHERE WHAT IT READS IS OF BULK AT MOST 1048576: true; the input reads as it did. -/
def critBestUptoRow : OpenClaim := { program := "ytneidejngbokcaa", sum := "520cab96c224127b715150546fba00a9a6f4109340143e4ce75685483114f465", func := "seepage/seepagelaw32.CritBest", spec := "critBest", inPlace := ["math.Float64bits", "math.Float64frombits"], unfollowed := true, recurses := true, apart := false, narrowed := true }
def CritBestUptoSaid : Prop := critBestUptoRow.holds Try.pinned (OpenSpec.upto critBestSpec)

/-- 'seepagelaw32.CritFirst', WHERE WHAT IT READS IS OF BULK AT MOST 1048576: true; the input reads as it did. -/
def critFirstUptoRow : OpenClaim := { program := "ytneidejngbokcaa", sum := "520cab96c224127b715150546fba00a9a6f4109340143e4ce75685483114f465", func := "seepage/seepagelaw32.CritFirst", spec := "critFirst", inPlace := ["math.Float64bits", "math.Float64frombits"], unfollowed := true, recurses := true, apart := false, narrowed := true }
def CritFirstUptoSaid : Prop := critFirstUptoRow.holds Try.pinned (OpenSpec.upto critFirstSpec)

/-- 'seepagelaw32.CritReached', WHERE WHAT IT READS IS OF BULK AT MOST 1048576: true; the input reads as it did. -/
def critReachedUptoRow : OpenClaim := { program := "ytneidejngbokcaa", sum := "520cab96c224127b715150546fba00a9a6f4109340143e4ce75685483114f465", func := "seepage/seepagelaw32.CritReached", spec := "critReached", inPlace := ["math.Float64bits", "math.Float64frombits"], unfollowed := true, recurses := true, apart := false, narrowed := true }
def CritReachedUptoSaid : Prop := critReachedUptoRow.holds Try.pinned (OpenSpec.upto critReachedSpec)

/-- 'seepagelaw32.CritMonotone', WHERE WHAT IT READS IS OF BULK AT MOST 1048576: true; the input reads as it did. -/
def critMonotoneUptoRow : OpenClaim := { program := "ytneidejngbokcaa", sum := "520cab96c224127b715150546fba00a9a6f4109340143e4ce75685483114f465", func := "seepage/seepagelaw32.CritMonotone", spec := "critMonotone", inPlace := ["math.Float64bits", "math.Float64frombits"], unfollowed := true, recurses := true, apart := false, narrowed := true }
def CritMonotoneUptoSaid : Prop := critMonotoneUptoRow.holds Try.pinned (OpenSpec.upto critMonotoneSpec)

/-- 'seepagelaw32.CritPeaks', WHERE WHAT IT READS IS OF BULK AT MOST 1048576: true; the input reads as it did. -/
def critPeaksUptoRow : OpenClaim := { program := "ytneidejngbokcaa", sum := "520cab96c224127b715150546fba00a9a6f4109340143e4ce75685483114f465", func := "seepage/seepagelaw32.CritPeaks", spec := "critPeaks", inPlace := ["math.Float64bits", "math.Float64frombits", "math.archFloor", "math.archTrunc"], unfollowed := true, recurses := true, apart := false, narrowed := true }
def CritPeaksUptoSaid : Prop := critPeaksUptoRow.holds Try.pinned (OpenSpec.upto critPeaksSpec)

end Rows
end Go.Proofs.Ytneidejngbokcaa

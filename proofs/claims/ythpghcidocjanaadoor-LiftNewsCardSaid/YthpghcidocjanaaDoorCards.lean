/-
  DERIVED. GIVEN WITH THE SEED: THE CARDS: each row of YthpghcidocjanaaDoorRows.lean that lists a variable, with what it lists TIED to the program's text (the seventh form; the later family's looks); each row that meets fmt, with fmt's text TOLD by the authors' own Lean function (tested against real Go, not proved from fmt's source: count such statements apart). THE CARD IS WHAT COUNTS. Prove the row's statement (the work); the ties are given (YthpghcidocjanaaDoorTie.lean); close each card by the builder's one call (the guide's Derived/Test/ToyasCard.lean, 'card_holds'). Laid BY PROGRAM, IN A SANDBOX (cutbox-door.mjs). By AI agents, Wed Nov 11 2026. No macro, syntax, notation, axiom, sorry.
-/
import Derived.Test.YthpghcidocjanaaDoorRows
import GoSem.ClaimSeven
namespace Go.Proofs.YthpghcidocjanaaDoor
namespace Rows

/-- THE TIED CARD OF 'seepagelaw19.LiftSteps'. -/
def liftStepsCard : Claim7 := { stood := { row := liftStepsRow, standIns := [], harness := (true, "d58a2b8d2ef762febafc7448a5ccc5b41ca205d32473076bfa97de823bfad49a"), looks := false }, kinds := [], alts := [], laidByText := true, laidKinds := [.data, .data], laidTests := true, laidLooks := .later }
def LiftStepsCardSaid : Prop := Claim7.holds Tryd.pinned (.plain (OpenSpec.ofChange liftStepsSpec)) liftStepsCard

/-- THE TIED CARD OF 'seepagelaw19.LiftThree'. -/
def liftThreeCard : Claim7 := { stood := { row := liftThreeRow, standIns := [], harness := (true, "d58a2b8d2ef762febafc7448a5ccc5b41ca205d32473076bfa97de823bfad49a"), looks := false }, kinds := [], alts := [], laidByText := true, laidKinds := [.data, .data], laidTests := true, laidLooks := .later }
def LiftThreeCardSaid : Prop := Claim7.holds Tryd.pinned (.plain (OpenSpec.ofChange liftThreeSpec)) liftThreeCard

/-- THE TIED CARD OF 'seepagelaw19.LiftNews'. -/
def liftNewsCard : Claim7 := { stood := { row := liftNewsRow, standIns := [], harness := (true, "d58a2b8d2ef762febafc7448a5ccc5b41ca205d32473076bfa97de823bfad49a"), looks := false }, kinds := [], alts := [], laidByText := true, laidKinds := [.data, .data], laidTests := true, laidLooks := .later }
def LiftNewsCardSaid : Prop := Claim7.holds Tryd.pinned (.plain (OpenSpec.ofChange liftNewsSpec)) liftNewsCard

/-- THE TIED CARD OF 'seepagelaw19.LiftAsks'. -/
def liftAsksCard : Claim7 := { stood := { row := liftAsksRow, standIns := [], harness := (true, "d58a2b8d2ef762febafc7448a5ccc5b41ca205d32473076bfa97de823bfad49a"), looks := false }, kinds := [], alts := [], laidByText := true, laidKinds := [.data, .data], laidTests := true, laidLooks := .later }
def LiftAsksCardSaid : Prop := Claim7.holds Tryd.pinned (.plain (OpenSpec.ofChange liftAsksSpec)) liftAsksCard

/-- THE TIED CARD OF 'seepagelaw19.LiftNil'. -/
def liftNilCard : Claim7 := { stood := { row := liftNilRow, standIns := [], harness := (true, "d58a2b8d2ef762febafc7448a5ccc5b41ca205d32473076bfa97de823bfad49a"), looks := false }, kinds := [], alts := [], laidByText := true, laidKinds := [.data, .data], laidTests := true, laidLooks := .later }
def LiftNilCardSaid : Prop := Claim7.holds Tryd.pinned (.plain (OpenSpec.ofChange liftNilSpec)) liftNilCard

/-- THE TIED CARD OF 'seepagelaw19.LiftCommon'. -/
def liftCommonCard : Claim7 := { stood := { row := liftCommonRow, standIns := [], harness := (true, "d58a2b8d2ef762febafc7448a5ccc5b41ca205d32473076bfa97de823bfad49a"), looks := false }, kinds := [], alts := [], laidByText := true, laidKinds := [.data, .data], laidTests := true, laidLooks := .later }
def LiftCommonCardSaid : Prop := Claim7.holds Tryd.pinned (.plain (OpenSpec.ofChange liftCommonSpec)) liftCommonCard

/-- THE TIED CARD OF 'seepagelaw19.LiftAbove'. -/
def liftAboveCard : Claim7 := { stood := { row := liftAboveRow, standIns := [], harness := (true, "d58a2b8d2ef762febafc7448a5ccc5b41ca205d32473076bfa97de823bfad49a"), looks := false }, kinds := [], alts := [], laidByText := true, laidKinds := [.data, .data], laidTests := true, laidLooks := .later }
def LiftAboveCardSaid : Prop := Claim7.holds Tryd.pinned (.plain (OpenSpec.ofChange liftAboveSpec)) liftAboveCard

/-- THE TIED CARD OF 'seepagelaw19.LiftClimbs'. -/
def liftClimbsCard : Claim7 := { stood := { row := liftClimbsRow, standIns := [], harness := (true, "d58a2b8d2ef762febafc7448a5ccc5b41ca205d32473076bfa97de823bfad49a"), looks := false }, kinds := [], alts := [], laidByText := true, laidKinds := [.data, .data], laidTests := true, laidLooks := .later }
def LiftClimbsCardSaid : Prop := Claim7.holds Tryd.pinned (.plain (OpenSpec.ofChange liftClimbsSpec)) liftClimbsCard

/-- THE TIED CARD OF 'seepagelaw19.LiftLoops'. -/
def liftLoopsCard : Claim7 := { stood := { row := liftLoopsRow, standIns := [], harness := (true, "d58a2b8d2ef762febafc7448a5ccc5b41ca205d32473076bfa97de823bfad49a"), looks := false }, kinds := [], alts := [], laidByText := true, laidKinds := [.data, .data], laidTests := true, laidLooks := .later }
def LiftLoopsCardSaid : Prop := Claim7.holds Tryd.pinned (.plain (OpenSpec.ofChange liftLoopsSpec)) liftLoopsCard

/-- THE SECOND FORM's CARD OF 'seepagelaw19.LiftSteps'. -/
def liftStepsUptoCard : Claim7 := { stood := { row := liftStepsUptoRow, standIns := [], harness := (true, "d58a2b8d2ef762febafc7448a5ccc5b41ca205d32473076bfa97de823bfad49a"), looks := false }, kinds := [], alts := [], laidByText := true, laidKinds := [.data, .data], laidTests := true, laidLooks := .later }
def LiftStepsUptoCardSaid : Prop := Claim7.holds Tryd.pinned (.plain (OpenSpec.upto liftStepsSpec)) liftStepsUptoCard

/-- THE SECOND FORM's CARD OF 'seepagelaw19.LiftThree'. -/
def liftThreeUptoCard : Claim7 := { stood := { row := liftThreeUptoRow, standIns := [], harness := (true, "d58a2b8d2ef762febafc7448a5ccc5b41ca205d32473076bfa97de823bfad49a"), looks := false }, kinds := [], alts := [], laidByText := true, laidKinds := [.data, .data], laidTests := true, laidLooks := .later }
def LiftThreeUptoCardSaid : Prop := Claim7.holds Tryd.pinned (.plain (OpenSpec.upto liftThreeSpec)) liftThreeUptoCard

/-- THE SECOND FORM's CARD OF 'seepagelaw19.LiftNews'. -/
def liftNewsUptoCard : Claim7 := { stood := { row := liftNewsUptoRow, standIns := [], harness := (true, "d58a2b8d2ef762febafc7448a5ccc5b41ca205d32473076bfa97de823bfad49a"), looks := false }, kinds := [], alts := [], laidByText := true, laidKinds := [.data, .data], laidTests := true, laidLooks := .later }
def LiftNewsUptoCardSaid : Prop := Claim7.holds Tryd.pinned (.plain (OpenSpec.upto liftNewsSpec)) liftNewsUptoCard

/-- THE SECOND FORM's CARD OF 'seepagelaw19.LiftAsks'. -/
def liftAsksUptoCard : Claim7 := { stood := { row := liftAsksUptoRow, standIns := [], harness := (true, "d58a2b8d2ef762febafc7448a5ccc5b41ca205d32473076bfa97de823bfad49a"), looks := false }, kinds := [], alts := [], laidByText := true, laidKinds := [.data, .data], laidTests := true, laidLooks := .later }
def LiftAsksUptoCardSaid : Prop := Claim7.holds Tryd.pinned (.plain (OpenSpec.upto liftAsksSpec)) liftAsksUptoCard

/-- THE SECOND FORM's CARD OF 'seepagelaw19.LiftNil'. -/
def liftNilUptoCard : Claim7 := { stood := { row := liftNilUptoRow, standIns := [], harness := (true, "d58a2b8d2ef762febafc7448a5ccc5b41ca205d32473076bfa97de823bfad49a"), looks := false }, kinds := [], alts := [], laidByText := true, laidKinds := [.data, .data], laidTests := true, laidLooks := .later }
def LiftNilUptoCardSaid : Prop := Claim7.holds Tryd.pinned (.plain (OpenSpec.upto liftNilSpec)) liftNilUptoCard

/-- THE SECOND FORM's CARD OF 'seepagelaw19.LiftCommon'. -/
def liftCommonUptoCard : Claim7 := { stood := { row := liftCommonUptoRow, standIns := [], harness := (true, "d58a2b8d2ef762febafc7448a5ccc5b41ca205d32473076bfa97de823bfad49a"), looks := false }, kinds := [], alts := [], laidByText := true, laidKinds := [.data, .data], laidTests := true, laidLooks := .later }
def LiftCommonUptoCardSaid : Prop := Claim7.holds Tryd.pinned (.plain (OpenSpec.upto liftCommonSpec)) liftCommonUptoCard

/-- THE SECOND FORM's CARD OF 'seepagelaw19.LiftAbove'. -/
def liftAboveUptoCard : Claim7 := { stood := { row := liftAboveUptoRow, standIns := [], harness := (true, "d58a2b8d2ef762febafc7448a5ccc5b41ca205d32473076bfa97de823bfad49a"), looks := false }, kinds := [], alts := [], laidByText := true, laidKinds := [.data, .data], laidTests := true, laidLooks := .later }
def LiftAboveUptoCardSaid : Prop := Claim7.holds Tryd.pinned (.plain (OpenSpec.upto liftAboveSpec)) liftAboveUptoCard

/-- THE SECOND FORM's CARD OF 'seepagelaw19.LiftClimbs'. -/
def liftClimbsUptoCard : Claim7 := { stood := { row := liftClimbsUptoRow, standIns := [], harness := (true, "d58a2b8d2ef762febafc7448a5ccc5b41ca205d32473076bfa97de823bfad49a"), looks := false }, kinds := [], alts := [], laidByText := true, laidKinds := [.data, .data], laidTests := true, laidLooks := .later }
def LiftClimbsUptoCardSaid : Prop := Claim7.holds Tryd.pinned (.plain (OpenSpec.upto liftClimbsSpec)) liftClimbsUptoCard

/-- THE SECOND FORM's CARD OF 'seepagelaw19.LiftLoops'. -/
def liftLoopsUptoCard : Claim7 := { stood := { row := liftLoopsUptoRow, standIns := [], harness := (true, "d58a2b8d2ef762febafc7448a5ccc5b41ca205d32473076bfa97de823bfad49a"), looks := false }, kinds := [], alts := [], laidByText := true, laidKinds := [.data, .data], laidTests := true, laidLooks := .later }
def LiftLoopsUptoCardSaid : Prop := Claim7.holds Tryd.pinned (.plain (OpenSpec.upto liftLoopsSpec)) liftLoopsUptoCard
end Rows
end Go.Proofs.YthpghcidocjanaaDoor

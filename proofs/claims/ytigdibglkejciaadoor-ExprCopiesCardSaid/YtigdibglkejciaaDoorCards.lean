/-
  DERIVED. GIVEN WITH THE SEED: THE CARDS: each row of YtigdibglkejciaaDoorRows.lean that lists a variable, with what it lists TIED to the program's text (the seventh form; the later family's looks); each row that meets fmt, with fmt's text TOLD by the authors' own Lean function (tested against real Go, not proved from fmt's source: count such statements apart). THE CARD IS WHAT COUNTS. Prove the row's statement (the work); the ties are given (YtigdibglkejciaaDoorTie.lean); close each card by the builder's one call (the guide's Derived/Test/ToyasCard.lean, 'card_holds'). Laid BY PROGRAM, IN A SANDBOX (cutbox-door.mjs). By AI agents, Wed Nov 11 2026. No macro, syntax, notation, axiom, sorry.
-/
import Derived.Test.YtigdibglkejciaaDoorRows
import GoSem.ClaimSeven
namespace Go.Proofs.YtigdibglkejciaaDoor
namespace Rows

/-- THE TIED CARD OF 'treillagelaw13.ExprWalks'. -/
def exprWalksCard : Claim7 := { stood := { row := exprWalksRow, standIns := [], harness := (true, "194ae98285aefaeb9a6311a02835564890af982016b411d692d1341a63184760"), looks := false }, kinds := [], alts := [], laidByText := true, laidKinds := [.data], laidTests := true, laidLooks := .later }
def ExprWalksCardSaid : Prop := Claim7.holds Tryd.pinned (.plain (OpenSpec.ofChange exprWalksSpec)) exprWalksCard

/-- THE TIED CARD OF 'treillagelaw13.ExprCopies'. -/
def exprCopiesCard : Claim7 := { stood := { row := exprCopiesRow, standIns := [], harness := (true, "194ae98285aefaeb9a6311a02835564890af982016b411d692d1341a63184760"), looks := false }, kinds := [], alts := [], laidByText := true, laidKinds := [.data], laidTests := true, laidLooks := .later }
def ExprCopiesCardSaid : Prop := Claim7.holds Tryd.pinned (.plain (OpenSpec.ofChange exprCopiesSpec)) exprCopiesCard

/-- THE TIED CARD OF 'treillagelaw13.ExprRights'. -/
def exprRightsCard : Claim7 := { stood := { row := exprRightsRow, standIns := [], harness := (true, "194ae98285aefaeb9a6311a02835564890af982016b411d692d1341a63184760"), looks := false }, kinds := [], alts := [], laidByText := true, laidKinds := [.data], laidTests := true, laidLooks := .later }
def ExprRightsCardSaid : Prop := Claim7.holds Tryd.pinned (.plain (OpenSpec.ofChange exprRightsSpec)) exprRightsCard

/-- THE SECOND FORM's CARD OF 'treillagelaw13.ExprWalks'. -/
def exprWalksUptoCard : Claim7 := { stood := { row := exprWalksUptoRow, standIns := [], harness := (true, "194ae98285aefaeb9a6311a02835564890af982016b411d692d1341a63184760"), looks := false }, kinds := [], alts := [], laidByText := true, laidKinds := [.data], laidTests := true, laidLooks := .later }
def ExprWalksUptoCardSaid : Prop := Claim7.holds Tryd.pinned (.plain (OpenSpec.upto exprWalksSpec)) exprWalksUptoCard

/-- THE SECOND FORM's CARD OF 'treillagelaw13.ExprCopies'. -/
def exprCopiesUptoCard : Claim7 := { stood := { row := exprCopiesUptoRow, standIns := [], harness := (true, "194ae98285aefaeb9a6311a02835564890af982016b411d692d1341a63184760"), looks := false }, kinds := [], alts := [], laidByText := true, laidKinds := [.data], laidTests := true, laidLooks := .later }
def ExprCopiesUptoCardSaid : Prop := Claim7.holds Tryd.pinned (.plain (OpenSpec.upto exprCopiesSpec)) exprCopiesUptoCard

/-- THE SECOND FORM's CARD OF 'treillagelaw13.ExprRights'. -/
def exprRightsUptoCard : Claim7 := { stood := { row := exprRightsUptoRow, standIns := [], harness := (true, "194ae98285aefaeb9a6311a02835564890af982016b411d692d1341a63184760"), looks := false }, kinds := [], alts := [], laidByText := true, laidKinds := [.data], laidTests := true, laidLooks := .later }
def ExprRightsUptoCardSaid : Prop := Claim7.holds Tryd.pinned (.plain (OpenSpec.upto exprRightsSpec)) exprRightsUptoCard
end Rows
end Go.Proofs.YtigdibglkejciaaDoor

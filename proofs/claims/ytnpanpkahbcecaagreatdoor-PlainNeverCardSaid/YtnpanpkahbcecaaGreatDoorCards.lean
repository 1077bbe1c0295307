/-
  DERIVED. GIVEN WITH THE SEED: THE CARDS: each row of YtnpanpkahbcecaaGreatDoorRows.lean that lists a variable, with what it lists TIED to the program's text (the seventh form; the later family's looks); each row that meets fmt, with fmt's text TOLD by the authors' own Lean function (tested against real Go, not proved from fmt's source: count such statements apart). THE CARD IS WHAT COUNTS. Prove the row's statement (the work); the ties are given (YtnpanpkahbcecaaGreatDoorTie.lean); close each card by the builder's one call (the guide's Derived/Test/ToyasCard.lean, 'card_holds'). Laid BY PROGRAM, IN A SANDBOX (cutbox-door.mjs). By AI agents, Wed Nov 11 2026. No macro, syntax, notation, axiom, sorry.
-/
import Derived.Test.YtnpanpkahbcecaaGreatDoorRows
import GoSem.ClaimSeven
namespace Go.Proofs.YtnpanpkahbcecaaGreatDoor
namespace Rows

/-- THE TIED CARD OF 'rosettelaw12.PlainSlowly'. -/
def plainSlowlyCard : Claim7 := { stood := { row := plainSlowlyRow, standIns := [], harness := (true, "e1de98a02a4d4aad21f2961eb145b6f6027b85f99ff613b819f2918e9db85a4b"), looks := false }, kinds := [], alts := [], laidByText := true, laidKinds := [.data, .data, .data], laidTests := true, laidLooks := .later }
def PlainSlowlyCardSaid : Prop := Claim7.holds Tryz.pinned (.plain (OpenSpec.ofChange plainSlowlySpec)) plainSlowlyCard

/-- THE TIED CARD OF 'rosettelaw12.PlainNever'. -/
def plainNeverCard : Claim7 := { stood := { row := plainNeverRow, standIns := [], harness := (true, "e1de98a02a4d4aad21f2961eb145b6f6027b85f99ff613b819f2918e9db85a4b"), looks := false }, kinds := [], alts := [], laidByText := true, laidKinds := [.data, .data, .data], laidTests := true, laidLooks := .later }
def PlainNeverCardSaid : Prop := Claim7.holds Tryz.pinned (.plain (OpenSpec.ofChange plainNeverSpec)) plainNeverCard

/-- THE TIED CARD OF 'rosettelaw12.PlainRing'. -/
def plainRingCard : Claim7 := { stood := { row := plainRingRow, standIns := [], harness := (true, "e1de98a02a4d4aad21f2961eb145b6f6027b85f99ff613b819f2918e9db85a4b"), looks := false }, kinds := [], alts := [], laidByText := true, laidKinds := [.data, .data, .data], laidTests := true, laidLooks := .later }
def PlainRingCardSaid : Prop := Claim7.holds Tryz.pinned (.plain (OpenSpec.ofChange plainRingSpec)) plainRingCard

/-- THE TIED CARD OF 'rosettelaw12.PlainNumbers'. -/
def plainNumbersCard : Claim7 := { stood := { row := plainNumbersRow, standIns := [], harness := (true, "e1de98a02a4d4aad21f2961eb145b6f6027b85f99ff613b819f2918e9db85a4b"), looks := false }, kinds := [], alts := [], laidByText := true, laidKinds := [.data, .data, .data], laidTests := true, laidLooks := .later }
def PlainNumbersCardSaid : Prop := Claim7.holds Tryz.pinned (.plain (OpenSpec.ofChange plainNumbersSpec)) plainNumbersCard

/-- THE TIED CARD OF 'rosettelaw12.PlainTimes'. -/
def plainTimesCard : Claim7 := { stood := { row := plainTimesRow, standIns := [], harness := (true, "e1de98a02a4d4aad21f2961eb145b6f6027b85f99ff613b819f2918e9db85a4b"), looks := false }, kinds := [], alts := [], laidByText := true, laidKinds := [.data, .data, .data], laidTests := true, laidLooks := .later }
def PlainTimesCardSaid : Prop := Claim7.holds Tryz.pinned (.plain (OpenSpec.ofChange plainTimesSpec)) plainTimesCard

/-- THE TIED CARD OF 'rosettelaw12.PlainKeeps'. -/
def plainKeepsCard : Claim7 := { stood := { row := plainKeepsRow, standIns := [], harness := (true, "e1de98a02a4d4aad21f2961eb145b6f6027b85f99ff613b819f2918e9db85a4b"), looks := false }, kinds := [], alts := [], laidByText := true, laidKinds := [.data, .data, .data], laidTests := true, laidLooks := .later }
def PlainKeepsCardSaid : Prop := Claim7.holds Tryz.pinned (.plain (OpenSpec.ofChange plainKeepsSpec)) plainKeepsCard

/-- THE TIED CARD OF 'rosettelaw28.MatchNumbers'. -/
def matchNumbersCard : Claim7 := { stood := { row := matchNumbersRow, standIns := [], harness := (true, "e1de98a02a4d4aad21f2961eb145b6f6027b85f99ff613b819f2918e9db85a4b"), looks := false }, kinds := [], alts := [], laidByText := true, laidKinds := [.data, .data, .data], laidTests := true, laidLooks := .later }
def MatchNumbersCardSaid : Prop := Claim7.holds Tryz.pinned (.plain (OpenSpec.ofChange matchNumbersSpec)) matchNumbersCard

/-- THE TIED CARD OF 'rosettelaw28.MatchTells'. -/
def matchTellsCard : Claim7 := { stood := { row := matchTellsRow, standIns := [], harness := (true, "e1de98a02a4d4aad21f2961eb145b6f6027b85f99ff613b819f2918e9db85a4b"), looks := false }, kinds := [], alts := [], laidByText := true, laidKinds := [.data, .data, .data], laidTests := true, laidLooks := .later }
def MatchTellsCardSaid : Prop := Claim7.holds Tryz.pinned (.plain (OpenSpec.ofChange matchTellsSpec)) matchTellsCard

/-- THE TIED CARD OF 'rosettelaw28.MatchParts'. -/
def matchPartsCard : Claim7 := { stood := { row := matchPartsRow, standIns := [], harness := (true, "e1de98a02a4d4aad21f2961eb145b6f6027b85f99ff613b819f2918e9db85a4b"), looks := false }, kinds := [], alts := [], laidByText := true, laidKinds := [.data, .data, .data], laidTests := true, laidLooks := .later }
def MatchPartsCardSaid : Prop := Claim7.holds Tryz.pinned (.plain (OpenSpec.ofChange matchPartsSpec)) matchPartsCard

/-- THE TIED CARD OF 'rosettelaw28.MatchTurns'. -/
def matchTurnsCard : Claim7 := { stood := { row := matchTurnsRow, standIns := [], harness := (true, "e1de98a02a4d4aad21f2961eb145b6f6027b85f99ff613b819f2918e9db85a4b"), looks := false }, kinds := [], alts := [], laidByText := true, laidKinds := [.data, .data, .data], laidTests := true, laidLooks := .later }
def MatchTurnsCardSaid : Prop := Claim7.holds Tryz.pinned (.plain (OpenSpec.ofChange matchTurnsSpec)) matchTurnsCard

/-- THE TIED CARD OF 'rosettelaw28.MatchWhere'. -/
def matchWhereCard : Claim7 := { stood := { row := matchWhereRow, standIns := [], harness := (true, "e1de98a02a4d4aad21f2961eb145b6f6027b85f99ff613b819f2918e9db85a4b"), looks := false }, kinds := [], alts := [], laidByText := true, laidKinds := [.data, .data, .data], laidTests := true, laidLooks := .later }
def MatchWhereCardSaid : Prop := Claim7.holds Tryz.pinned (.plain (OpenSpec.ofChange matchWhereSpec)) matchWhereCard

/-- THE TIED CARD OF 'rosettelaw28.MatchSpares'. -/
def matchSparesCard : Claim7 := { stood := { row := matchSparesRow, standIns := [], harness := (true, "e1de98a02a4d4aad21f2961eb145b6f6027b85f99ff613b819f2918e9db85a4b"), looks := false }, kinds := [], alts := [], laidByText := true, laidKinds := [.data, .data, .data], laidTests := true, laidLooks := .later }
def MatchSparesCardSaid : Prop := Claim7.holds Tryz.pinned (.plain (OpenSpec.ofChange matchSparesSpec)) matchSparesCard

/-- THE SECOND FORM's CARD OF 'rosettelaw12.PlainSlowly'. -/
def plainSlowlyUptoCard : Claim7 := { stood := { row := plainSlowlyUptoRow, standIns := [], harness := (true, "e1de98a02a4d4aad21f2961eb145b6f6027b85f99ff613b819f2918e9db85a4b"), looks := false }, kinds := [], alts := [], laidByText := true, laidKinds := [.data, .data, .data], laidTests := true, laidLooks := .later }
def PlainSlowlyUptoCardSaid : Prop := Claim7.holds Tryz.pinned (.plain (OpenSpec.upto plainSlowlySpec)) plainSlowlyUptoCard

/-- THE SECOND FORM's CARD OF 'rosettelaw12.PlainNever'. -/
def plainNeverUptoCard : Claim7 := { stood := { row := plainNeverUptoRow, standIns := [], harness := (true, "e1de98a02a4d4aad21f2961eb145b6f6027b85f99ff613b819f2918e9db85a4b"), looks := false }, kinds := [], alts := [], laidByText := true, laidKinds := [.data, .data, .data], laidTests := true, laidLooks := .later }
def PlainNeverUptoCardSaid : Prop := Claim7.holds Tryz.pinned (.plain (OpenSpec.upto plainNeverSpec)) plainNeverUptoCard

/-- THE SECOND FORM's CARD OF 'rosettelaw12.PlainRing'. -/
def plainRingUptoCard : Claim7 := { stood := { row := plainRingUptoRow, standIns := [], harness := (true, "e1de98a02a4d4aad21f2961eb145b6f6027b85f99ff613b819f2918e9db85a4b"), looks := false }, kinds := [], alts := [], laidByText := true, laidKinds := [.data, .data, .data], laidTests := true, laidLooks := .later }
def PlainRingUptoCardSaid : Prop := Claim7.holds Tryz.pinned (.plain (OpenSpec.upto plainRingSpec)) plainRingUptoCard

/-- THE SECOND FORM's CARD OF 'rosettelaw12.PlainNumbers'. -/
def plainNumbersUptoCard : Claim7 := { stood := { row := plainNumbersUptoRow, standIns := [], harness := (true, "e1de98a02a4d4aad21f2961eb145b6f6027b85f99ff613b819f2918e9db85a4b"), looks := false }, kinds := [], alts := [], laidByText := true, laidKinds := [.data, .data, .data], laidTests := true, laidLooks := .later }
def PlainNumbersUptoCardSaid : Prop := Claim7.holds Tryz.pinned (.plain (OpenSpec.upto plainNumbersSpec)) plainNumbersUptoCard

/-- THE SECOND FORM's CARD OF 'rosettelaw12.PlainTimes'. -/
def plainTimesUptoCard : Claim7 := { stood := { row := plainTimesUptoRow, standIns := [], harness := (true, "e1de98a02a4d4aad21f2961eb145b6f6027b85f99ff613b819f2918e9db85a4b"), looks := false }, kinds := [], alts := [], laidByText := true, laidKinds := [.data, .data, .data], laidTests := true, laidLooks := .later }
def PlainTimesUptoCardSaid : Prop := Claim7.holds Tryz.pinned (.plain (OpenSpec.upto plainTimesSpec)) plainTimesUptoCard

/-- THE SECOND FORM's CARD OF 'rosettelaw12.PlainKeeps'. -/
def plainKeepsUptoCard : Claim7 := { stood := { row := plainKeepsUptoRow, standIns := [], harness := (true, "e1de98a02a4d4aad21f2961eb145b6f6027b85f99ff613b819f2918e9db85a4b"), looks := false }, kinds := [], alts := [], laidByText := true, laidKinds := [.data, .data, .data], laidTests := true, laidLooks := .later }
def PlainKeepsUptoCardSaid : Prop := Claim7.holds Tryz.pinned (.plain (OpenSpec.upto plainKeepsSpec)) plainKeepsUptoCard

/-- THE SECOND FORM's CARD OF 'rosettelaw28.MatchNumbers'. -/
def matchNumbersUptoCard : Claim7 := { stood := { row := matchNumbersUptoRow, standIns := [], harness := (true, "e1de98a02a4d4aad21f2961eb145b6f6027b85f99ff613b819f2918e9db85a4b"), looks := false }, kinds := [], alts := [], laidByText := true, laidKinds := [.data, .data, .data], laidTests := true, laidLooks := .later }
def MatchNumbersUptoCardSaid : Prop := Claim7.holds Tryz.pinned (.plain (OpenSpec.upto matchNumbersSpec)) matchNumbersUptoCard

/-- THE SECOND FORM's CARD OF 'rosettelaw28.MatchTells'. -/
def matchTellsUptoCard : Claim7 := { stood := { row := matchTellsUptoRow, standIns := [], harness := (true, "e1de98a02a4d4aad21f2961eb145b6f6027b85f99ff613b819f2918e9db85a4b"), looks := false }, kinds := [], alts := [], laidByText := true, laidKinds := [.data, .data, .data], laidTests := true, laidLooks := .later }
def MatchTellsUptoCardSaid : Prop := Claim7.holds Tryz.pinned (.plain (OpenSpec.upto matchTellsSpec)) matchTellsUptoCard

/-- THE SECOND FORM's CARD OF 'rosettelaw28.MatchParts'. -/
def matchPartsUptoCard : Claim7 := { stood := { row := matchPartsUptoRow, standIns := [], harness := (true, "e1de98a02a4d4aad21f2961eb145b6f6027b85f99ff613b819f2918e9db85a4b"), looks := false }, kinds := [], alts := [], laidByText := true, laidKinds := [.data, .data, .data], laidTests := true, laidLooks := .later }
def MatchPartsUptoCardSaid : Prop := Claim7.holds Tryz.pinned (.plain (OpenSpec.upto matchPartsSpec)) matchPartsUptoCard

/-- THE SECOND FORM's CARD OF 'rosettelaw28.MatchTurns'. -/
def matchTurnsUptoCard : Claim7 := { stood := { row := matchTurnsUptoRow, standIns := [], harness := (true, "e1de98a02a4d4aad21f2961eb145b6f6027b85f99ff613b819f2918e9db85a4b"), looks := false }, kinds := [], alts := [], laidByText := true, laidKinds := [.data, .data, .data], laidTests := true, laidLooks := .later }
def MatchTurnsUptoCardSaid : Prop := Claim7.holds Tryz.pinned (.plain (OpenSpec.upto matchTurnsSpec)) matchTurnsUptoCard

/-- THE SECOND FORM's CARD OF 'rosettelaw28.MatchWhere'. -/
def matchWhereUptoCard : Claim7 := { stood := { row := matchWhereUptoRow, standIns := [], harness := (true, "e1de98a02a4d4aad21f2961eb145b6f6027b85f99ff613b819f2918e9db85a4b"), looks := false }, kinds := [], alts := [], laidByText := true, laidKinds := [.data, .data, .data], laidTests := true, laidLooks := .later }
def MatchWhereUptoCardSaid : Prop := Claim7.holds Tryz.pinned (.plain (OpenSpec.upto matchWhereSpec)) matchWhereUptoCard

/-- THE SECOND FORM's CARD OF 'rosettelaw28.MatchSpares'. -/
def matchSparesUptoCard : Claim7 := { stood := { row := matchSparesUptoRow, standIns := [], harness := (true, "e1de98a02a4d4aad21f2961eb145b6f6027b85f99ff613b819f2918e9db85a4b"), looks := false }, kinds := [], alts := [], laidByText := true, laidKinds := [.data, .data, .data], laidTests := true, laidLooks := .later }
def MatchSparesUptoCardSaid : Prop := Claim7.holds Tryz.pinned (.plain (OpenSpec.upto matchSparesSpec)) matchSparesUptoCard
end Rows
end Go.Proofs.YtnpanpkahbcecaaGreatDoor

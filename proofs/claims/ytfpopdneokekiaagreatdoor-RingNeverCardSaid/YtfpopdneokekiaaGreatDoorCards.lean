/-
  DERIVED. GIVEN WITH THE SEED: THE CARDS: each row of YtfpopdneokekiaaGreatDoorRows.lean that lists a variable, with what it lists TIED to the program's text (the seventh form; the later family's looks); each row that meets fmt, with fmt's text TOLD by the authors' own Lean function (tested against real Go, not proved from fmt's source: count such statements apart). THE CARD IS WHAT COUNTS. Prove the row's statement (the work); the ties are given (YtfpopdneokekiaaGreatDoorTie.lean); close each card by the builder's one call (the guide's Derived/Test/ToyasCard.lean, 'card_holds'). Laid BY PROGRAM, IN A SANDBOX (cutbox-door.mjs). By AI agents, Wed Nov 11 2026. No macro, syntax, notation, axiom, sorry.
-/
import Derived.Test.YtfpopdneokekiaaGreatDoorRows
import GoSem.ClaimSeven
namespace Go.Proofs.YtfpopdneokekiaaGreatDoor
namespace Rows

/-- THE TIED CARD OF 'rosettelaw11.RingPlain'. -/
def ringPlainCard : Claim7 := { stood := { row := ringPlainRow, standIns := [], harness := (true, "c5e8147657031ba665009a8e5c32a585759c67223a3794e652e2b1484bbab2f4"), looks := false }, kinds := [], alts := [], laidByText := true, laidKinds := [.data, .data, .data], laidTests := true, laidLooks := .later }
def RingPlainCardSaid : Prop := Claim7.holds Tryz.pinned (.plain (OpenSpec.ofChange ringPlainSpec)) ringPlainCard

/-- THE TIED CARD OF 'rosettelaw11.RingTrue'. -/
def ringTrueCard : Claim7 := { stood := { row := ringTrueRow, standIns := [], harness := (true, "c5e8147657031ba665009a8e5c32a585759c67223a3794e652e2b1484bbab2f4"), looks := false }, kinds := [], alts := [], laidByText := true, laidKinds := [.data, .data, .data], laidTests := true, laidLooks := .later }
def RingTrueCardSaid : Prop := Claim7.holds Tryz.pinned (.plain (OpenSpec.ofChange ringTrueSpec)) ringTrueCard

/-- THE TIED CARD OF 'rosettelaw11.RingLaws'. -/
def ringLawsCard : Claim7 := { stood := { row := ringLawsRow, standIns := [], harness := (true, "c5e8147657031ba665009a8e5c32a585759c67223a3794e652e2b1484bbab2f4"), looks := false }, kinds := [], alts := [], laidByText := true, laidKinds := [.data, .data, .data], laidTests := true, laidLooks := .later }
def RingLawsCardSaid : Prop := Claim7.holds Tryz.pinned (.plain (OpenSpec.ofChange ringLawsSpec)) ringLawsCard

/-- THE TIED CARD OF 'rosettelaw11.RingNever'. -/
def ringNeverCard : Claim7 := { stood := { row := ringNeverRow, standIns := [], harness := (true, "c5e8147657031ba665009a8e5c32a585759c67223a3794e652e2b1484bbab2f4"), looks := false }, kinds := [], alts := [], laidByText := true, laidKinds := [.data, .data, .data], laidTests := true, laidLooks := .later }
def RingNeverCardSaid : Prop := Claim7.holds Tryz.pinned (.plain (OpenSpec.ofChange ringNeverSpec)) ringNeverCard

/-- THE TIED CARD OF 'rosettelaw11.RingKeeps'. -/
def ringKeepsCard : Claim7 := { stood := { row := ringKeepsRow, standIns := [], harness := (true, "c5e8147657031ba665009a8e5c32a585759c67223a3794e652e2b1484bbab2f4"), looks := false }, kinds := [], alts := [], laidByText := true, laidKinds := [.data, .data, .data], laidTests := true, laidLooks := .later }
def RingKeepsCardSaid : Prop := Claim7.holds Tryz.pinned (.plain (OpenSpec.ofChange ringKeepsSpec)) ringKeepsCard

/-- THE TIED CARD OF 'rosettelaw11.RingBounds'. -/
def ringBoundsCard : Claim7 := { stood := { row := ringBoundsRow, standIns := [], harness := (true, "c5e8147657031ba665009a8e5c32a585759c67223a3794e652e2b1484bbab2f4"), looks := false }, kinds := [], alts := [], laidByText := true, laidKinds := [.data, .data, .data], laidTests := true, laidLooks := .later }
def RingBoundsCardSaid : Prop := Claim7.holds Tryz.pinned (.plain (OpenSpec.ofChange ringBoundsSpec)) ringBoundsCard

/-- THE TIED CARD OF 'rosettelaw11.RingTells'. -/
def ringTellsCard : Claim7 := { stood := { row := ringTellsRow, standIns := [], harness := (true, "c5e8147657031ba665009a8e5c32a585759c67223a3794e652e2b1484bbab2f4"), looks := false }, kinds := [], alts := [], laidByText := true, laidKinds := [.data, .data, .data], laidTests := true, laidLooks := .later }
def RingTellsCardSaid : Prop := Claim7.holds Tryz.pinned (.plain (OpenSpec.ofChange ringTellsSpec)) ringTellsCard

/-- THE SECOND FORM's CARD OF 'rosettelaw11.RingPlain'. -/
def ringPlainUptoCard : Claim7 := { stood := { row := ringPlainUptoRow, standIns := [], harness := (true, "c5e8147657031ba665009a8e5c32a585759c67223a3794e652e2b1484bbab2f4"), looks := false }, kinds := [], alts := [], laidByText := true, laidKinds := [.data, .data, .data], laidTests := true, laidLooks := .later }
def RingPlainUptoCardSaid : Prop := Claim7.holds Tryz.pinned (.plain (OpenSpec.upto ringPlainSpec)) ringPlainUptoCard

/-- THE SECOND FORM's CARD OF 'rosettelaw11.RingTrue'. -/
def ringTrueUptoCard : Claim7 := { stood := { row := ringTrueUptoRow, standIns := [], harness := (true, "c5e8147657031ba665009a8e5c32a585759c67223a3794e652e2b1484bbab2f4"), looks := false }, kinds := [], alts := [], laidByText := true, laidKinds := [.data, .data, .data], laidTests := true, laidLooks := .later }
def RingTrueUptoCardSaid : Prop := Claim7.holds Tryz.pinned (.plain (OpenSpec.upto ringTrueSpec)) ringTrueUptoCard

/-- THE SECOND FORM's CARD OF 'rosettelaw11.RingLaws'. -/
def ringLawsUptoCard : Claim7 := { stood := { row := ringLawsUptoRow, standIns := [], harness := (true, "c5e8147657031ba665009a8e5c32a585759c67223a3794e652e2b1484bbab2f4"), looks := false }, kinds := [], alts := [], laidByText := true, laidKinds := [.data, .data, .data], laidTests := true, laidLooks := .later }
def RingLawsUptoCardSaid : Prop := Claim7.holds Tryz.pinned (.plain (OpenSpec.upto ringLawsSpec)) ringLawsUptoCard

/-- THE SECOND FORM's CARD OF 'rosettelaw11.RingNever'. -/
def ringNeverUptoCard : Claim7 := { stood := { row := ringNeverUptoRow, standIns := [], harness := (true, "c5e8147657031ba665009a8e5c32a585759c67223a3794e652e2b1484bbab2f4"), looks := false }, kinds := [], alts := [], laidByText := true, laidKinds := [.data, .data, .data], laidTests := true, laidLooks := .later }
def RingNeverUptoCardSaid : Prop := Claim7.holds Tryz.pinned (.plain (OpenSpec.upto ringNeverSpec)) ringNeverUptoCard

/-- THE SECOND FORM's CARD OF 'rosettelaw11.RingKeeps'. -/
def ringKeepsUptoCard : Claim7 := { stood := { row := ringKeepsUptoRow, standIns := [], harness := (true, "c5e8147657031ba665009a8e5c32a585759c67223a3794e652e2b1484bbab2f4"), looks := false }, kinds := [], alts := [], laidByText := true, laidKinds := [.data, .data, .data], laidTests := true, laidLooks := .later }
def RingKeepsUptoCardSaid : Prop := Claim7.holds Tryz.pinned (.plain (OpenSpec.upto ringKeepsSpec)) ringKeepsUptoCard

/-- THE SECOND FORM's CARD OF 'rosettelaw11.RingBounds'. -/
def ringBoundsUptoCard : Claim7 := { stood := { row := ringBoundsUptoRow, standIns := [], harness := (true, "c5e8147657031ba665009a8e5c32a585759c67223a3794e652e2b1484bbab2f4"), looks := false }, kinds := [], alts := [], laidByText := true, laidKinds := [.data, .data, .data], laidTests := true, laidLooks := .later }
def RingBoundsUptoCardSaid : Prop := Claim7.holds Tryz.pinned (.plain (OpenSpec.upto ringBoundsSpec)) ringBoundsUptoCard

/-- THE SECOND FORM's CARD OF 'rosettelaw11.RingTells'. -/
def ringTellsUptoCard : Claim7 := { stood := { row := ringTellsUptoRow, standIns := [], harness := (true, "c5e8147657031ba665009a8e5c32a585759c67223a3794e652e2b1484bbab2f4"), looks := false }, kinds := [], alts := [], laidByText := true, laidKinds := [.data, .data, .data], laidTests := true, laidLooks := .later }
def RingTellsUptoCardSaid : Prop := Claim7.holds Tryz.pinned (.plain (OpenSpec.upto ringTellsSpec)) ringTellsUptoCard
end Rows
end Go.Proofs.YtfpopdneokekiaaGreatDoor

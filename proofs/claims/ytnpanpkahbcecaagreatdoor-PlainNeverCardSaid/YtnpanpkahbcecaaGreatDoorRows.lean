/-
  NARROWER THAN 'FOR EVERY INPUT', by the rows' own cells (each row's printed sentence says how): PlainSlowly: laid · PlainNever: laid · PlainRing: laid · PlainNumbers: laid · PlainTimes: laid · PlainKeeps: laid · MatchNumbers: laid · MatchTells: laid · MatchParts: laid · MatchTurns: laid · MatchWhere: laid · MatchSpares: laid.
  DERIVED. THE GIVEN ROWS OF THIS SEAT. 12 by the template 'for every input the law returns true; each argument reads behind the call as it read before'; 0 by the template 'total and deterministic' (their statements: YtnpanpkahbcecaaGreatDoorTotals.lean).
  GIVEN WITH THE SEED: the statements are not yours to turn. If you find one false, say at which input.
  Laid BY PROGRAM, IN A SANDBOX (cutbox-rows.mjs): the forced cells as the released guide's own fill.sh prints them over the translation f2d9be1c16f41144… (all of the seat's roots in one cut). By AI agents, Wed Nov 11 2026. No macro, syntax, notation, axiom, sorry.
-/
import Derived.Test.YtnpanpkahbcecaaGreatDoorChecked
import GoSem.Claim
import GoSem.ClaimJoined
import GoSem.ClaimMapViews
import Derived.JoinedTies
import Derived.KernelRfl
namespace Go.Proofs.YtnpanpkahbcecaaGreatDoor
/- THE CELL 'sum', in the pinned program and in every row, IS THE sha256 OF THE DUMP (.gsa) THAT YtnpanpkahbcecaaGreatDoorProg.lean LOADS. Nothing in Lean hashes anything: it is a label: what it is worth is what the hold of that sum in a sandbox is worth. -/
noncomputable def Tryz.pinned : Pinned := { name := "ytnpanpkahbcecaagreatdoor", sum := "f2d9be1c16f4114476a43315a073f026b3f6639a47e46b645aecf116147a0aa2", checked := Tryz.checked }
namespace Rows
def none {H : Type} : Left H := { results := [], args := [] }

/- WHAT THE LISTED PACKAGE-LEVEL VARIABLES READ AS WHEN THE CALL BEGINS. Each datum BY PROGRAM (the guide's laid-datum.mjs) off the statement by which the dump's own 'gosem.cut.vars' lays the variable. In a bare row this is a premise. The card (YtnpanpkahbcecaaGreatDoorCards.lean) ties it to the program's text. -/
def laid_math_bits_deBruijn32tab {H : Type} : DataW H := .agg [.lit (.int .u8 0), .lit (.int .u8 1), .lit (.int .u8 28), .lit (.int .u8 2), .lit (.int .u8 29), .lit (.int .u8 14), .lit (.int .u8 24), .lit (.int .u8 3), .lit (.int .u8 30), .lit (.int .u8 22), .lit (.int .u8 20), .lit (.int .u8 15), .lit (.int .u8 25), .lit (.int .u8 17), .lit (.int .u8 4), .lit (.int .u8 8), .lit (.int .u8 31), .lit (.int .u8 27), .lit (.int .u8 13), .lit (.int .u8 23), .lit (.int .u8 21), .lit (.int .u8 19), .lit (.int .u8 16), .lit (.int .u8 7), .lit (.int .u8 26), .lit (.int .u8 12), .lit (.int .u8 18), .lit (.int .u8 6), .lit (.int .u8 11), .lit (.int .u8 5), .lit (.int .u8 10), .lit (.int .u8 9)]
def laid_math_bits_deBruijn64tab {H : Type} : DataW H := .agg [.lit (.int .u8 0), .lit (.int .u8 1), .lit (.int .u8 56), .lit (.int .u8 2), .lit (.int .u8 57), .lit (.int .u8 49), .lit (.int .u8 28), .lit (.int .u8 3), .lit (.int .u8 61), .lit (.int .u8 58), .lit (.int .u8 42), .lit (.int .u8 50), .lit (.int .u8 38), .lit (.int .u8 29), .lit (.int .u8 17), .lit (.int .u8 4), .lit (.int .u8 62), .lit (.int .u8 47), .lit (.int .u8 59), .lit (.int .u8 36), .lit (.int .u8 45), .lit (.int .u8 43), .lit (.int .u8 51), .lit (.int .u8 22), .lit (.int .u8 53), .lit (.int .u8 39), .lit (.int .u8 33), .lit (.int .u8 30), .lit (.int .u8 24), .lit (.int .u8 18), .lit (.int .u8 12), .lit (.int .u8 5), .lit (.int .u8 63), .lit (.int .u8 55), .lit (.int .u8 48), .lit (.int .u8 27), .lit (.int .u8 60), .lit (.int .u8 41), .lit (.int .u8 37), .lit (.int .u8 16), .lit (.int .u8 46), .lit (.int .u8 35), .lit (.int .u8 44), .lit (.int .u8 21), .lit (.int .u8 52), .lit (.int .u8 32), .lit (.int .u8 23), .lit (.int .u8 11), .lit (.int .u8 54), .lit (.int .u8 26), .lit (.int .u8 40), .lit (.int .u8 15), .lit (.int .u8 34), .lit (.int .u8 20), .lit (.int .u8 31), .lit (.int .u8 10), .lit (.int .u8 25), .lit (.int .u8 14), .lit (.int .u8 19), .lit (.int .u8 9), .lit (.int .u8 13), .lit (.int .u8 8), .lit (.int .u8 7), .lit (.int .u8 6)]
def laid_rosette_shuffle_nibble {H : Type} : DataW H := .agg [.lit (.int .u8 0), .lit (.int .u8 8), .lit (.int .u8 4), .lit (.int .u8 12), .lit (.int .u8 2), .lit (.int .u8 10), .lit (.int .u8 6), .lit (.int .u8 14), .lit (.int .u8 1), .lit (.int .u8 9), .lit (.int .u8 5), .lit (.int .u8 13), .lit (.int .u8 3), .lit (.int .u8 11), .lit (.int .u8 7), .lit (.int .u8 15)]

/-- 'rosettelaw12.PlainSlowly': WHATEVER THE INPUT: true; the input reads as it did. -/
def plainSlowlySpec : ChangeSpec := { name := "plainSlowly", fn := fun _ => fun
  | [d1, d2] => { results := [.lit (.bool true)], args := [d1, d2] }
  | _ => none }
def plainSlowlyRow : OpenClaim := { program := "ytnpanpkahbcecaagreatdoor", sum := "f2d9be1c16f4114476a43315a073f026b3f6639a47e46b645aecf116147a0aa2", func := "rosette/rosettelaw12.PlainSlowly", spec := "plainSlowly", inPlace := ["math.Float64bits", "math.Float64frombits", "math.sqrt", "math.FMA", "math/bits.Add64", "math/bits.Sub64", "math.RoundToEven"], recurses := true, named := ["math/bits.deBruijn32tab", "math/bits.deBruijn64tab", "math/bits.divideError", "math/bits.overflowError", "rosette/shuffle.nibble"], apart := false, laid := [("math/bits.deBruijn32tab", laid_math_bits_deBruijn32tab), ("math/bits.deBruijn64tab", laid_math_bits_deBruijn64tab), ("rosette/shuffle.nibble", laid_rosette_shuffle_nibble)] }
def PlainSlowlySaid : Prop := plainSlowlyRow.holds Tryz.pinned (OpenSpec.ofChange plainSlowlySpec)

/-- ITS FALSE NEIGHBOUR: 'it returns false'. Refute it at one input. -/
def plainSlowlyWrong : ChangeSpec := { name := "plainSlowly", fn := fun _ => fun
  | [d1, d2] => { results := [.lit (.bool false)], args := [d1, d2] }
  | _ => none }
def PlainSlowlyWrongFalsely : Prop := plainSlowlyRow.holds Tryz.pinned (OpenSpec.ofChange plainSlowlyWrong)

/-- 'rosettelaw12.PlainNever': WHATEVER THE INPUT: true; the input reads as it did. -/
def plainNeverSpec : ChangeSpec := { name := "plainNever", fn := fun _ => fun
  | [d1, d2] => { results := [.lit (.bool true)], args := [d1, d2] }
  | _ => none }
def plainNeverRow : OpenClaim := { program := "ytnpanpkahbcecaagreatdoor", sum := "f2d9be1c16f4114476a43315a073f026b3f6639a47e46b645aecf116147a0aa2", func := "rosette/rosettelaw12.PlainNever", spec := "plainNever", inPlace := ["math.Float64bits", "math.Float64frombits", "math.sqrt", "math.FMA", "math/bits.Add64", "math/bits.Sub64", "math.RoundToEven"], named := ["math/bits.deBruijn32tab", "math/bits.deBruijn64tab", "math/bits.divideError", "math/bits.overflowError", "rosette/shuffle.nibble"], apart := false, laid := [("math/bits.deBruijn32tab", laid_math_bits_deBruijn32tab), ("math/bits.deBruijn64tab", laid_math_bits_deBruijn64tab), ("rosette/shuffle.nibble", laid_rosette_shuffle_nibble)] }
def PlainNeverSaid : Prop := plainNeverRow.holds Tryz.pinned (OpenSpec.ofChange plainNeverSpec)

/-- ITS FALSE NEIGHBOUR: 'it returns false'. Refute it at one input. -/
def plainNeverWrong : ChangeSpec := { name := "plainNever", fn := fun _ => fun
  | [d1, d2] => { results := [.lit (.bool false)], args := [d1, d2] }
  | _ => none }
def PlainNeverWrongFalsely : Prop := plainNeverRow.holds Tryz.pinned (OpenSpec.ofChange plainNeverWrong)

/-- 'rosettelaw12.PlainRing': WHATEVER THE INPUT: true; the input reads as it did. -/
def plainRingSpec : ChangeSpec := { name := "plainRing", fn := fun _ => fun
  | [d1, d2, d3, d4] => { results := [.lit (.bool true)], args := [d1, d2, d3, d4] }
  | _ => none }
def plainRingRow : OpenClaim := { program := "ytnpanpkahbcecaagreatdoor", sum := "f2d9be1c16f4114476a43315a073f026b3f6639a47e46b645aecf116147a0aa2", func := "rosette/rosettelaw12.PlainRing", spec := "plainRing", inPlace := ["math.Float64bits", "math.Float64frombits", "math.sqrt", "math.FMA", "math/bits.Add64", "math/bits.Sub64", "math.RoundToEven"], named := ["math/bits.deBruijn32tab", "math/bits.deBruijn64tab", "math/bits.divideError", "math/bits.overflowError", "rosette/shuffle.nibble"], apart := false, laid := [("math/bits.deBruijn32tab", laid_math_bits_deBruijn32tab), ("math/bits.deBruijn64tab", laid_math_bits_deBruijn64tab), ("rosette/shuffle.nibble", laid_rosette_shuffle_nibble)] }
def PlainRingSaid : Prop := plainRingRow.holds Tryz.pinned (OpenSpec.ofChange plainRingSpec)

/-- ITS FALSE NEIGHBOUR: 'it returns false'. Refute it at one input. -/
def plainRingWrong : ChangeSpec := { name := "plainRing", fn := fun _ => fun
  | [d1, d2, d3, d4] => { results := [.lit (.bool false)], args := [d1, d2, d3, d4] }
  | _ => none }
def PlainRingWrongFalsely : Prop := plainRingRow.holds Tryz.pinned (OpenSpec.ofChange plainRingWrong)

/-- 'rosettelaw12.PlainNumbers': WHATEVER THE INPUT: true; the input reads as it did. -/
def plainNumbersSpec : ChangeSpec := { name := "plainNumbers", fn := fun _ => fun
  | [] => { results := [.lit (.bool true)], args := [] }
  | _ => none }
def plainNumbersRow : OpenClaim := { program := "ytnpanpkahbcecaagreatdoor", sum := "f2d9be1c16f4114476a43315a073f026b3f6639a47e46b645aecf116147a0aa2", func := "rosette/rosettelaw12.PlainNumbers", spec := "plainNumbers", inPlace := ["math.Float64bits", "math.Float64frombits", "math.sqrt", "math.FMA", "math/bits.Add64", "math/bits.Sub64", "math.RoundToEven"], named := ["math/bits.deBruijn32tab", "math/bits.deBruijn64tab", "math/bits.divideError", "math/bits.overflowError", "rosette/shuffle.nibble"], apart := false, laid := [("math/bits.deBruijn32tab", laid_math_bits_deBruijn32tab), ("math/bits.deBruijn64tab", laid_math_bits_deBruijn64tab), ("rosette/shuffle.nibble", laid_rosette_shuffle_nibble)] }
def PlainNumbersSaid : Prop := plainNumbersRow.holds Tryz.pinned (OpenSpec.ofChange plainNumbersSpec)

/-- ITS FALSE NEIGHBOUR: 'it returns false'. Refute it at one input. -/
def plainNumbersWrong : ChangeSpec := { name := "plainNumbers", fn := fun _ => fun
  | [] => { results := [.lit (.bool false)], args := [] }
  | _ => none }
def PlainNumbersWrongFalsely : Prop := plainNumbersRow.holds Tryz.pinned (OpenSpec.ofChange plainNumbersWrong)

/-- 'rosettelaw12.PlainTimes': WHATEVER THE INPUT: true; the input reads as it did. -/
def plainTimesSpec : ChangeSpec := { name := "plainTimes", fn := fun _ => fun
  | [d1, d2] => { results := [.lit (.bool true)], args := [d1, d2] }
  | _ => none }
def plainTimesRow : OpenClaim := { program := "ytnpanpkahbcecaagreatdoor", sum := "f2d9be1c16f4114476a43315a073f026b3f6639a47e46b645aecf116147a0aa2", func := "rosette/rosettelaw12.PlainTimes", spec := "plainTimes", inPlace := ["math.Float64bits", "math.Float64frombits", "math.sqrt", "math.FMA", "math/bits.Add64", "math/bits.Sub64", "math.RoundToEven"], recurses := true, named := ["math/bits.deBruijn32tab", "math/bits.deBruijn64tab", "math/bits.divideError", "math/bits.overflowError", "rosette/shuffle.nibble"], apart := false, laid := [("math/bits.deBruijn32tab", laid_math_bits_deBruijn32tab), ("math/bits.deBruijn64tab", laid_math_bits_deBruijn64tab), ("rosette/shuffle.nibble", laid_rosette_shuffle_nibble)] }
def PlainTimesSaid : Prop := plainTimesRow.holds Tryz.pinned (OpenSpec.ofChange plainTimesSpec)

/-- ITS FALSE NEIGHBOUR: 'it returns false'. Refute it at one input. -/
def plainTimesWrong : ChangeSpec := { name := "plainTimes", fn := fun _ => fun
  | [d1, d2] => { results := [.lit (.bool false)], args := [d1, d2] }
  | _ => none }
def PlainTimesWrongFalsely : Prop := plainTimesRow.holds Tryz.pinned (OpenSpec.ofChange plainTimesWrong)

/-- 'rosettelaw12.PlainKeeps': WHATEVER THE INPUT: true; the input reads as it did. -/
def plainKeepsSpec : ChangeSpec := { name := "plainKeeps", fn := fun _ => fun
  | [d1, d2] => { results := [.lit (.bool true)], args := [d1, d2] }
  | _ => none }
def plainKeepsRow : OpenClaim := { program := "ytnpanpkahbcecaagreatdoor", sum := "f2d9be1c16f4114476a43315a073f026b3f6639a47e46b645aecf116147a0aa2", func := "rosette/rosettelaw12.PlainKeeps", spec := "plainKeeps", inPlace := ["math.Float64bits", "math.Float64frombits", "math.sqrt", "math.FMA", "math/bits.Add64", "math/bits.Sub64", "math.RoundToEven"], recurses := true, named := ["math/bits.deBruijn32tab", "math/bits.deBruijn64tab", "math/bits.divideError", "math/bits.overflowError", "rosette/shuffle.nibble"], apart := false, laid := [("math/bits.deBruijn32tab", laid_math_bits_deBruijn32tab), ("math/bits.deBruijn64tab", laid_math_bits_deBruijn64tab), ("rosette/shuffle.nibble", laid_rosette_shuffle_nibble)] }
def PlainKeepsSaid : Prop := plainKeepsRow.holds Tryz.pinned (OpenSpec.ofChange plainKeepsSpec)

/-- ITS FALSE NEIGHBOUR: 'it returns false'. Refute it at one input. -/
def plainKeepsWrong : ChangeSpec := { name := "plainKeeps", fn := fun _ => fun
  | [d1, d2] => { results := [.lit (.bool false)], args := [d1, d2] }
  | _ => none }
def PlainKeepsWrongFalsely : Prop := plainKeepsRow.holds Tryz.pinned (OpenSpec.ofChange plainKeepsWrong)

/-- 'rosettelaw28.MatchNumbers': WHATEVER THE INPUT: true; the input reads as it did. -/
def matchNumbersSpec : ChangeSpec := { name := "matchNumbers", fn := fun _ => fun
  | [] => { results := [.lit (.bool true)], args := [] }
  | _ => none }
def matchNumbersRow : OpenClaim := { program := "ytnpanpkahbcecaagreatdoor", sum := "f2d9be1c16f4114476a43315a073f026b3f6639a47e46b645aecf116147a0aa2", func := "rosette/rosettelaw28.MatchNumbers", spec := "matchNumbers", inPlace := ["math.Float64bits", "math.Float64frombits", "math.sqrt", "math.FMA", "math/bits.Add64", "math/bits.Sub64", "math.RoundToEven"], unfollowed := true, recurses := true, named := ["math/bits.deBruijn32tab", "math/bits.deBruijn64tab", "math/bits.divideError", "math/bits.overflowError", "rosette/shuffle.nibble"], apart := false, laid := [("math/bits.deBruijn32tab", laid_math_bits_deBruijn32tab), ("math/bits.deBruijn64tab", laid_math_bits_deBruijn64tab), ("rosette/shuffle.nibble", laid_rosette_shuffle_nibble)] }
def MatchNumbersSaid : Prop := matchNumbersRow.holds Tryz.pinned (OpenSpec.ofChange matchNumbersSpec)

/-- ITS FALSE NEIGHBOUR: 'it returns false'. Refute it at one input. -/
def matchNumbersWrong : ChangeSpec := { name := "matchNumbers", fn := fun _ => fun
  | [] => { results := [.lit (.bool false)], args := [] }
  | _ => none }
def MatchNumbersWrongFalsely : Prop := matchNumbersRow.holds Tryz.pinned (OpenSpec.ofChange matchNumbersWrong)

/-- 'rosettelaw28.MatchTells': WHATEVER THE INPUT: true; the input reads as it did. -/
def matchTellsSpec : ChangeSpec := { name := "matchTells", fn := fun _ => fun
  | [d1, d2, d3, d4] => { results := [.lit (.bool true)], args := [d1, d2, d3, d4] }
  | _ => none }
def matchTellsRow : OpenClaim := { program := "ytnpanpkahbcecaagreatdoor", sum := "f2d9be1c16f4114476a43315a073f026b3f6639a47e46b645aecf116147a0aa2", func := "rosette/rosettelaw28.MatchTells", spec := "matchTells", inPlace := ["math.Float64bits", "math.Float64frombits", "math.sqrt", "math.FMA", "math/bits.Add64", "math/bits.Sub64", "math.RoundToEven"], unfollowed := true, recurses := true, named := ["math/bits.deBruijn32tab", "math/bits.deBruijn64tab", "math/bits.divideError", "math/bits.overflowError", "rosette/shuffle.nibble"], apart := false, laid := [("math/bits.deBruijn32tab", laid_math_bits_deBruijn32tab), ("math/bits.deBruijn64tab", laid_math_bits_deBruijn64tab), ("rosette/shuffle.nibble", laid_rosette_shuffle_nibble)] }
def MatchTellsSaid : Prop := matchTellsRow.holds Tryz.pinned (OpenSpec.ofChange matchTellsSpec)

/-- ITS FALSE NEIGHBOUR: 'it returns false'. Refute it at one input. -/
def matchTellsWrong : ChangeSpec := { name := "matchTells", fn := fun _ => fun
  | [d1, d2, d3, d4] => { results := [.lit (.bool false)], args := [d1, d2, d3, d4] }
  | _ => none }
def MatchTellsWrongFalsely : Prop := matchTellsRow.holds Tryz.pinned (OpenSpec.ofChange matchTellsWrong)

/-- 'rosettelaw28.MatchParts': WHATEVER THE INPUT: true; the input reads as it did. -/
def matchPartsSpec : ChangeSpec := { name := "matchParts", fn := fun _ => fun
  | [d1, d2, d3] => { results := [.lit (.bool true)], args := [d1, d2, d3] }
  | _ => none }
def matchPartsRow : OpenClaim := { program := "ytnpanpkahbcecaagreatdoor", sum := "f2d9be1c16f4114476a43315a073f026b3f6639a47e46b645aecf116147a0aa2", func := "rosette/rosettelaw28.MatchParts", spec := "matchParts", inPlace := ["math.Float64bits", "math.Float64frombits", "math.sqrt", "math.FMA", "math/bits.Add64", "math/bits.Sub64", "math.RoundToEven"], unfollowed := true, recurses := true, named := ["math/bits.deBruijn32tab", "math/bits.deBruijn64tab", "math/bits.divideError", "math/bits.overflowError", "rosette/shuffle.nibble"], apart := false, laid := [("math/bits.deBruijn32tab", laid_math_bits_deBruijn32tab), ("math/bits.deBruijn64tab", laid_math_bits_deBruijn64tab), ("rosette/shuffle.nibble", laid_rosette_shuffle_nibble)] }
def MatchPartsSaid : Prop := matchPartsRow.holds Tryz.pinned (OpenSpec.ofChange matchPartsSpec)

/-- ITS FALSE NEIGHBOUR: 'it returns false'. Refute it at one input. -/
def matchPartsWrong : ChangeSpec := { name := "matchParts", fn := fun _ => fun
  | [d1, d2, d3] => { results := [.lit (.bool false)], args := [d1, d2, d3] }
  | _ => none }
def MatchPartsWrongFalsely : Prop := matchPartsRow.holds Tryz.pinned (OpenSpec.ofChange matchPartsWrong)

/-- 'rosettelaw28.MatchTurns': WHATEVER THE INPUT: true; the input reads as it did. -/
def matchTurnsSpec : ChangeSpec := { name := "matchTurns", fn := fun _ => fun
  | [d1, d2, d3] => { results := [.lit (.bool true)], args := [d1, d2, d3] }
  | _ => none }
def matchTurnsRow : OpenClaim := { program := "ytnpanpkahbcecaagreatdoor", sum := "f2d9be1c16f4114476a43315a073f026b3f6639a47e46b645aecf116147a0aa2", func := "rosette/rosettelaw28.MatchTurns", spec := "matchTurns", inPlace := ["math.Float64bits", "math.Float64frombits", "math.sqrt", "math.FMA", "math/bits.Add64", "math/bits.Sub64", "math.RoundToEven"], unfollowed := true, recurses := true, named := ["math/bits.deBruijn32tab", "math/bits.deBruijn64tab", "math/bits.divideError", "math/bits.overflowError", "rosette/shuffle.nibble"], apart := false, laid := [("math/bits.deBruijn32tab", laid_math_bits_deBruijn32tab), ("math/bits.deBruijn64tab", laid_math_bits_deBruijn64tab), ("rosette/shuffle.nibble", laid_rosette_shuffle_nibble)] }
def MatchTurnsSaid : Prop := matchTurnsRow.holds Tryz.pinned (OpenSpec.ofChange matchTurnsSpec)

/-- ITS FALSE NEIGHBOUR: 'it returns false'. Refute it at one input. -/
def matchTurnsWrong : ChangeSpec := { name := "matchTurns", fn := fun _ => fun
  | [d1, d2, d3] => { results := [.lit (.bool false)], args := [d1, d2, d3] }
  | _ => none }
def MatchTurnsWrongFalsely : Prop := matchTurnsRow.holds Tryz.pinned (OpenSpec.ofChange matchTurnsWrong)

/-- 'rosettelaw28.MatchWhere': WHATEVER THE INPUT: true; the input reads as it did. -/
def matchWhereSpec : ChangeSpec := { name := "matchWhere", fn := fun _ => fun
  | [d1, d2, d3] => { results := [.lit (.bool true)], args := [d1, d2, d3] }
  | _ => none }
def matchWhereRow : OpenClaim := { program := "ytnpanpkahbcecaagreatdoor", sum := "f2d9be1c16f4114476a43315a073f026b3f6639a47e46b645aecf116147a0aa2", func := "rosette/rosettelaw28.MatchWhere", spec := "matchWhere", inPlace := ["math.Float64bits", "math.Float64frombits", "math.sqrt", "math.FMA", "math/bits.Add64", "math/bits.Sub64", "math.RoundToEven"], unfollowed := true, recurses := true, named := ["math/bits.deBruijn32tab", "math/bits.deBruijn64tab", "math/bits.divideError", "math/bits.overflowError", "rosette/shuffle.nibble"], apart := false, laid := [("math/bits.deBruijn32tab", laid_math_bits_deBruijn32tab), ("math/bits.deBruijn64tab", laid_math_bits_deBruijn64tab), ("rosette/shuffle.nibble", laid_rosette_shuffle_nibble)] }
def MatchWhereSaid : Prop := matchWhereRow.holds Tryz.pinned (OpenSpec.ofChange matchWhereSpec)

/-- ITS FALSE NEIGHBOUR: 'it returns false'. Refute it at one input. -/
def matchWhereWrong : ChangeSpec := { name := "matchWhere", fn := fun _ => fun
  | [d1, d2, d3] => { results := [.lit (.bool false)], args := [d1, d2, d3] }
  | _ => none }
def MatchWhereWrongFalsely : Prop := matchWhereRow.holds Tryz.pinned (OpenSpec.ofChange matchWhereWrong)

/-- 'rosettelaw28.MatchSpares': WHATEVER THE INPUT: true; the input reads as it did. -/
def matchSparesSpec : ChangeSpec := { name := "matchSpares", fn := fun _ => fun
  | [d1, d2] => { results := [.lit (.bool true)], args := [d1, d2] }
  | _ => none }
def matchSparesRow : OpenClaim := { program := "ytnpanpkahbcecaagreatdoor", sum := "f2d9be1c16f4114476a43315a073f026b3f6639a47e46b645aecf116147a0aa2", func := "rosette/rosettelaw28.MatchSpares", spec := "matchSpares", inPlace := ["math.Float64bits", "math.Float64frombits", "math.sqrt", "math.FMA", "math/bits.Add64", "math/bits.Sub64", "math.RoundToEven"], unfollowed := true, recurses := true, named := ["math/bits.deBruijn32tab", "math/bits.deBruijn64tab", "math/bits.divideError", "math/bits.overflowError", "rosette/shuffle.nibble"], apart := false, laid := [("math/bits.deBruijn32tab", laid_math_bits_deBruijn32tab), ("math/bits.deBruijn64tab", laid_math_bits_deBruijn64tab), ("rosette/shuffle.nibble", laid_rosette_shuffle_nibble)] }
def MatchSparesSaid : Prop := matchSparesRow.holds Tryz.pinned (OpenSpec.ofChange matchSparesSpec)

/-- ITS FALSE NEIGHBOUR: 'it returns false'. Refute it at one input. -/
def matchSparesWrong : ChangeSpec := { name := "matchSpares", fn := fun _ => fun
  | [d1, d2] => { results := [.lit (.bool false)], args := [d1, d2] }
  | _ => none }
def MatchSparesWrongFalsely : Prop := matchSparesRow.holds Tryz.pinned (OpenSpec.ofChange matchSparesWrong)

/- THE SECOND FORM. 'bulk': how many values and letters a reading holds, each counted each time it is reached (what is shared counts as often as it is met; a slice's spare places count too). A statement '..UptoSaid' is the law's where the arguments, and the package variables that the reading takes, are together of bulk at most 1048576: NARROWER than '..Said'. Prove '..Said' where nothing that the law and all that it calls make is longer than what came in: it says more and counts as full. Else prove '..UptoSaid'. A law counts once. -/
mutual
def uptoBulk {H : Type} : DataW H → Nat
  | .lit (.string bytes) => bytes.length + 1
  | .lit _ => 1
  | .nil => 1
  | .ptr d => uptoBulk d + 1
  | .slice elems spare => uptoBulkAll elems + uptoBulkAll spare + 1
  | .agg parts => uptoBulkAll parts + 1
  | .iface _ d => uptoBulk d + 1
  | .map entries => uptoBulkEntries entries + 1
  | .held _ => 1
def uptoBulkAll {H : Type} : List (DataW H) → Nat
  | [] => 0
  | d :: r => uptoBulk d + uptoBulkAll r
def uptoBulkEntries {H : Type} : List (Lit × DataW H) → Nat
  | [] => 0
  | x :: r => uptoBulkEntry x + uptoBulkEntries r
def uptoBulkEntry {H : Type} : Lit × DataW H → Nat
  | (.string bytes, d) => bytes.length + uptoBulk d + 1
  | (_, d) => uptoBulk d + 1
 end
def uptoSmall : (H : Type) → List (DataW H) → Bool := fun _ ds => decide (uptoBulkAll ds ≤ 1048576)
def OpenSpec.upto (s : _root_.Go.ChangeSpec) : _root_.Go.OpenSpec := { _root_.Go.OpenSpec.ofChange s with cond := some uptoSmall }

/-- 'rosettelaw12.PlainSlowly', WHERE WHAT IT READS IS OF BULK AT MOST 1048576: true; the input reads as it did. -/
def plainSlowlyUptoRow : OpenClaim := { program := "ytnpanpkahbcecaagreatdoor", sum := "f2d9be1c16f4114476a43315a073f026b3f6639a47e46b645aecf116147a0aa2", func := "rosette/rosettelaw12.PlainSlowly", spec := "plainSlowly", inPlace := ["math.Float64bits", "math.Float64frombits", "math.sqrt", "math.FMA", "math/bits.Add64", "math/bits.Sub64", "math.RoundToEven"], recurses := true, named := ["math/bits.deBruijn32tab", "math/bits.deBruijn64tab", "math/bits.divideError", "math/bits.overflowError", "rosette/shuffle.nibble"], apart := false, laid := [("math/bits.deBruijn32tab", laid_math_bits_deBruijn32tab), ("math/bits.deBruijn64tab", laid_math_bits_deBruijn64tab), ("rosette/shuffle.nibble", laid_rosette_shuffle_nibble)], narrowed := true }
def PlainSlowlyUptoSaid : Prop := plainSlowlyUptoRow.holds Tryz.pinned (OpenSpec.upto plainSlowlySpec)

/-- 'rosettelaw12.PlainNever', WHERE WHAT IT READS IS OF BULK AT MOST 1048576: true; the input reads as it did. -/
def plainNeverUptoRow : OpenClaim := { program := "ytnpanpkahbcecaagreatdoor", sum := "f2d9be1c16f4114476a43315a073f026b3f6639a47e46b645aecf116147a0aa2", func := "rosette/rosettelaw12.PlainNever", spec := "plainNever", inPlace := ["math.Float64bits", "math.Float64frombits", "math.sqrt", "math.FMA", "math/bits.Add64", "math/bits.Sub64", "math.RoundToEven"], named := ["math/bits.deBruijn32tab", "math/bits.deBruijn64tab", "math/bits.divideError", "math/bits.overflowError", "rosette/shuffle.nibble"], apart := false, laid := [("math/bits.deBruijn32tab", laid_math_bits_deBruijn32tab), ("math/bits.deBruijn64tab", laid_math_bits_deBruijn64tab), ("rosette/shuffle.nibble", laid_rosette_shuffle_nibble)], narrowed := true }
def PlainNeverUptoSaid : Prop := plainNeverUptoRow.holds Tryz.pinned (OpenSpec.upto plainNeverSpec)

/-- 'rosettelaw12.PlainRing', WHERE WHAT IT READS IS OF BULK AT MOST 1048576: true; the input reads as it did. -/
def plainRingUptoRow : OpenClaim := { program := "ytnpanpkahbcecaagreatdoor", sum := "f2d9be1c16f4114476a43315a073f026b3f6639a47e46b645aecf116147a0aa2", func := "rosette/rosettelaw12.PlainRing", spec := "plainRing", inPlace := ["math.Float64bits", "math.Float64frombits", "math.sqrt", "math.FMA", "math/bits.Add64", "math/bits.Sub64", "math.RoundToEven"], named := ["math/bits.deBruijn32tab", "math/bits.deBruijn64tab", "math/bits.divideError", "math/bits.overflowError", "rosette/shuffle.nibble"], apart := false, laid := [("math/bits.deBruijn32tab", laid_math_bits_deBruijn32tab), ("math/bits.deBruijn64tab", laid_math_bits_deBruijn64tab), ("rosette/shuffle.nibble", laid_rosette_shuffle_nibble)], narrowed := true }
def PlainRingUptoSaid : Prop := plainRingUptoRow.holds Tryz.pinned (OpenSpec.upto plainRingSpec)

/-- 'rosettelaw12.PlainNumbers', WHERE WHAT IT READS IS OF BULK AT MOST 1048576: true; the input reads as it did. -/
def plainNumbersUptoRow : OpenClaim := { program := "ytnpanpkahbcecaagreatdoor", sum := "f2d9be1c16f4114476a43315a073f026b3f6639a47e46b645aecf116147a0aa2", func := "rosette/rosettelaw12.PlainNumbers", spec := "plainNumbers", inPlace := ["math.Float64bits", "math.Float64frombits", "math.sqrt", "math.FMA", "math/bits.Add64", "math/bits.Sub64", "math.RoundToEven"], named := ["math/bits.deBruijn32tab", "math/bits.deBruijn64tab", "math/bits.divideError", "math/bits.overflowError", "rosette/shuffle.nibble"], apart := false, laid := [("math/bits.deBruijn32tab", laid_math_bits_deBruijn32tab), ("math/bits.deBruijn64tab", laid_math_bits_deBruijn64tab), ("rosette/shuffle.nibble", laid_rosette_shuffle_nibble)], narrowed := true }
def PlainNumbersUptoSaid : Prop := plainNumbersUptoRow.holds Tryz.pinned (OpenSpec.upto plainNumbersSpec)

/-- 'rosettelaw12.PlainTimes', WHERE WHAT IT READS IS OF BULK AT MOST 1048576: true; the input reads as it did. -/
def plainTimesUptoRow : OpenClaim := { program := "ytnpanpkahbcecaagreatdoor", sum := "f2d9be1c16f4114476a43315a073f026b3f6639a47e46b645aecf116147a0aa2", func := "rosette/rosettelaw12.PlainTimes", spec := "plainTimes", inPlace := ["math.Float64bits", "math.Float64frombits", "math.sqrt", "math.FMA", "math/bits.Add64", "math/bits.Sub64", "math.RoundToEven"], recurses := true, named := ["math/bits.deBruijn32tab", "math/bits.deBruijn64tab", "math/bits.divideError", "math/bits.overflowError", "rosette/shuffle.nibble"], apart := false, laid := [("math/bits.deBruijn32tab", laid_math_bits_deBruijn32tab), ("math/bits.deBruijn64tab", laid_math_bits_deBruijn64tab), ("rosette/shuffle.nibble", laid_rosette_shuffle_nibble)], narrowed := true }
def PlainTimesUptoSaid : Prop := plainTimesUptoRow.holds Tryz.pinned (OpenSpec.upto plainTimesSpec)

/-- 'rosettelaw12.PlainKeeps', WHERE WHAT IT READS IS OF BULK AT MOST 1048576: true; the input reads as it did. -/
def plainKeepsUptoRow : OpenClaim := { program := "ytnpanpkahbcecaagreatdoor", sum := "f2d9be1c16f4114476a43315a073f026b3f6639a47e46b645aecf116147a0aa2", func := "rosette/rosettelaw12.PlainKeeps", spec := "plainKeeps", inPlace := ["math.Float64bits", "math.Float64frombits", "math.sqrt", "math.FMA", "math/bits.Add64", "math/bits.Sub64", "math.RoundToEven"], recurses := true, named := ["math/bits.deBruijn32tab", "math/bits.deBruijn64tab", "math/bits.divideError", "math/bits.overflowError", "rosette/shuffle.nibble"], apart := false, laid := [("math/bits.deBruijn32tab", laid_math_bits_deBruijn32tab), ("math/bits.deBruijn64tab", laid_math_bits_deBruijn64tab), ("rosette/shuffle.nibble", laid_rosette_shuffle_nibble)], narrowed := true }
def PlainKeepsUptoSaid : Prop := plainKeepsUptoRow.holds Tryz.pinned (OpenSpec.upto plainKeepsSpec)

/-- 'rosettelaw28.MatchNumbers', WHERE WHAT IT READS IS OF BULK AT MOST 1048576: true; the input reads as it did. -/
def matchNumbersUptoRow : OpenClaim := { program := "ytnpanpkahbcecaagreatdoor", sum := "f2d9be1c16f4114476a43315a073f026b3f6639a47e46b645aecf116147a0aa2", func := "rosette/rosettelaw28.MatchNumbers", spec := "matchNumbers", inPlace := ["math.Float64bits", "math.Float64frombits", "math.sqrt", "math.FMA", "math/bits.Add64", "math/bits.Sub64", "math.RoundToEven"], unfollowed := true, recurses := true, named := ["math/bits.deBruijn32tab", "math/bits.deBruijn64tab", "math/bits.divideError", "math/bits.overflowError", "rosette/shuffle.nibble"], apart := false, laid := [("math/bits.deBruijn32tab", laid_math_bits_deBruijn32tab), ("math/bits.deBruijn64tab", laid_math_bits_deBruijn64tab), ("rosette/shuffle.nibble", laid_rosette_shuffle_nibble)], narrowed := true }
def MatchNumbersUptoSaid : Prop := matchNumbersUptoRow.holds Tryz.pinned (OpenSpec.upto matchNumbersSpec)

/-- 'rosettelaw28.MatchTells', WHERE WHAT IT READS IS OF BULK AT MOST 1048576: true; the input reads as it did. -/
def matchTellsUptoRow : OpenClaim := { program := "ytnpanpkahbcecaagreatdoor", sum := "f2d9be1c16f4114476a43315a073f026b3f6639a47e46b645aecf116147a0aa2", func := "rosette/rosettelaw28.MatchTells", spec := "matchTells", inPlace := ["math.Float64bits", "math.Float64frombits", "math.sqrt", "math.FMA", "math/bits.Add64", "math/bits.Sub64", "math.RoundToEven"], unfollowed := true, recurses := true, named := ["math/bits.deBruijn32tab", "math/bits.deBruijn64tab", "math/bits.divideError", "math/bits.overflowError", "rosette/shuffle.nibble"], apart := false, laid := [("math/bits.deBruijn32tab", laid_math_bits_deBruijn32tab), ("math/bits.deBruijn64tab", laid_math_bits_deBruijn64tab), ("rosette/shuffle.nibble", laid_rosette_shuffle_nibble)], narrowed := true }
def MatchTellsUptoSaid : Prop := matchTellsUptoRow.holds Tryz.pinned (OpenSpec.upto matchTellsSpec)

/-- 'rosettelaw28.MatchParts', WHERE WHAT IT READS IS OF BULK AT MOST 1048576: true; the input reads as it did. -/
def matchPartsUptoRow : OpenClaim := { program := "ytnpanpkahbcecaagreatdoor", sum := "f2d9be1c16f4114476a43315a073f026b3f6639a47e46b645aecf116147a0aa2", func := "rosette/rosettelaw28.MatchParts", spec := "matchParts", inPlace := ["math.Float64bits", "math.Float64frombits", "math.sqrt", "math.FMA", "math/bits.Add64", "math/bits.Sub64", "math.RoundToEven"], unfollowed := true, recurses := true, named := ["math/bits.deBruijn32tab", "math/bits.deBruijn64tab", "math/bits.divideError", "math/bits.overflowError", "rosette/shuffle.nibble"], apart := false, laid := [("math/bits.deBruijn32tab", laid_math_bits_deBruijn32tab), ("math/bits.deBruijn64tab", laid_math_bits_deBruijn64tab), ("rosette/shuffle.nibble", laid_rosette_shuffle_nibble)], narrowed := true }
def MatchPartsUptoSaid : Prop := matchPartsUptoRow.holds Tryz.pinned (OpenSpec.upto matchPartsSpec)

/-- 'rosettelaw28.MatchTurns', WHERE WHAT IT READS IS OF BULK AT MOST 1048576: true; the input reads as it did. -/
def matchTurnsUptoRow : OpenClaim := { program := "ytnpanpkahbcecaagreatdoor", sum := "f2d9be1c16f4114476a43315a073f026b3f6639a47e46b645aecf116147a0aa2", func := "rosette/rosettelaw28.MatchTurns", spec := "matchTurns", inPlace := ["math.Float64bits", "math.Float64frombits", "math.sqrt", "math.FMA", "math/bits.Add64", "math/bits.Sub64", "math.RoundToEven"], unfollowed := true, recurses := true, named := ["math/bits.deBruijn32tab", "math/bits.deBruijn64tab", "math/bits.divideError", "math/bits.overflowError", "rosette/shuffle.nibble"], apart := false, laid := [("math/bits.deBruijn32tab", laid_math_bits_deBruijn32tab), ("math/bits.deBruijn64tab", laid_math_bits_deBruijn64tab), ("rosette/shuffle.nibble", laid_rosette_shuffle_nibble)], narrowed := true }
def MatchTurnsUptoSaid : Prop := matchTurnsUptoRow.holds Tryz.pinned (OpenSpec.upto matchTurnsSpec)

/-- 'rosettelaw28.MatchWhere', WHERE WHAT IT READS IS OF BULK AT MOST 1048576: true; the input reads as it did. -/
def matchWhereUptoRow : OpenClaim := { program := "ytnpanpkahbcecaagreatdoor", sum := "f2d9be1c16f4114476a43315a073f026b3f6639a47e46b645aecf116147a0aa2", func := "rosette/rosettelaw28.MatchWhere", spec := "matchWhere", inPlace := ["math.Float64bits", "math.Float64frombits", "math.sqrt", "math.FMA", "math/bits.Add64", "math/bits.Sub64", "math.RoundToEven"], unfollowed := true, recurses := true, named := ["math/bits.deBruijn32tab", "math/bits.deBruijn64tab", "math/bits.divideError", "math/bits.overflowError", "rosette/shuffle.nibble"], apart := false, laid := [("math/bits.deBruijn32tab", laid_math_bits_deBruijn32tab), ("math/bits.deBruijn64tab", laid_math_bits_deBruijn64tab), ("rosette/shuffle.nibble", laid_rosette_shuffle_nibble)], narrowed := true }
def MatchWhereUptoSaid : Prop := matchWhereUptoRow.holds Tryz.pinned (OpenSpec.upto matchWhereSpec)

/-- 'rosettelaw28.MatchSpares', WHERE WHAT IT READS IS OF BULK AT MOST 1048576: true; the input reads as it did. -/
def matchSparesUptoRow : OpenClaim := { program := "ytnpanpkahbcecaagreatdoor", sum := "f2d9be1c16f4114476a43315a073f026b3f6639a47e46b645aecf116147a0aa2", func := "rosette/rosettelaw28.MatchSpares", spec := "matchSpares", inPlace := ["math.Float64bits", "math.Float64frombits", "math.sqrt", "math.FMA", "math/bits.Add64", "math/bits.Sub64", "math.RoundToEven"], unfollowed := true, recurses := true, named := ["math/bits.deBruijn32tab", "math/bits.deBruijn64tab", "math/bits.divideError", "math/bits.overflowError", "rosette/shuffle.nibble"], apart := false, laid := [("math/bits.deBruijn32tab", laid_math_bits_deBruijn32tab), ("math/bits.deBruijn64tab", laid_math_bits_deBruijn64tab), ("rosette/shuffle.nibble", laid_rosette_shuffle_nibble)], narrowed := true }
def MatchSparesUptoSaid : Prop := matchSparesUptoRow.holds Tryz.pinned (OpenSpec.upto matchSparesSpec)

end Rows
end Go.Proofs.YtnpanpkahbcecaaGreatDoor

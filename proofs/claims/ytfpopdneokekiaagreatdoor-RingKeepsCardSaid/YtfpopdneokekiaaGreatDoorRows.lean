/-
  NARROWER THAN 'FOR EVERY INPUT', by the rows' own cells (each row's printed sentence says how): RingPlain: laid · RingTrue: laid · RingLaws: laid · RingNever: laid · RingKeeps: laid · RingBounds: laid · RingTells: laid.
  DERIVED. THE GIVEN ROWS OF THIS SEAT. 7 by the template 'for every input the law returns true; each argument reads behind the call as it read before'; 0 by the template 'total and deterministic' (their statements: YtfpopdneokekiaaGreatDoorTotals.lean).
  GIVEN WITH THE SEED: the statements are not yours to turn. If you find one false, say at which input.
  Laid BY PROGRAM, IN A SANDBOX (cutbox-rows.mjs): the forced cells as the released guide's own fill.sh prints them over the translation 0c68d545bcbe9376… (all of the seat's roots in one cut). By AI agents, Wed Nov 11 2026. No macro, syntax, notation, axiom, sorry.
-/
import Derived.Test.YtfpopdneokekiaaGreatDoorChecked
import GoSem.Claim
import GoSem.ClaimJoined
import GoSem.ClaimMapViews
import Derived.JoinedTies
import Derived.KernelRfl
namespace Go.Proofs.YtfpopdneokekiaaGreatDoor
/- THE CELL 'sum', in the pinned program and in every row, IS THE sha256 OF THE DUMP (.gsa) THAT YtfpopdneokekiaaGreatDoorProg.lean LOADS. Nothing in Lean hashes anything: it is a label: what it is worth is what the hold of that sum in a sandbox is worth. -/
noncomputable def Tryz.pinned : Pinned := { name := "ytfpopdneokekiaagreatdoor", sum := "0c68d545bcbe93762ea7a17c01eab60a363b1a8a473d5671814db978a9a1f45c", checked := Tryz.checked }
namespace Rows
def none {H : Type} : Left H := { results := [], args := [] }

/- WHAT THE LISTED PACKAGE-LEVEL VARIABLES READ AS WHEN THE CALL BEGINS. Each datum BY PROGRAM (the guide's laid-datum.mjs) off the statement by which the dump's own 'gosem.cut.vars' lays the variable. In a bare row this is a premise. The card (YtfpopdneokekiaaGreatDoorCards.lean) ties it to the program's text. -/
def laid_math_bits_deBruijn32tab {H : Type} : DataW H := .agg [.lit (.int .u8 0), .lit (.int .u8 1), .lit (.int .u8 28), .lit (.int .u8 2), .lit (.int .u8 29), .lit (.int .u8 14), .lit (.int .u8 24), .lit (.int .u8 3), .lit (.int .u8 30), .lit (.int .u8 22), .lit (.int .u8 20), .lit (.int .u8 15), .lit (.int .u8 25), .lit (.int .u8 17), .lit (.int .u8 4), .lit (.int .u8 8), .lit (.int .u8 31), .lit (.int .u8 27), .lit (.int .u8 13), .lit (.int .u8 23), .lit (.int .u8 21), .lit (.int .u8 19), .lit (.int .u8 16), .lit (.int .u8 7), .lit (.int .u8 26), .lit (.int .u8 12), .lit (.int .u8 18), .lit (.int .u8 6), .lit (.int .u8 11), .lit (.int .u8 5), .lit (.int .u8 10), .lit (.int .u8 9)]
def laid_math_bits_deBruijn64tab {H : Type} : DataW H := .agg [.lit (.int .u8 0), .lit (.int .u8 1), .lit (.int .u8 56), .lit (.int .u8 2), .lit (.int .u8 57), .lit (.int .u8 49), .lit (.int .u8 28), .lit (.int .u8 3), .lit (.int .u8 61), .lit (.int .u8 58), .lit (.int .u8 42), .lit (.int .u8 50), .lit (.int .u8 38), .lit (.int .u8 29), .lit (.int .u8 17), .lit (.int .u8 4), .lit (.int .u8 62), .lit (.int .u8 47), .lit (.int .u8 59), .lit (.int .u8 36), .lit (.int .u8 45), .lit (.int .u8 43), .lit (.int .u8 51), .lit (.int .u8 22), .lit (.int .u8 53), .lit (.int .u8 39), .lit (.int .u8 33), .lit (.int .u8 30), .lit (.int .u8 24), .lit (.int .u8 18), .lit (.int .u8 12), .lit (.int .u8 5), .lit (.int .u8 63), .lit (.int .u8 55), .lit (.int .u8 48), .lit (.int .u8 27), .lit (.int .u8 60), .lit (.int .u8 41), .lit (.int .u8 37), .lit (.int .u8 16), .lit (.int .u8 46), .lit (.int .u8 35), .lit (.int .u8 44), .lit (.int .u8 21), .lit (.int .u8 52), .lit (.int .u8 32), .lit (.int .u8 23), .lit (.int .u8 11), .lit (.int .u8 54), .lit (.int .u8 26), .lit (.int .u8 40), .lit (.int .u8 15), .lit (.int .u8 34), .lit (.int .u8 20), .lit (.int .u8 31), .lit (.int .u8 10), .lit (.int .u8 25), .lit (.int .u8 14), .lit (.int .u8 19), .lit (.int .u8 9), .lit (.int .u8 13), .lit (.int .u8 8), .lit (.int .u8 7), .lit (.int .u8 6)]
def laid_rosette_shuffle_nibble {H : Type} : DataW H := .agg [.lit (.int .u8 0), .lit (.int .u8 8), .lit (.int .u8 4), .lit (.int .u8 12), .lit (.int .u8 2), .lit (.int .u8 10), .lit (.int .u8 6), .lit (.int .u8 14), .lit (.int .u8 1), .lit (.int .u8 9), .lit (.int .u8 5), .lit (.int .u8 13), .lit (.int .u8 3), .lit (.int .u8 11), .lit (.int .u8 7), .lit (.int .u8 15)]

/-- 'rosettelaw11.RingPlain': WHATEVER THE INPUT: true; the input reads as it did. -/
def ringPlainSpec : ChangeSpec := { name := "ringPlain", fn := fun _ => fun
  | [d1, d2] => { results := [.lit (.bool true)], args := [d1, d2] }
  | _ => none }
def ringPlainRow : OpenClaim := { program := "ytfpopdneokekiaagreatdoor", sum := "0c68d545bcbe93762ea7a17c01eab60a363b1a8a473d5671814db978a9a1f45c", func := "rosette/rosettelaw11.RingPlain", spec := "ringPlain", inPlace := ["math.Float64bits", "math.Float64frombits", "math.sqrt", "math.FMA", "math/bits.Add64", "math/bits.Sub64", "math.RoundToEven"], recurses := true, named := ["math/bits.deBruijn32tab", "math/bits.deBruijn64tab", "math/bits.divideError", "math/bits.overflowError", "rosette/shuffle.nibble"], apart := false, laid := [("math/bits.deBruijn32tab", laid_math_bits_deBruijn32tab), ("math/bits.deBruijn64tab", laid_math_bits_deBruijn64tab), ("rosette/shuffle.nibble", laid_rosette_shuffle_nibble)] }
def RingPlainSaid : Prop := ringPlainRow.holds Tryz.pinned (OpenSpec.ofChange ringPlainSpec)

/-- ITS FALSE NEIGHBOUR: 'it returns false'. Refute it at one input. -/
def ringPlainWrong : ChangeSpec := { name := "ringPlain", fn := fun _ => fun
  | [d1, d2] => { results := [.lit (.bool false)], args := [d1, d2] }
  | _ => none }
def RingPlainWrongFalsely : Prop := ringPlainRow.holds Tryz.pinned (OpenSpec.ofChange ringPlainWrong)

/-- 'rosettelaw11.RingTrue': WHATEVER THE INPUT: true; the input reads as it did. -/
def ringTrueSpec : ChangeSpec := { name := "ringTrue", fn := fun _ => fun
  | [d1, d2] => { results := [.lit (.bool true)], args := [d1, d2] }
  | _ => none }
def ringTrueRow : OpenClaim := { program := "ytfpopdneokekiaagreatdoor", sum := "0c68d545bcbe93762ea7a17c01eab60a363b1a8a473d5671814db978a9a1f45c", func := "rosette/rosettelaw11.RingTrue", spec := "ringTrue", inPlace := ["math.Float64bits", "math.Float64frombits", "math.sqrt", "math.FMA", "math/bits.Add64", "math/bits.Sub64", "math.RoundToEven"], named := ["math/bits.deBruijn32tab", "math/bits.deBruijn64tab", "math/bits.divideError", "math/bits.overflowError", "rosette/shuffle.nibble"], apart := false, laid := [("math/bits.deBruijn32tab", laid_math_bits_deBruijn32tab), ("math/bits.deBruijn64tab", laid_math_bits_deBruijn64tab), ("rosette/shuffle.nibble", laid_rosette_shuffle_nibble)] }
def RingTrueSaid : Prop := ringTrueRow.holds Tryz.pinned (OpenSpec.ofChange ringTrueSpec)

/-- ITS FALSE NEIGHBOUR: 'it returns false'. Refute it at one input. -/
def ringTrueWrong : ChangeSpec := { name := "ringTrue", fn := fun _ => fun
  | [d1, d2] => { results := [.lit (.bool false)], args := [d1, d2] }
  | _ => none }
def RingTrueWrongFalsely : Prop := ringTrueRow.holds Tryz.pinned (OpenSpec.ofChange ringTrueWrong)

/-- 'rosettelaw11.RingLaws': WHATEVER THE INPUT: true; the input reads as it did. -/
def ringLawsSpec : ChangeSpec := { name := "ringLaws", fn := fun _ => fun
  | [d1, d2, d3, d4] => { results := [.lit (.bool true)], args := [d1, d2, d3, d4] }
  | _ => none }
def ringLawsRow : OpenClaim := { program := "ytfpopdneokekiaagreatdoor", sum := "0c68d545bcbe93762ea7a17c01eab60a363b1a8a473d5671814db978a9a1f45c", func := "rosette/rosettelaw11.RingLaws", spec := "ringLaws", inPlace := ["math.Float64bits", "math.Float64frombits", "math.sqrt", "math.FMA", "math/bits.Add64", "math/bits.Sub64", "math.RoundToEven"], named := ["math/bits.deBruijn32tab", "math/bits.deBruijn64tab", "math/bits.divideError", "math/bits.overflowError", "rosette/shuffle.nibble"], apart := false, laid := [("math/bits.deBruijn32tab", laid_math_bits_deBruijn32tab), ("math/bits.deBruijn64tab", laid_math_bits_deBruijn64tab), ("rosette/shuffle.nibble", laid_rosette_shuffle_nibble)] }
def RingLawsSaid : Prop := ringLawsRow.holds Tryz.pinned (OpenSpec.ofChange ringLawsSpec)

/-- ITS FALSE NEIGHBOUR: 'it returns false'. Refute it at one input. -/
def ringLawsWrong : ChangeSpec := { name := "ringLaws", fn := fun _ => fun
  | [d1, d2, d3, d4] => { results := [.lit (.bool false)], args := [d1, d2, d3, d4] }
  | _ => none }
def RingLawsWrongFalsely : Prop := ringLawsRow.holds Tryz.pinned (OpenSpec.ofChange ringLawsWrong)

/-- 'rosettelaw11.RingNever': WHATEVER THE INPUT: true; the input reads as it did. -/
def ringNeverSpec : ChangeSpec := { name := "ringNever", fn := fun _ => fun
  | [d1, d2] => { results := [.lit (.bool true)], args := [d1, d2] }
  | _ => none }
def ringNeverRow : OpenClaim := { program := "ytfpopdneokekiaagreatdoor", sum := "0c68d545bcbe93762ea7a17c01eab60a363b1a8a473d5671814db978a9a1f45c", func := "rosette/rosettelaw11.RingNever", spec := "ringNever", inPlace := ["math.Float64bits", "math.Float64frombits", "math.sqrt", "math.FMA", "math/bits.Add64", "math/bits.Sub64", "math.RoundToEven"], named := ["math/bits.deBruijn32tab", "math/bits.deBruijn64tab", "math/bits.divideError", "math/bits.overflowError", "rosette/shuffle.nibble"], apart := false, laid := [("math/bits.deBruijn32tab", laid_math_bits_deBruijn32tab), ("math/bits.deBruijn64tab", laid_math_bits_deBruijn64tab), ("rosette/shuffle.nibble", laid_rosette_shuffle_nibble)] }
def RingNeverSaid : Prop := ringNeverRow.holds Tryz.pinned (OpenSpec.ofChange ringNeverSpec)

/-- ITS FALSE NEIGHBOUR: 'it returns false'. Refute it at one input. -/
def ringNeverWrong : ChangeSpec := { name := "ringNever", fn := fun _ => fun
  | [d1, d2] => { results := [.lit (.bool false)], args := [d1, d2] }
  | _ => none }
def RingNeverWrongFalsely : Prop := ringNeverRow.holds Tryz.pinned (OpenSpec.ofChange ringNeverWrong)

/-- 'rosettelaw11.RingKeeps': WHATEVER THE INPUT: true; the input reads as it did. -/
def ringKeepsSpec : ChangeSpec := { name := "ringKeeps", fn := fun _ => fun
  | [d1, d2] => { results := [.lit (.bool true)], args := [d1, d2] }
  | _ => none }
def ringKeepsRow : OpenClaim := { program := "ytfpopdneokekiaagreatdoor", sum := "0c68d545bcbe93762ea7a17c01eab60a363b1a8a473d5671814db978a9a1f45c", func := "rosette/rosettelaw11.RingKeeps", spec := "ringKeeps", inPlace := ["math.Float64bits", "math.Float64frombits", "math.sqrt", "math.FMA", "math/bits.Add64", "math/bits.Sub64", "math.RoundToEven"], named := ["math/bits.deBruijn32tab", "math/bits.deBruijn64tab", "math/bits.divideError", "math/bits.overflowError", "rosette/shuffle.nibble"], apart := false, laid := [("math/bits.deBruijn32tab", laid_math_bits_deBruijn32tab), ("math/bits.deBruijn64tab", laid_math_bits_deBruijn64tab), ("rosette/shuffle.nibble", laid_rosette_shuffle_nibble)] }
def RingKeepsSaid : Prop := ringKeepsRow.holds Tryz.pinned (OpenSpec.ofChange ringKeepsSpec)

/-- ITS FALSE NEIGHBOUR: 'it returns false'. Refute it at one input. -/
def ringKeepsWrong : ChangeSpec := { name := "ringKeeps", fn := fun _ => fun
  | [d1, d2] => { results := [.lit (.bool false)], args := [d1, d2] }
  | _ => none }
def RingKeepsWrongFalsely : Prop := ringKeepsRow.holds Tryz.pinned (OpenSpec.ofChange ringKeepsWrong)

/-- 'rosettelaw11.RingBounds': WHATEVER THE INPUT: true; the input reads as it did. -/
def ringBoundsSpec : ChangeSpec := { name := "ringBounds", fn := fun _ => fun
  | [d1, d2] => { results := [.lit (.bool true)], args := [d1, d2] }
  | _ => none }
def ringBoundsRow : OpenClaim := { program := "ytfpopdneokekiaagreatdoor", sum := "0c68d545bcbe93762ea7a17c01eab60a363b1a8a473d5671814db978a9a1f45c", func := "rosette/rosettelaw11.RingBounds", spec := "ringBounds", inPlace := ["math.Float64bits", "math.Float64frombits", "math.sqrt", "math.FMA", "math/bits.Add64", "math/bits.Sub64", "math.RoundToEven"], recurses := true, named := ["math/bits.deBruijn32tab", "math/bits.deBruijn64tab", "math/bits.divideError", "math/bits.overflowError", "rosette/shuffle.nibble"], apart := false, laid := [("math/bits.deBruijn32tab", laid_math_bits_deBruijn32tab), ("math/bits.deBruijn64tab", laid_math_bits_deBruijn64tab), ("rosette/shuffle.nibble", laid_rosette_shuffle_nibble)] }
def RingBoundsSaid : Prop := ringBoundsRow.holds Tryz.pinned (OpenSpec.ofChange ringBoundsSpec)

/-- ITS FALSE NEIGHBOUR: 'it returns false'. Refute it at one input. -/
def ringBoundsWrong : ChangeSpec := { name := "ringBounds", fn := fun _ => fun
  | [d1, d2] => { results := [.lit (.bool false)], args := [d1, d2] }
  | _ => none }
def RingBoundsWrongFalsely : Prop := ringBoundsRow.holds Tryz.pinned (OpenSpec.ofChange ringBoundsWrong)

/-- 'rosettelaw11.RingTells': WHATEVER THE INPUT: true; the input reads as it did. -/
def ringTellsSpec : ChangeSpec := { name := "ringTells", fn := fun _ => fun
  | [d1, d2] => { results := [.lit (.bool true)], args := [d1, d2] }
  | _ => none }
def ringTellsRow : OpenClaim := { program := "ytfpopdneokekiaagreatdoor", sum := "0c68d545bcbe93762ea7a17c01eab60a363b1a8a473d5671814db978a9a1f45c", func := "rosette/rosettelaw11.RingTells", spec := "ringTells", inPlace := ["math.Float64bits", "math.Float64frombits", "math.sqrt", "math.FMA", "math/bits.Add64", "math/bits.Sub64", "math.RoundToEven"], recurses := true, named := ["math/bits.deBruijn32tab", "math/bits.deBruijn64tab", "math/bits.divideError", "math/bits.overflowError", "rosette/shuffle.nibble"], apart := false, laid := [("math/bits.deBruijn32tab", laid_math_bits_deBruijn32tab), ("math/bits.deBruijn64tab", laid_math_bits_deBruijn64tab), ("rosette/shuffle.nibble", laid_rosette_shuffle_nibble)] }
def RingTellsSaid : Prop := ringTellsRow.holds Tryz.pinned (OpenSpec.ofChange ringTellsSpec)

/-- ITS FALSE NEIGHBOUR: 'it returns false'. Refute it at one input. -/
def ringTellsWrong : ChangeSpec := { name := "ringTells", fn := fun _ => fun
  | [d1, d2] => { results := [.lit (.bool false)], args := [d1, d2] }
  | _ => none }
def RingTellsWrongFalsely : Prop := ringTellsRow.holds Tryz.pinned (OpenSpec.ofChange ringTellsWrong)

/- THE SECOND FORM. 'bulk': how many values and letters a reading holds, each counted each time it is reached (what is shared counts as often as it is met; a slice's spare places count too). A statement '..UptoSaid' is the law's where the arguments, and the package variables that the reading takes, are together of bulk at most 1048576: NARROWER than '..Said'. Prove '..Said' where nothing that the law and all that it calls make is longer than what came in: it says more and counts as full. Else prove '..UptoSaid'. A law counts once. -/
mutual
def uptoBulk {H : Type} : DataW H → Nat
  | .lit (.string bytes) => bytes.length + 1
  | .lit _ => 1
  | .nil => 1
  | .ptr d => uptoBulk d + 1
  | .slice elems spare => uptoBulkAll elems + uptoBulkAll spare + 1
  | .agg parts => uptoBulkAll parts + 1
  | .iface _ d => uptoBulk d + 1
  | .map entries => uptoBulkEntries entries + 1
  | .held _ => 1
def uptoBulkAll {H : Type} : List (DataW H) → Nat
  | [] => 0
  | d :: r => uptoBulk d + uptoBulkAll r
def uptoBulkEntries {H : Type} : List (Lit × DataW H) → Nat
  | [] => 0
  | x :: r => uptoBulkEntry x + uptoBulkEntries r
def uptoBulkEntry {H : Type} : Lit × DataW H → Nat
  | (.string bytes, d) => bytes.length + uptoBulk d + 1
  | (_, d) => uptoBulk d + 1
 end
def uptoSmall : (H : Type) → List (DataW H) → Bool := fun _ ds => decide (uptoBulkAll ds ≤ 1048576)
def OpenSpec.upto (s : _root_.Go.ChangeSpec) : _root_.Go.OpenSpec := { _root_.Go.OpenSpec.ofChange s with cond := some uptoSmall }

/-- 'rosettelaw11.RingPlain', WHERE WHAT IT READS IS OF BULK AT MOST 1048576: true; the input reads as it did. -/
def ringPlainUptoRow : OpenClaim := { program := "ytfpopdneokekiaagreatdoor", sum := "0c68d545bcbe93762ea7a17c01eab60a363b1a8a473d5671814db978a9a1f45c", func := "rosette/rosettelaw11.RingPlain", spec := "ringPlain", inPlace := ["math.Float64bits", "math.Float64frombits", "math.sqrt", "math.FMA", "math/bits.Add64", "math/bits.Sub64", "math.RoundToEven"], recurses := true, named := ["math/bits.deBruijn32tab", "math/bits.deBruijn64tab", "math/bits.divideError", "math/bits.overflowError", "rosette/shuffle.nibble"], apart := false, laid := [("math/bits.deBruijn32tab", laid_math_bits_deBruijn32tab), ("math/bits.deBruijn64tab", laid_math_bits_deBruijn64tab), ("rosette/shuffle.nibble", laid_rosette_shuffle_nibble)], narrowed := true }
def RingPlainUptoSaid : Prop := ringPlainUptoRow.holds Tryz.pinned (OpenSpec.upto ringPlainSpec)

/-- 'rosettelaw11.RingTrue', WHERE WHAT IT READS IS OF BULK AT MOST 1048576: true; the input reads as it did. -/
def ringTrueUptoRow : OpenClaim := { program := "ytfpopdneokekiaagreatdoor", sum := "0c68d545bcbe93762ea7a17c01eab60a363b1a8a473d5671814db978a9a1f45c", func := "rosette/rosettelaw11.RingTrue", spec := "ringTrue", inPlace := ["math.Float64bits", "math.Float64frombits", "math.sqrt", "math.FMA", "math/bits.Add64", "math/bits.Sub64", "math.RoundToEven"], named := ["math/bits.deBruijn32tab", "math/bits.deBruijn64tab", "math/bits.divideError", "math/bits.overflowError", "rosette/shuffle.nibble"], apart := false, laid := [("math/bits.deBruijn32tab", laid_math_bits_deBruijn32tab), ("math/bits.deBruijn64tab", laid_math_bits_deBruijn64tab), ("rosette/shuffle.nibble", laid_rosette_shuffle_nibble)], narrowed := true }
def RingTrueUptoSaid : Prop := ringTrueUptoRow.holds Tryz.pinned (OpenSpec.upto ringTrueSpec)

/-- 'rosettelaw11.RingLaws', WHERE WHAT IT READS IS OF BULK AT MOST 1048576: true; the input reads as it did. -/
def ringLawsUptoRow : OpenClaim := { program := "ytfpopdneokekiaagreatdoor", sum := "0c68d545bcbe93762ea7a17c01eab60a363b1a8a473d5671814db978a9a1f45c", func := "rosette/rosettelaw11.RingLaws", spec := "ringLaws", inPlace := ["math.Float64bits", "math.Float64frombits", "math.sqrt", "math.FMA", "math/bits.Add64", "math/bits.Sub64", "math.RoundToEven"], named := ["math/bits.deBruijn32tab", "math/bits.deBruijn64tab", "math/bits.divideError", "math/bits.overflowError", "rosette/shuffle.nibble"], apart := false, laid := [("math/bits.deBruijn32tab", laid_math_bits_deBruijn32tab), ("math/bits.deBruijn64tab", laid_math_bits_deBruijn64tab), ("rosette/shuffle.nibble", laid_rosette_shuffle_nibble)], narrowed := true }
def RingLawsUptoSaid : Prop := ringLawsUptoRow.holds Tryz.pinned (OpenSpec.upto ringLawsSpec)

/-- 'rosettelaw11.RingNever', WHERE WHAT IT READS IS OF BULK AT MOST 1048576: true; the input reads as it did. -/
def ringNeverUptoRow : OpenClaim := { program := "ytfpopdneokekiaagreatdoor", sum := "0c68d545bcbe93762ea7a17c01eab60a363b1a8a473d5671814db978a9a1f45c", func := "rosette/rosettelaw11.RingNever", spec := "ringNever", inPlace := ["math.Float64bits", "math.Float64frombits", "math.sqrt", "math.FMA", "math/bits.Add64", "math/bits.Sub64", "math.RoundToEven"], named := ["math/bits.deBruijn32tab", "math/bits.deBruijn64tab", "math/bits.divideError", "math/bits.overflowError", "rosette/shuffle.nibble"], apart := false, laid := [("math/bits.deBruijn32tab", laid_math_bits_deBruijn32tab), ("math/bits.deBruijn64tab", laid_math_bits_deBruijn64tab), ("rosette/shuffle.nibble", laid_rosette_shuffle_nibble)], narrowed := true }
def RingNeverUptoSaid : Prop := ringNeverUptoRow.holds Tryz.pinned (OpenSpec.upto ringNeverSpec)

/-- 'rosettelaw11.RingKeeps', WHERE WHAT IT READS IS OF BULK AT MOST 1048576: true; the input reads as it did. -/
def ringKeepsUptoRow : OpenClaim := { program := "ytfpopdneokekiaagreatdoor", sum := "0c68d545bcbe93762ea7a17c01eab60a363b1a8a473d5671814db978a9a1f45c", func := "rosette/rosettelaw11.RingKeeps", spec := "ringKeeps", inPlace := ["math.Float64bits", "math.Float64frombits", "math.sqrt", "math.FMA", "math/bits.Add64", "math/bits.Sub64", "math.RoundToEven"], named := ["math/bits.deBruijn32tab", "math/bits.deBruijn64tab", "math/bits.divideError", "math/bits.overflowError", "rosette/shuffle.nibble"], apart := false, laid := [("math/bits.deBruijn32tab", laid_math_bits_deBruijn32tab), ("math/bits.deBruijn64tab", laid_math_bits_deBruijn64tab), ("rosette/shuffle.nibble", laid_rosette_shuffle_nibble)], narrowed := true }
def RingKeepsUptoSaid : Prop := ringKeepsUptoRow.holds Tryz.pinned (OpenSpec.upto ringKeepsSpec)

/-- 'rosettelaw11.RingBounds', WHERE WHAT IT READS IS OF BULK AT MOST 1048576: true; the input reads as it did. -/
def ringBoundsUptoRow : OpenClaim := { program := "ytfpopdneokekiaagreatdoor", sum := "0c68d545bcbe93762ea7a17c01eab60a363b1a8a473d5671814db978a9a1f45c", func := "rosette/rosettelaw11.RingBounds", spec := "ringBounds", inPlace := ["math.Float64bits", "math.Float64frombits", "math.sqrt", "math.FMA", "math/bits.Add64", "math/bits.Sub64", "math.RoundToEven"], recurses := true, named := ["math/bits.deBruijn32tab", "math/bits.deBruijn64tab", "math/bits.divideError", "math/bits.overflowError", "rosette/shuffle.nibble"], apart := false, laid := [("math/bits.deBruijn32tab", laid_math_bits_deBruijn32tab), ("math/bits.deBruijn64tab", laid_math_bits_deBruijn64tab), ("rosette/shuffle.nibble", laid_rosette_shuffle_nibble)], narrowed := true }
def RingBoundsUptoSaid : Prop := ringBoundsUptoRow.holds Tryz.pinned (OpenSpec.upto ringBoundsSpec)

/-- 'rosettelaw11.RingTells', WHERE WHAT IT READS IS OF BULK AT MOST 1048576: true; the input reads as it did. -/
def ringTellsUptoRow : OpenClaim := { program := "ytfpopdneokekiaagreatdoor", sum := "0c68d545bcbe93762ea7a17c01eab60a363b1a8a473d5671814db978a9a1f45c", func := "rosette/rosettelaw11.RingTells", spec := "ringTells", inPlace := ["math.Float64bits", "math.Float64frombits", "math.sqrt", "math.FMA", "math/bits.Add64", "math/bits.Sub64", "math.RoundToEven"], recurses := true, named := ["math/bits.deBruijn32tab", "math/bits.deBruijn64tab", "math/bits.divideError", "math/bits.overflowError", "rosette/shuffle.nibble"], apart := false, laid := [("math/bits.deBruijn32tab", laid_math_bits_deBruijn32tab), ("math/bits.deBruijn64tab", laid_math_bits_deBruijn64tab), ("rosette/shuffle.nibble", laid_rosette_shuffle_nibble)], narrowed := true }
def RingTellsUptoSaid : Prop := ringTellsUptoRow.holds Tryz.pinned (OpenSpec.upto ringTellsSpec)

end Rows
end Go.Proofs.YtfpopdneokekiaaGreatDoor

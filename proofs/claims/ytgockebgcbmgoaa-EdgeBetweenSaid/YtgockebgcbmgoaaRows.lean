/-
  No cell of these rows narrows 'for every input' (looked for: loops, veiled, ifaces, maps, wideKeys, modest, calm, conditions, laid).
  DERIVED. THE GIVEN ROWS OF THIS SEAT. 7 by the template 'for every input the law returns true; each argument reads behind the call as it read before'; 0 by the template 'total and deterministic' (their statements: YtgockebgcbmgoaaTotals.lean).
  GIVEN WITH THE SEED: the statements are not yours to turn. If you find one false, say at which input.
  Laid BY PROGRAM, IN A SANDBOX (cutbox-rows.mjs): the forced cells as the released guide's own fill.sh prints them over the translation b039db414219db0e… (all of the seat's roots in one cut). By AI agents, Wed Nov 11 2026. No macro, syntax, notation, axiom, sorry.
-/
import Derived.Test.YtgockebgcbmgoaaChecked
import GoSem.Claim
import GoSem.ClaimJoined
import GoSem.ClaimMapViews
import Derived.JoinedTies
import Derived.KernelRfl
namespace Go.Proofs.Ytgockebgcbmgoaa
/- THE CELL 'sum', in the pinned program and in every row, IS THE sha256 OF THE DUMP (.gsa) THAT YtgockebgcbmgoaaProg.lean LOADS. Nothing in Lean hashes anything: it is a label: what it is worth is what the hold of that sum in a sandbox is worth. -/
noncomputable def Try.pinned : Pinned := { name := "ytgockebgcbmgoaa", sum := "b039db414219db0e625a3a69d8f16f66da44327bf7ab0b86785a44b7132269c3", checked := Try.checked }
namespace Rows
def none {H : Type} : Left H := { results := [], args := [] }

/-- 'rosettelaw02.EdgeSteps': WHATEVER THE INPUT: true; the input reads as it did. -/
def edgeStepsSpec : ChangeSpec := { name := "edgeSteps", fn := fun _ => fun
  | [d1, d2] => { results := [.lit (.bool true)], args := [d1, d2] }
  | _ => none }
def edgeStepsRow : OpenClaim := { program := "ytgockebgcbmgoaa", sum := "b039db414219db0e625a3a69d8f16f66da44327bf7ab0b86785a44b7132269c3", func := "rosette/rosettelaw02.EdgeSteps", spec := "edgeSteps", inPlace := ["math.Float64bits", "math.Float64frombits", "math.RoundToEven", "math.archTrunc"], recurses := true, apart := false }
def EdgeStepsSaid : Prop := edgeStepsRow.holds Try.pinned (OpenSpec.ofChange edgeStepsSpec)

/-- ITS FALSE NEIGHBOUR: 'it returns false'. Refute it at one input. -/
def edgeStepsWrong : ChangeSpec := { name := "edgeSteps", fn := fun _ => fun
  | [d1, d2] => { results := [.lit (.bool false)], args := [d1, d2] }
  | _ => none }
def EdgeStepsWrongFalsely : Prop := edgeStepsRow.holds Try.pinned (OpenSpec.ofChange edgeStepsWrong)

/-- 'rosettelaw02.EdgeNear': WHATEVER THE INPUT: true; the input reads as it did. -/
def edgeNearSpec : ChangeSpec := { name := "edgeNear", fn := fun _ => fun
  | [d1, d2] => { results := [.lit (.bool true)], args := [d1, d2] }
  | _ => none }
def edgeNearRow : OpenClaim := { program := "ytgockebgcbmgoaa", sum := "b039db414219db0e625a3a69d8f16f66da44327bf7ab0b86785a44b7132269c3", func := "rosette/rosettelaw02.EdgeNear", spec := "edgeNear", inPlace := ["math.Float64bits", "math.Float64frombits", "math.RoundToEven", "math.archTrunc"], apart := false }
def EdgeNearSaid : Prop := edgeNearRow.holds Try.pinned (OpenSpec.ofChange edgeNearSpec)

/-- ITS FALSE NEIGHBOUR: 'it returns false'. Refute it at one input. -/
def edgeNearWrong : ChangeSpec := { name := "edgeNear", fn := fun _ => fun
  | [d1, d2] => { results := [.lit (.bool false)], args := [d1, d2] }
  | _ => none }
def EdgeNearWrongFalsely : Prop := edgeNearRow.holds Try.pinned (OpenSpec.ofChange edgeNearWrong)

/-- 'rosettelaw02.EdgeSums': WHATEVER THE INPUT: true; the input reads as it did. -/
def edgeSumsSpec : ChangeSpec := { name := "edgeSums", fn := fun _ => fun
  | [d1, d2] => { results := [.lit (.bool true)], args := [d1, d2] }
  | _ => none }
def edgeSumsRow : OpenClaim := { program := "ytgockebgcbmgoaa", sum := "b039db414219db0e625a3a69d8f16f66da44327bf7ab0b86785a44b7132269c3", func := "rosette/rosettelaw02.EdgeSums", spec := "edgeSums", inPlace := ["math.Float64bits", "math.Float64frombits", "math.RoundToEven", "math.archTrunc"], recurses := true, apart := false }
def EdgeSumsSaid : Prop := edgeSumsRow.holds Try.pinned (OpenSpec.ofChange edgeSumsSpec)

/-- ITS FALSE NEIGHBOUR: 'it returns false'. Refute it at one input. -/
def edgeSumsWrong : ChangeSpec := { name := "edgeSums", fn := fun _ => fun
  | [d1, d2] => { results := [.lit (.bool false)], args := [d1, d2] }
  | _ => none }
def EdgeSumsWrongFalsely : Prop := edgeSumsRow.holds Try.pinned (OpenSpec.ofChange edgeSumsWrong)

/-- 'rosettelaw02.EdgeTurned': WHATEVER THE INPUT: true; the input reads as it did. -/
def edgeTurnedSpec : ChangeSpec := { name := "edgeTurned", fn := fun _ => fun
  | [d1, d2, d3] => { results := [.lit (.bool true)], args := [d1, d2, d3] }
  | _ => none }
def edgeTurnedRow : OpenClaim := { program := "ytgockebgcbmgoaa", sum := "b039db414219db0e625a3a69d8f16f66da44327bf7ab0b86785a44b7132269c3", func := "rosette/rosettelaw02.EdgeTurned", spec := "edgeTurned", inPlace := ["math.Float64bits", "math.Float64frombits", "math.RoundToEven", "math.archTrunc", "math.FMA"], apart := false }
def EdgeTurnedSaid : Prop := edgeTurnedRow.holds Try.pinned (OpenSpec.ofChange edgeTurnedSpec)

/-- ITS FALSE NEIGHBOUR: 'it returns false'. Refute it at one input. -/
def edgeTurnedWrong : ChangeSpec := { name := "edgeTurned", fn := fun _ => fun
  | [d1, d2, d3] => { results := [.lit (.bool false)], args := [d1, d2, d3] }
  | _ => none }
def EdgeTurnedWrongFalsely : Prop := edgeTurnedRow.holds Try.pinned (OpenSpec.ofChange edgeTurnedWrong)

/-- 'rosettelaw02.EdgeGrows': WHATEVER THE INPUT: true; the input reads as it did. -/
def edgeGrowsSpec : ChangeSpec := { name := "edgeGrows", fn := fun _ => fun
  | [d1, d2, d3, d4, d5] => { results := [.lit (.bool true)], args := [d1, d2, d3, d4, d5] }
  | _ => none }
def edgeGrowsRow : OpenClaim := { program := "ytgockebgcbmgoaa", sum := "b039db414219db0e625a3a69d8f16f66da44327bf7ab0b86785a44b7132269c3", func := "rosette/rosettelaw02.EdgeGrows", spec := "edgeGrows", inPlace := ["math.Float64bits", "math.Float64frombits", "math.RoundToEven", "math.archTrunc", "math.FMA", "math.sqrt"], apart := false }
def EdgeGrowsSaid : Prop := edgeGrowsRow.holds Try.pinned (OpenSpec.ofChange edgeGrowsSpec)

/-- ITS FALSE NEIGHBOUR: 'it returns false'. Refute it at one input. -/
def edgeGrowsWrong : ChangeSpec := { name := "edgeGrows", fn := fun _ => fun
  | [d1, d2, d3, d4, d5] => { results := [.lit (.bool false)], args := [d1, d2, d3, d4, d5] }
  | _ => none }
def EdgeGrowsWrongFalsely : Prop := edgeGrowsRow.holds Try.pinned (OpenSpec.ofChange edgeGrowsWrong)

/-- 'rosettelaw02.EdgeReckons': WHATEVER THE INPUT: true; the input reads as it did. -/
def edgeReckonsSpec : ChangeSpec := { name := "edgeReckons", fn := fun _ => fun
  | [d1, d2, d3] => { results := [.lit (.bool true)], args := [d1, d2, d3] }
  | _ => none }
def edgeReckonsRow : OpenClaim := { program := "ytgockebgcbmgoaa", sum := "b039db414219db0e625a3a69d8f16f66da44327bf7ab0b86785a44b7132269c3", func := "rosette/rosettelaw02.EdgeReckons", spec := "edgeReckons", inPlace := ["math.Float64bits", "math.Float64frombits", "math.RoundToEven", "math.archTrunc", "math.FMA", "math.sqrt"], recurses := true, apart := false }
def EdgeReckonsSaid : Prop := edgeReckonsRow.holds Try.pinned (OpenSpec.ofChange edgeReckonsSpec)

/-- ITS FALSE NEIGHBOUR: 'it returns false'. Refute it at one input. -/
def edgeReckonsWrong : ChangeSpec := { name := "edgeReckons", fn := fun _ => fun
  | [d1, d2, d3] => { results := [.lit (.bool false)], args := [d1, d2, d3] }
  | _ => none }
def EdgeReckonsWrongFalsely : Prop := edgeReckonsRow.holds Try.pinned (OpenSpec.ofChange edgeReckonsWrong)

/-- 'rosettelaw02.EdgeBetween': WHATEVER THE INPUT: true; the input reads as it did. -/
def edgeBetweenSpec : ChangeSpec := { name := "edgeBetween", fn := fun _ => fun
  | [d1, d2, d3] => { results := [.lit (.bool true)], args := [d1, d2, d3] }
  | _ => none }
def edgeBetweenRow : OpenClaim := { program := "ytgockebgcbmgoaa", sum := "b039db414219db0e625a3a69d8f16f66da44327bf7ab0b86785a44b7132269c3", func := "rosette/rosettelaw02.EdgeBetween", spec := "edgeBetween", inPlace := ["math.Float64bits", "math.Float64frombits", "math.RoundToEven", "math.archTrunc", "math.FMA", "math.sqrt"], recurses := true, apart := false }
def EdgeBetweenSaid : Prop := edgeBetweenRow.holds Try.pinned (OpenSpec.ofChange edgeBetweenSpec)

/-- ITS FALSE NEIGHBOUR: 'it returns false'. Refute it at one input. -/
def edgeBetweenWrong : ChangeSpec := { name := "edgeBetween", fn := fun _ => fun
  | [d1, d2, d3] => { results := [.lit (.bool false)], args := [d1, d2, d3] }
  | _ => none }
def EdgeBetweenWrongFalsely : Prop := edgeBetweenRow.holds Try.pinned (OpenSpec.ofChange edgeBetweenWrong)

/- THE SECOND FORM. 'bulk': how many values and letters a reading holds, each counted each time it is reached (what is shared counts as often as it is met; a slice's spare places count too). A statement '..UptoSaid' is the law's where the arguments, and the package variables that the reading takes, are together of bulk at most 1048576: NARROWER than '..Said'. Prove '..Said' where nothing that the law and all that it calls make is longer than what came in: it says more and counts as full. Else prove '..UptoSaid'. A law counts once. -/
mutual
def uptoBulk {H : Type} : DataW H → Nat
  | .lit (.string bytes) => bytes.length + 1
  | .lit _ => 1
  | .nil => 1
  | .ptr d => uptoBulk d + 1
  | .slice elems spare => uptoBulkAll elems + uptoBulkAll spare + 1
  | .agg parts => uptoBulkAll parts + 1
  | .iface _ d => uptoBulk d + 1
  | .map entries => uptoBulkEntries entries + 1
  | .held _ => 1
def uptoBulkAll {H : Type} : List (DataW H) → Nat
  | [] => 0
  | d :: r => uptoBulk d + uptoBulkAll r
def uptoBulkEntries {H : Type} : List (Lit × DataW H) → Nat
  | [] => 0
  | x :: r => uptoBulkEntry x + uptoBulkEntries r
def uptoBulkEntry {H : Type} : Lit × DataW H → Nat
  | (.string bytes, d) => bytes.length + uptoBulk d + 1
  | (_, d) => uptoBulk d + 1
 end
def uptoSmall : (H : Type) → List (DataW H) → Bool := fun _ ds => decide (uptoBulkAll ds ≤ 1048576)
def OpenSpec.upto (s : _root_.Go.ChangeSpec) : _root_.Go.OpenSpec := { _root_.Go.OpenSpec.ofChange s with cond := some uptoSmall }

/-- 'rosettelaw02.EdgeSteps', WHERE WHAT IT READS IS OF BULK AT MOST 1048576: true; the input reads as it did. -/
def edgeStepsUptoRow : OpenClaim := { program := "ytgockebgcbmgoaa", sum := "b039db414219db0e625a3a69d8f16f66da44327bf7ab0b86785a44b7132269c3", func := "rosette/rosettelaw02.EdgeSteps", spec := "edgeSteps", inPlace := ["math.Float64bits", "math.Float64frombits", "math.RoundToEven", "math.archTrunc"], recurses := true, apart := false, narrowed := true }
def EdgeStepsUptoSaid : Prop := edgeStepsUptoRow.holds Try.pinned (OpenSpec.upto edgeStepsSpec)

/-- 'rosettelaw02.EdgeNear', WHERE WHAT IT READS IS OF BULK AT MOST 1048576: true; the input reads as it did. -/
def edgeNearUptoRow : OpenClaim := { program := "ytgockebgcbmgoaa", sum := "b039db414219db0e625a3a69d8f16f66da44327bf7ab0b86785a44b7132269c3", func := "rosette/rosettelaw02.EdgeNear", spec := "edgeNear", inPlace := ["math.Float64bits", "math.Float64frombits", "math.RoundToEven", "math.archTrunc"], apart := false, narrowed := true }
def EdgeNearUptoSaid : Prop := edgeNearUptoRow.holds Try.pinned (OpenSpec.upto edgeNearSpec)

/-- 'rosettelaw02.EdgeSums', WHERE WHAT IT READS IS OF BULK AT MOST 1048576: true; the input reads as it did. -/
def edgeSumsUptoRow : OpenClaim := { program := "ytgockebgcbmgoaa", sum := "b039db414219db0e625a3a69d8f16f66da44327bf7ab0b86785a44b7132269c3", func := "rosette/rosettelaw02.EdgeSums", spec := "edgeSums", inPlace := ["math.Float64bits", "math.Float64frombits", "math.RoundToEven", "math.archTrunc"], recurses := true, apart := false, narrowed := true }
def EdgeSumsUptoSaid : Prop := edgeSumsUptoRow.holds Try.pinned (OpenSpec.upto edgeSumsSpec)

/-- 'rosettelaw02.EdgeTurned', WHERE WHAT IT READS IS OF BULK AT MOST 1048576: true; the input reads as it did. -/
def edgeTurnedUptoRow : OpenClaim := { program := "ytgockebgcbmgoaa", sum := "b039db414219db0e625a3a69d8f16f66da44327bf7ab0b86785a44b7132269c3", func := "rosette/rosettelaw02.EdgeTurned", spec := "edgeTurned", inPlace := ["math.Float64bits", "math.Float64frombits", "math.RoundToEven", "math.archTrunc", "math.FMA"], apart := false, narrowed := true }
def EdgeTurnedUptoSaid : Prop := edgeTurnedUptoRow.holds Try.pinned (OpenSpec.upto edgeTurnedSpec)

/-- 'rosettelaw02.EdgeGrows', WHERE WHAT IT READS IS OF BULK AT MOST 1048576: true; the input reads as it did. -/
def edgeGrowsUptoRow : OpenClaim := { program := "ytgockebgcbmgoaa", sum := "b039db414219db0e625a3a69d8f16f66da44327bf7ab0b86785a44b7132269c3", func := "rosette/rosettelaw02.EdgeGrows", spec := "edgeGrows", inPlace := ["math.Float64bits", "math.Float64frombits", "math.RoundToEven", "math.archTrunc", "math.FMA", "math.sqrt"], apart := false, narrowed := true }
def EdgeGrowsUptoSaid : Prop := edgeGrowsUptoRow.holds Try.pinned (OpenSpec.upto edgeGrowsSpec)

/-- 'rosettelaw02.EdgeReckons', WHERE WHAT IT READS IS OF BULK AT MOST 1048576: true; the input reads as it did. -/
def edgeReckonsUptoRow : OpenClaim := { program := "ytgockebgcbmgoaa", sum := "b039db414219db0e625a3a69d8f16f66da44327bf7ab0b86785a44b7132269c3", func := "rosette/rosettelaw02.EdgeReckons", spec := "edgeReckons", inPlace := ["math.Float64bits", "math.Float64frombits", "math.RoundToEven", "math.archTrunc", "math.FMA", "math.sqrt"], recurses := true, apart := false, narrowed := true }
def EdgeReckonsUptoSaid : Prop := edgeReckonsUptoRow.holds Try.pinned (OpenSpec.upto edgeReckonsSpec)

/-- 'rosettelaw02.EdgeBetween', WHERE WHAT IT READS IS OF BULK AT MOST 1048576: true; the input reads as it did. -/
def edgeBetweenUptoRow : OpenClaim := { program := "ytgockebgcbmgoaa", sum := "b039db414219db0e625a3a69d8f16f66da44327bf7ab0b86785a44b7132269c3", func := "rosette/rosettelaw02.EdgeBetween", spec := "edgeBetween", inPlace := ["math.Float64bits", "math.Float64frombits", "math.RoundToEven", "math.archTrunc", "math.FMA", "math.sqrt"], recurses := true, apart := false, narrowed := true }
def EdgeBetweenUptoSaid : Prop := edgeBetweenUptoRow.holds Try.pinned (OpenSpec.upto edgeBetweenSpec)

end Rows
end Go.Proofs.Ytgockebgcbmgoaa

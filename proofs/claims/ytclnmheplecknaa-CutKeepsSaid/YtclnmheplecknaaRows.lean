/-
  No cell of these rows narrows 'for every input' (looked for: loops, veiled, ifaces, maps, wideKeys, modest, calm, conditions, laid).
  DERIVED. THE GIVEN ROWS OF THIS SEAT. 8 by the template 'for every input the law returns true; each argument reads behind the call as it read before'; 0 by the template 'total and deterministic' (their statements: YtclnmheplecknaaTotals.lean).
  GIVEN WITH THE SEED: the statements are not yours to turn. If you find one false, say at which input.
  Laid BY PROGRAM, IN A SANDBOX (cutbox-rows.mjs): the forced cells as the released guide's own fill.sh prints them over the translation 1e3811f393c9c705… (all of the seat's roots in one cut). By AI agents, Wed Nov 11 2026. No macro, syntax, notation, axiom, sorry.
-/
import Derived.Test.YtclnmheplecknaaChecked
import GoSem.Claim
import GoSem.ClaimJoined
import GoSem.ClaimMapViews
import Derived.JoinedTies
import Derived.KernelRfl
namespace Go.Proofs.Ytclnmheplecknaa
/- THE CELL 'sum', in the pinned program and in every row, IS THE sha256 OF THE DUMP (.gsa) THAT YtclnmheplecknaaProg.lean LOADS. Nothing in Lean hashes anything: it is a label: what it is worth is what the hold of that sum in a sandbox is worth. -/
noncomputable def Try.pinned : Pinned := { name := "ytclnmheplecknaa", sum := "1e3811f393c9c70577d4e3f70158a7b396bdab0a7435caa9a2b8d21989e7e789", checked := Try.checked }
namespace Rows
def none {H : Type} : Left H := { results := [], args := [] }

/-- 'rosettelaw14.CutDigits': WHATEVER THE INPUT: true; the input reads as it did. -/
def cutDigitsSpec : ChangeSpec := { name := "cutDigits", fn := fun _ => fun
  | [d1, d2] => { results := [.lit (.bool true)], args := [d1, d2] }
  | _ => none }
def cutDigitsRow : OpenClaim := { program := "ytclnmheplecknaa", sum := "1e3811f393c9c70577d4e3f70158a7b396bdab0a7435caa9a2b8d21989e7e789", func := "rosette/rosettelaw14.CutDigits", spec := "cutDigits", inPlace := ["math.Float64bits", "math.Float64frombits", "math.sqrt", "math.FMA"], unfollowed := true, recurses := true, apart := false }
def CutDigitsSaid : Prop := cutDigitsRow.holds Try.pinned (OpenSpec.ofChange cutDigitsSpec)

/-- ITS FALSE NEIGHBOUR: 'it returns false'. Refute it at one input. -/
def cutDigitsWrong : ChangeSpec := { name := "cutDigits", fn := fun _ => fun
  | [d1, d2] => { results := [.lit (.bool false)], args := [d1, d2] }
  | _ => none }
def CutDigitsWrongFalsely : Prop := cutDigitsRow.holds Try.pinned (OpenSpec.ofChange cutDigitsWrong)

/-- 'rosettelaw14.CutWholes': WHATEVER THE INPUT: true; the input reads as it did. -/
def cutWholesSpec : ChangeSpec := { name := "cutWholes", fn := fun _ => fun
  | [d1, d2] => { results := [.lit (.bool true)], args := [d1, d2] }
  | _ => none }
def cutWholesRow : OpenClaim := { program := "ytclnmheplecknaa", sum := "1e3811f393c9c70577d4e3f70158a7b396bdab0a7435caa9a2b8d21989e7e789", func := "rosette/rosettelaw14.CutWholes", spec := "cutWholes", inPlace := ["math.Float64bits", "math.Float64frombits", "math.sqrt", "math.FMA"], unfollowed := true, recurses := true, apart := false }
def CutWholesSaid : Prop := cutWholesRow.holds Try.pinned (OpenSpec.ofChange cutWholesSpec)

/-- ITS FALSE NEIGHBOUR: 'it returns false'. Refute it at one input. -/
def cutWholesWrong : ChangeSpec := { name := "cutWholes", fn := fun _ => fun
  | [d1, d2] => { results := [.lit (.bool false)], args := [d1, d2] }
  | _ => none }
def CutWholesWrongFalsely : Prop := cutWholesRow.holds Try.pinned (OpenSpec.ofChange cutWholesWrong)

/-- 'rosettelaw14.CutLong': WHATEVER THE INPUT: true; the input reads as it did. -/
def cutLongSpec : ChangeSpec := { name := "cutLong", fn := fun _ => fun
  | [d1, d2, d3] => { results := [.lit (.bool true)], args := [d1, d2, d3] }
  | _ => none }
def cutLongRow : OpenClaim := { program := "ytclnmheplecknaa", sum := "1e3811f393c9c70577d4e3f70158a7b396bdab0a7435caa9a2b8d21989e7e789", func := "rosette/rosettelaw14.CutLong", spec := "cutLong", inPlace := ["math.Float64bits", "math.Float64frombits", "math.sqrt", "math.FMA"], unfollowed := true, recurses := true, apart := false }
def CutLongSaid : Prop := cutLongRow.holds Try.pinned (OpenSpec.ofChange cutLongSpec)

/-- ITS FALSE NEIGHBOUR: 'it returns false'. Refute it at one input. -/
def cutLongWrong : ChangeSpec := { name := "cutLong", fn := fun _ => fun
  | [d1, d2, d3] => { results := [.lit (.bool false)], args := [d1, d2, d3] }
  | _ => none }
def CutLongWrongFalsely : Prop := cutLongRow.holds Try.pinned (OpenSpec.ofChange cutLongWrong)

/-- 'rosettelaw14.CutBack': WHATEVER THE INPUT: true; the input reads as it did. -/
def cutBackSpec : ChangeSpec := { name := "cutBack", fn := fun _ => fun
  | [d1, d2, d3] => { results := [.lit (.bool true)], args := [d1, d2, d3] }
  | _ => none }
def cutBackRow : OpenClaim := { program := "ytclnmheplecknaa", sum := "1e3811f393c9c70577d4e3f70158a7b396bdab0a7435caa9a2b8d21989e7e789", func := "rosette/rosettelaw14.CutBack", spec := "cutBack", inPlace := ["math.Float64bits", "math.Float64frombits", "math.sqrt", "math.FMA"], unfollowed := true, recurses := true, apart := false }
def CutBackSaid : Prop := cutBackRow.holds Try.pinned (OpenSpec.ofChange cutBackSpec)

/-- ITS FALSE NEIGHBOUR: 'it returns false'. Refute it at one input. -/
def cutBackWrong : ChangeSpec := { name := "cutBack", fn := fun _ => fun
  | [d1, d2, d3] => { results := [.lit (.bool false)], args := [d1, d2, d3] }
  | _ => none }
def CutBackWrongFalsely : Prop := cutBackRow.holds Try.pinned (OpenSpec.ofChange cutBackWrong)

/-- 'rosettelaw14.CutNarrow': WHATEVER THE INPUT: true; the input reads as it did. -/
def cutNarrowSpec : ChangeSpec := { name := "cutNarrow", fn := fun _ => fun
  | [d] => { results := [.lit (.bool true)], args := [d] }
  | _ => none }
def cutNarrowRow : OpenClaim := { program := "ytclnmheplecknaa", sum := "1e3811f393c9c70577d4e3f70158a7b396bdab0a7435caa9a2b8d21989e7e789", func := "rosette/rosettelaw14.CutNarrow", spec := "cutNarrow", inPlace := ["math.Float64bits", "math.Float64frombits", "math.sqrt", "math.FMA"], unfollowed := true, recurses := true, apart := false }
def CutNarrowSaid : Prop := cutNarrowRow.holds Try.pinned (OpenSpec.ofChange cutNarrowSpec)

/-- ITS FALSE NEIGHBOUR: 'it returns false'. Refute it at one input. -/
def cutNarrowWrong : ChangeSpec := { name := "cutNarrow", fn := fun _ => fun
  | [d] => { results := [.lit (.bool false)], args := [d] }
  | _ => none }
def CutNarrowWrongFalsely : Prop := cutNarrowRow.holds Try.pinned (OpenSpec.ofChange cutNarrowWrong)

/-- 'rosettelaw14.CutKeeps': WHATEVER THE INPUT: true; the input reads as it did. -/
def cutKeepsSpec : ChangeSpec := { name := "cutKeeps", fn := fun _ => fun
  | [d1, d2] => { results := [.lit (.bool true)], args := [d1, d2] }
  | _ => none }
def cutKeepsRow : OpenClaim := { program := "ytclnmheplecknaa", sum := "1e3811f393c9c70577d4e3f70158a7b396bdab0a7435caa9a2b8d21989e7e789", func := "rosette/rosettelaw14.CutKeeps", spec := "cutKeeps", inPlace := ["math.Float64bits", "math.Float64frombits", "math.sqrt", "math.FMA"], unfollowed := true, recurses := true, apart := false }
def CutKeepsSaid : Prop := cutKeepsRow.holds Try.pinned (OpenSpec.ofChange cutKeepsSpec)

/-- ITS FALSE NEIGHBOUR: 'it returns false'. Refute it at one input. -/
def cutKeepsWrong : ChangeSpec := { name := "cutKeeps", fn := fun _ => fun
  | [d1, d2] => { results := [.lit (.bool false)], args := [d1, d2] }
  | _ => none }
def CutKeepsWrongFalsely : Prop := cutKeepsRow.holds Try.pinned (OpenSpec.ofChange cutKeepsWrong)

/-- 'rosettelaw14.CutWidths': WHATEVER THE INPUT: true; the input reads as it did. -/
def cutWidthsSpec : ChangeSpec := { name := "cutWidths", fn := fun _ => fun
  | [d] => { results := [.lit (.bool true)], args := [d] }
  | _ => none }
def cutWidthsRow : OpenClaim := { program := "ytclnmheplecknaa", sum := "1e3811f393c9c70577d4e3f70158a7b396bdab0a7435caa9a2b8d21989e7e789", func := "rosette/rosettelaw14.CutWidths", spec := "cutWidths", inPlace := ["math.Float64bits", "math.Float64frombits", "math.sqrt", "math.FMA"], unfollowed := true, recurses := true, apart := false }
def CutWidthsSaid : Prop := cutWidthsRow.holds Try.pinned (OpenSpec.ofChange cutWidthsSpec)

/-- ITS FALSE NEIGHBOUR: 'it returns false'. Refute it at one input. -/
def cutWidthsWrong : ChangeSpec := { name := "cutWidths", fn := fun _ => fun
  | [d] => { results := [.lit (.bool false)], args := [d] }
  | _ => none }
def CutWidthsWrongFalsely : Prop := cutWidthsRow.holds Try.pinned (OpenSpec.ofChange cutWidthsWrong)

/-- 'rosettelaw14.CutSums': WHATEVER THE INPUT: true; the input reads as it did. -/
def cutSumsSpec : ChangeSpec := { name := "cutSums", fn := fun _ => fun
  | [d1, d2, d3] => { results := [.lit (.bool true)], args := [d1, d2, d3] }
  | _ => none }
def cutSumsRow : OpenClaim := { program := "ytclnmheplecknaa", sum := "1e3811f393c9c70577d4e3f70158a7b396bdab0a7435caa9a2b8d21989e7e789", func := "rosette/rosettelaw14.CutSums", spec := "cutSums", inPlace := ["math.Float64bits", "math.Float64frombits", "math.sqrt", "math.FMA", "math/bits.Add64", "math/bits.Sub64"], unfollowed := true, recurses := true, apart := false }
def CutSumsSaid : Prop := cutSumsRow.holds Try.pinned (OpenSpec.ofChange cutSumsSpec)

/-- ITS FALSE NEIGHBOUR: 'it returns false'. Refute it at one input. -/
def cutSumsWrong : ChangeSpec := { name := "cutSums", fn := fun _ => fun
  | [d1, d2, d3] => { results := [.lit (.bool false)], args := [d1, d2, d3] }
  | _ => none }
def CutSumsWrongFalsely : Prop := cutSumsRow.holds Try.pinned (OpenSpec.ofChange cutSumsWrong)

/- THE SECOND FORM. 'bulk': how many values and letters a reading holds, each counted each time it is reached (what is shared counts as often as it is met; a slice's spare places count too). A statement '..UptoSaid' is the law's where the arguments, and the package variables that the reading takes, are together of bulk at most 1048576: NARROWER than '..Said'. Prove '..Said' where nothing that the law and all that it calls make is longer than what came in: it says more and counts as full. Else prove '..UptoSaid'. A law counts once. -/
mutual
def uptoBulk {H : Type} : DataW H → Nat
  | .lit (.string bytes) => bytes.length + 1
  | .lit _ => 1
  | .nil => 1
  | .ptr d => uptoBulk d + 1
  | .slice elems spare => uptoBulkAll elems + uptoBulkAll spare + 1
  | .agg parts => uptoBulkAll parts + 1
  | .iface _ d => uptoBulk d + 1
  | .map entries => uptoBulkEntries entries + 1
  | .held _ => 1
def uptoBulkAll {H : Type} : List (DataW H) → Nat
  | [] => 0
  | d :: r => uptoBulk d + uptoBulkAll r
def uptoBulkEntries {H : Type} : List (Lit × DataW H) → Nat
  | [] => 0
  | x :: r => uptoBulkEntry x + uptoBulkEntries r
def uptoBulkEntry {H : Type} : Lit × DataW H → Nat
  | (.string bytes, d) => bytes.length + uptoBulk d + 1
  | (_, d) => uptoBulk d + 1
 end
def uptoSmall : (H : Type) → List (DataW H) → Bool := fun _ ds => decide (uptoBulkAll ds ≤ 1048576)
def OpenSpec.upto (s : _root_.Go.ChangeSpec) : _root_.Go.OpenSpec := { _root_.Go.OpenSpec.ofChange s with cond := some uptoSmall }

/-- 'rosettelaw14.CutDigits', WHERE WHAT IT READS IS OF BULK AT MOST 1048576: true; the input reads as it did. -/
def cutDigitsUptoRow : OpenClaim := { program := "ytclnmheplecknaa", sum := "1e3811f393c9c70577d4e3f70158a7b396bdab0a7435caa9a2b8d21989e7e789", func := "rosette/rosettelaw14.CutDigits", spec := "cutDigits", inPlace := ["math.Float64bits", "math.Float64frombits", "math.sqrt", "math.FMA"], unfollowed := true, recurses := true, apart := false, narrowed := true }
def CutDigitsUptoSaid : Prop := cutDigitsUptoRow.holds Try.pinned (OpenSpec.upto cutDigitsSpec)

/-- 'rosettelaw14.CutWholes', WHERE WHAT IT READS IS OF BULK AT MOST 1048576: true; the input reads as it did. -/
def cutWholesUptoRow : OpenClaim := { program := "ytclnmheplecknaa", sum := "1e3811f393c9c70577d4e3f70158a7b396bdab0a7435caa9a2b8d21989e7e789", func := "rosette/rosettelaw14.CutWholes", spec := "cutWholes", inPlace := ["math.Float64bits", "math.Float64frombits", "math.sqrt", "math.FMA"], unfollowed := true, recurses := true, apart := false, narrowed := true }
def CutWholesUptoSaid : Prop := cutWholesUptoRow.holds Try.pinned (OpenSpec.upto cutWholesSpec)

/-- 'rosettelaw14.CutLong', WHERE WHAT IT READS IS OF BULK AT MOST 1048576: true; the input reads as it did. -/
def cutLongUptoRow : OpenClaim := { program := "ytclnmheplecknaa", sum := "1e3811f393c9c70577d4e3f70158a7b396bdab0a7435caa9a2b8d21989e7e789", func := "rosette/rosettelaw14.CutLong", spec := "cutLong", inPlace := ["math.Float64bits", "math.Float64frombits", "math.sqrt", "math.FMA"], unfollowed := true, recurses := true, apart := false, narrowed := true }
def CutLongUptoSaid : Prop := cutLongUptoRow.holds Try.pinned (OpenSpec.upto cutLongSpec)

/-- 'rosettelaw14.CutBack', WHERE WHAT IT READS IS OF BULK AT MOST 1048576: true; the input reads as it did. -/
def cutBackUptoRow : OpenClaim := { program := "ytclnmheplecknaa", sum := "1e3811f393c9c70577d4e3f70158a7b396bdab0a7435caa9a2b8d21989e7e789", func := "rosette/rosettelaw14.CutBack", spec := "cutBack", inPlace := ["math.Float64bits", "math.Float64frombits", "math.sqrt", "math.FMA"], unfollowed := true, recurses := true, apart := false, narrowed := true }
def CutBackUptoSaid : Prop := cutBackUptoRow.holds Try.pinned (OpenSpec.upto cutBackSpec)

/-- 'rosettelaw14.CutNarrow', WHERE WHAT IT READS IS OF BULK AT MOST 1048576: true; the input reads as it did. -/
def cutNarrowUptoRow : OpenClaim := { program := "ytclnmheplecknaa", sum := "1e3811f393c9c70577d4e3f70158a7b396bdab0a7435caa9a2b8d21989e7e789", func := "rosette/rosettelaw14.CutNarrow", spec := "cutNarrow", inPlace := ["math.Float64bits", "math.Float64frombits", "math.sqrt", "math.FMA"], unfollowed := true, recurses := true, apart := false, narrowed := true }
def CutNarrowUptoSaid : Prop := cutNarrowUptoRow.holds Try.pinned (OpenSpec.upto cutNarrowSpec)

/-- 'rosettelaw14.CutKeeps', WHERE WHAT IT READS IS OF BULK AT MOST 1048576: true; the input reads as it did. -/
def cutKeepsUptoRow : OpenClaim := { program := "ytclnmheplecknaa", sum := "1e3811f393c9c70577d4e3f70158a7b396bdab0a7435caa9a2b8d21989e7e789", func := "rosette/rosettelaw14.CutKeeps", spec := "cutKeeps", inPlace := ["math.Float64bits", "math.Float64frombits", "math.sqrt", "math.FMA"], unfollowed := true, recurses := true, apart := false, narrowed := true }
def CutKeepsUptoSaid : Prop := cutKeepsUptoRow.holds Try.pinned (OpenSpec.upto cutKeepsSpec)

/-- 'rosettelaw14.CutWidths', WHERE WHAT IT READS IS OF BULK AT MOST 1048576: true; the input reads as it did. -/
def cutWidthsUptoRow : OpenClaim := { program := "ytclnmheplecknaa", sum := "1e3811f393c9c70577d4e3f70158a7b396bdab0a7435caa9a2b8d21989e7e789", func := "rosette/rosettelaw14.CutWidths", spec := "cutWidths", inPlace := ["math.Float64bits", "math.Float64frombits", "math.sqrt", "math.FMA"], unfollowed := true, recurses := true, apart := false, narrowed := true }
def CutWidthsUptoSaid : Prop := cutWidthsUptoRow.holds Try.pinned (OpenSpec.upto cutWidthsSpec)

/-- 'rosettelaw14.CutSums', WHERE WHAT IT READS IS OF BULK AT MOST 1048576: true; the input reads as it did. -/
def cutSumsUptoRow : OpenClaim := { program := "ytclnmheplecknaa", sum := "1e3811f393c9c70577d4e3f70158a7b396bdab0a7435caa9a2b8d21989e7e789", func := "rosette/rosettelaw14.CutSums", spec := "cutSums", inPlace := ["math.Float64bits", "math.Float64frombits", "math.sqrt", "math.FMA", "math/bits.Add64", "math/bits.Sub64"], unfollowed := true, recurses := true, apart := false, narrowed := true }
def CutSumsUptoSaid : Prop := cutSumsUptoRow.holds Try.pinned (OpenSpec.upto cutSumsSpec)

end Rows
end Go.Proofs.Ytclnmheplecknaa

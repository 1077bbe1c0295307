/-
  No cell of these rows narrows 'for every input' (looked for: loops, veiled, ifaces, maps, wideKeys, modest, calm, conditions, laid).
  DERIVED. THE GIVEN ROWS OF THIS SEAT. 3 by the template 'for every input the law returns true; each argument reads behind the call as it read before'; 0 by the template 'total and deterministic' (their statements: YtanpcieipgdnkaaTotals.lean).
  GIVEN WITH THE SEED: the statements are not yours to turn. If you find one false, say at which input.
  Laid BY PROGRAM, IN A SANDBOX (cutbox-rows.mjs): the forced cells as the released guide's own fill.sh prints them over the translation 768b9df41d5734be… (all of the seat's roots in one cut). By AI agents, Wed Nov 11 2026. No macro, syntax, notation, axiom, sorry.
-/
import Derived.Test.YtanpcieipgdnkaaChecked
import GoSem.Claim
import GoSem.ClaimJoined
import GoSem.ClaimMapViews
import Derived.JoinedTies
import Derived.KernelRfl
namespace Go.Proofs.Ytanpcieipgdnkaa
/- THE CELL 'sum', in the pinned program and in every row, IS THE sha256 OF THE DUMP (.gsa) THAT YtanpcieipgdnkaaProg.lean LOADS. Nothing in Lean hashes anything: it is a label: what it is worth is what the hold of that sum in a sandbox is worth. -/
noncomputable def Try.pinned : Pinned := { name := "ytanpcieipgdnkaa", sum := "768b9df41d5734bea801c50b410e05919520777ba54439b2fc00480dc240cc75", checked := Try.checked }
namespace Rows
def none {H : Type} : Left H := { results := [], args := [] }

/-- 'rosettelaw09.FaultTells': WHATEVER THE INPUT: true; the input reads as it did. -/
def faultTellsSpec : ChangeSpec := { name := "faultTells", fn := fun _ => fun
  | [d1, d2, d3] => { results := [.lit (.bool true)], args := [d1, d2, d3] }
  | _ => none }
def faultTellsRow : OpenClaim := { program := "ytanpcieipgdnkaa", sum := "768b9df41d5734bea801c50b410e05919520777ba54439b2fc00480dc240cc75", func := "rosette/rosettelaw09.FaultTells", spec := "faultTells", inPlace := ["math.Float64bits", "math.Float64frombits", "math.FMA", "math.sqrt"], recurses := true, apart := false }
def FaultTellsSaid : Prop := faultTellsRow.holds Try.pinned (OpenSpec.ofChange faultTellsSpec)

/-- ITS FALSE NEIGHBOUR: 'it returns false'. Refute it at one input. -/
def faultTellsWrong : ChangeSpec := { name := "faultTells", fn := fun _ => fun
  | [d1, d2, d3] => { results := [.lit (.bool false)], args := [d1, d2, d3] }
  | _ => none }
def FaultTellsWrongFalsely : Prop := faultTellsRow.holds Try.pinned (OpenSpec.ofChange faultTellsWrong)

/-- 'rosettelaw09.FaultNumbers': WHATEVER THE INPUT: true; the input reads as it did. -/
def faultNumbersSpec : ChangeSpec := { name := "faultNumbers", fn := fun _ => fun
  | [] => { results := [.lit (.bool true)], args := [] }
  | _ => none }
def faultNumbersRow : OpenClaim := { program := "ytanpcieipgdnkaa", sum := "768b9df41d5734bea801c50b410e05919520777ba54439b2fc00480dc240cc75", func := "rosette/rosettelaw09.FaultNumbers", spec := "faultNumbers", inPlace := ["math.Float64bits", "math.Float64frombits", "math.FMA", "math.sqrt"], recurses := true, apart := false }
def FaultNumbersSaid : Prop := faultNumbersRow.holds Try.pinned (OpenSpec.ofChange faultNumbersSpec)

/-- ITS FALSE NEIGHBOUR: 'it returns false'. Refute it at one input. -/
def faultNumbersWrong : ChangeSpec := { name := "faultNumbers", fn := fun _ => fun
  | [] => { results := [.lit (.bool false)], args := [] }
  | _ => none }
def FaultNumbersWrongFalsely : Prop := faultNumbersRow.holds Try.pinned (OpenSpec.ofChange faultNumbersWrong)

/-- 'rosettelaw09.FaultGrows': WHATEVER THE INPUT: true; the input reads as it did. -/
def faultGrowsSpec : ChangeSpec := { name := "faultGrows", fn := fun _ => fun
  | [d1, d2, d3, d4] => { results := [.lit (.bool true)], args := [d1, d2, d3, d4] }
  | _ => none }
def faultGrowsRow : OpenClaim := { program := "ytanpcieipgdnkaa", sum := "768b9df41d5734bea801c50b410e05919520777ba54439b2fc00480dc240cc75", func := "rosette/rosettelaw09.FaultGrows", spec := "faultGrows", inPlace := ["math.Float64bits", "math.Float64frombits", "math.FMA", "math.sqrt"], apart := false }
def FaultGrowsSaid : Prop := faultGrowsRow.holds Try.pinned (OpenSpec.ofChange faultGrowsSpec)

/-- ITS FALSE NEIGHBOUR: 'it returns false'. Refute it at one input. -/
def faultGrowsWrong : ChangeSpec := { name := "faultGrows", fn := fun _ => fun
  | [d1, d2, d3, d4] => { results := [.lit (.bool false)], args := [d1, d2, d3, d4] }
  | _ => none }
def FaultGrowsWrongFalsely : Prop := faultGrowsRow.holds Try.pinned (OpenSpec.ofChange faultGrowsWrong)

/- THE SECOND FORM. 'bulk': how many values and letters a reading holds, each counted each time it is reached (what is shared counts as often as it is met; a slice's spare places count too). A statement '..UptoSaid' is the law's where the arguments, and the package variables that the reading takes, are together of bulk at most 1048576: NARROWER than '..Said'. Prove '..Said' where nothing that the law and all that it calls make is longer than what came in: it says more and counts as full. Else prove '..UptoSaid'. A law counts once. -/
mutual
def uptoBulk {H : Type} : DataW H → Nat
  | .lit (.string bytes) => bytes.length + 1
  | .lit _ => 1
  | .nil => 1
  | .ptr d => uptoBulk d + 1
  | .slice elems spare => uptoBulkAll elems + uptoBulkAll spare + 1
  | .agg parts => uptoBulkAll parts + 1
  | .iface _ d => uptoBulk d + 1
  | .map entries => uptoBulkEntries entries + 1
  | .held _ => 1
def uptoBulkAll {H : Type} : List (DataW H) → Nat
  | [] => 0
  | d :: r => uptoBulk d + uptoBulkAll r
def uptoBulkEntries {H : Type} : List (Lit × DataW H) → Nat
  | [] => 0
  | x :: r => uptoBulkEntry x + uptoBulkEntries r
def uptoBulkEntry {H : Type} : Lit × DataW H → Nat
  | (.string bytes, d) => bytes.length + uptoBulk d + 1
  | (_, d) => uptoBulk d + 1
 end
def uptoSmall : (H : Type) → List (DataW H) → Bool := fun _ ds => decide (uptoBulkAll ds ≤ 1048576)
def OpenSpec.upto (s : _root_.Go.ChangeSpec) : _root_.Go.OpenSpec := { _root_.Go.OpenSpec.ofChange s with cond := some uptoSmall }

/-- 'rosettelaw09.FaultTells', WHERE WHAT IT READS IS OF BULK AT MOST 1048576: true; the input reads as it did. -/
def faultTellsUptoRow : OpenClaim := { program := "ytanpcieipgdnkaa", sum := "768b9df41d5734bea801c50b410e05919520777ba54439b2fc00480dc240cc75", func := "rosette/rosettelaw09.FaultTells", spec := "faultTells", inPlace := ["math.Float64bits", "math.Float64frombits", "math.FMA", "math.sqrt"], recurses := true, apart := false, narrowed := true }
def FaultTellsUptoSaid : Prop := faultTellsUptoRow.holds Try.pinned (OpenSpec.upto faultTellsSpec)

/-- 'rosettelaw09.FaultNumbers', WHERE WHAT IT READS IS OF BULK AT MOST 1048576: true; the input reads as it did. -/
def faultNumbersUptoRow : OpenClaim := { program := "ytanpcieipgdnkaa", sum := "768b9df41d5734bea801c50b410e05919520777ba54439b2fc00480dc240cc75", func := "rosette/rosettelaw09.FaultNumbers", spec := "faultNumbers", inPlace := ["math.Float64bits", "math.Float64frombits", "math.FMA", "math.sqrt"], recurses := true, apart := false, narrowed := true }
def FaultNumbersUptoSaid : Prop := faultNumbersUptoRow.holds Try.pinned (OpenSpec.upto faultNumbersSpec)

/-- 'rosettelaw09.FaultGrows', WHERE WHAT IT READS IS OF BULK AT MOST 1048576: true; the input reads as it did. -/
def faultGrowsUptoRow : OpenClaim := { program := "ytanpcieipgdnkaa", sum := "768b9df41d5734bea801c50b410e05919520777ba54439b2fc00480dc240cc75", func := "rosette/rosettelaw09.FaultGrows", spec := "faultGrows", inPlace := ["math.Float64bits", "math.Float64frombits", "math.FMA", "math.sqrt"], apart := false, narrowed := true }
def FaultGrowsUptoSaid : Prop := faultGrowsUptoRow.holds Try.pinned (OpenSpec.upto faultGrowsSpec)

end Rows
end Go.Proofs.Ytanpcieipgdnkaa

/-
  The walk of EdgeSteps: it answers true.
-/
import Derived.Test.YtanpcieipgdnkaaAwake
import Derived.RowKit3
set_option linter.unusedVariables false
set_option linter.unusedSimpArgs false
namespace Go.Proofs.Ytanpcieipgdnkaa
open Go.RowKit

theorem Dr.grown {w w' : World} (h : Dr w w') : Grown w w' := by
  obtain ⟨n, rfl⟩ := h
  exact Grown.refl w
theorem wf_float {a : Nat} (h : (Lit.float .f64 a).wf = true) : a < 2 * Fl.W := by
  simp only [Lit.wf, decide_eq_true_eq] at h
  unfold Fl.W; omega

end Go.Proofs.Ytanpcieipgdnkaa

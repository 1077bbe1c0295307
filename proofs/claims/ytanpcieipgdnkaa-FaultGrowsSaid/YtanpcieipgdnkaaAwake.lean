/-
  The walk of rosettelaw02's awake: it answers true.
-/
import Derived.Test.YtanpcieipgdnkaaAdd
set_option linter.unusedVariables false
set_option linter.unusedSimpArgs false
namespace Go.Proofs.Ytanpcieipgdnkaa
open Go.RowKit

theorem add_up (w : World) : Calls Try.prog 39 #[.float .f64 4607182418800017408, .float .f64 4336966441157787648, .bool true] w fun e w' => e = .returned (.float .f64 4607182418800017409) ∧ Dr w w' := by
  refine (add_any _ _ _ w (by decide) (by decide)).mono ?_
  rintro e w' ⟨s, rfl, hs, hd⟩
  have h1 : Fl.addS 4607182418800017408 4336966441157787648 true = some 4607182418800017409 := by decide +kernel
  rw [h1] at hs
  have : s = 4607182418800017409 := hs
  rw [this]
  exact ⟨rfl, hd⟩
theorem add_down (w : World) : Calls Try.prog 39 #[.float .f64 4607182418800017408, .float .f64 4336966441157787648, .bool false] w fun e w' => e = .returned (.float .f64 4607182418800017408) ∧ Dr w w' := by
  refine (add_any _ _ _ w (by decide) (by decide)).mono ?_
  rintro e w' ⟨s, rfl, hs, hd⟩
  have h1 : Fl.addS 4607182418800017408 4336966441157787648 false = some 4607182418800017408 := by decide +kernel
  rw [h1] at hs
  have : s = 4607182418800017408 := hs
  rw [this]
  exact ⟨rfl, hd⟩
theorem next_1 (w : World) : Calls Try.prog 66 #[.float .f64 4607182418800017408, .bool false] w fun e w' => e = .returned (.float .f64 4607182418800017407) ∧ w = w' := by
  refine (next_any _ _ w (by decide)).mono ?_
  rintro e w' ⟨rfl, rfl⟩
  have h1 : Fl.next 4607182418800017408 false = 4607182418800017407 := by decide +kernel
  rw [h1]
  exact ⟨rfl, rfl⟩

end Go.Proofs.Ytanpcieipgdnkaa

/-
  The walk of rosettelaw02's awake: it answers true.
-/
import Derived.Test.YtgockebgcbmgoaaAdd
set_option linter.unusedVariables false
set_option linter.unusedSimpArgs false
namespace Go.Proofs.Ytgockebgcbmgoaa
open Go.RowKit

theorem near_25 (w : World) : Calls Try.prog 13 #[.float .f64 4612811918334230528] w fun e w' => e = .returned (.tuple #[.int .i64 2, .float .f64 4602678819172646912, .int .i64 0]) ∧ Dr w w' := by
  refine (near_any _ w (by decide)).mono ?_
  rintro e w' ⟨rfl, hd⟩
  have h1 : Fl.nearN 4612811918334230528 = 2 := by decide +kernel
  have h2 : Fl.nearD 4612811918334230528 = 4602678819172646912 := by unfold Fl.nearD Fl.dist; rw [Fl.U_def]; decide +kernel
  have h3 : Fl.nearE 4612811918334230528 = 0 := by decide +kernel
  rw [h1, h2, h3]
  exact ⟨rfl, hd⟩
theorem whole_3 (w : World) : Calls Try.prog 11 #[.float .f64 4613937818241073152] w fun e w' => e = .returned (.tuple #[.int .i64 3, .bool true]) ∧ w = w' := by
  refine (whole_any _ w (by decide)).mono ?_
  rintro e w' ⟨rfl, rfl⟩
  have h1 : Fl.whI 4613937818241073152 = 3 := by unfold Fl.whI Fl.isW Fl.wh; rw [Fl.U_def]; decide +kernel
  have h2 : Fl.isW 4613937818241073152 = true := by unfold Fl.isW Fl.wh; rw [Fl.U_def]; decide +kernel
  rw [h1, h2]
  exact ⟨rfl, rfl⟩
theorem add_up (w : World) : Calls Try.prog 24 #[.float .f64 4607182418800017408, .float .f64 4336966441157787648, .bool true] w fun e w' => e = .returned (.float .f64 4607182418800017409) ∧ Dr w w' := by
  refine (add_any _ _ _ w (by decide) (by decide)).mono ?_
  rintro e w' ⟨s, rfl, hs, hd⟩
  have h1 : Fl.addS 4607182418800017408 4336966441157787648 true = some 4607182418800017409 := by decide +kernel
  rw [h1] at hs
  have : s = 4607182418800017409 := hs
  rw [this]
  exact ⟨rfl, hd⟩
theorem add_down (w : World) : Calls Try.prog 24 #[.float .f64 4607182418800017408, .float .f64 4336966441157787648, .bool false] w fun e w' => e = .returned (.float .f64 4607182418800017408) ∧ Dr w w' := by
  refine (add_any _ _ _ w (by decide) (by decide)).mono ?_
  rintro e w' ⟨s, rfl, hs, hd⟩
  have h1 : Fl.addS 4607182418800017408 4336966441157787648 false = some 4607182418800017408 := by decide +kernel
  rw [h1] at hs
  have : s = 4607182418800017408 := hs
  rw [this]
  exact ⟨rfl, hd⟩
theorem next_1 (w : World) : Calls Try.prog 16 #[.float .f64 4607182418800017408, .bool false] w fun e w' => e = .returned (.float .f64 4607182418800017407) ∧ w = w' := by
  refine (next_any _ _ w (by decide)).mono ?_
  rintro e w' ⟨rfl, rfl⟩
  have h1 : Fl.next 4607182418800017408 false = 4607182418800017407 := by decide +kernel
  rw [h1]
  exact ⟨rfl, rfl⟩

theorem awake_any (w : World) : Calls Try.prog 10 #[] w (BPost true w) := by
  have r1 := fun w => run_float_arith (P := Try.prog) w .add 22 .f64 4607182418800017408 4372995238176751616 4607182418800017409 (by decide +kernel)
  have r2 := fun w => run_float_arith (P := Try.prog) w .sub 22 .f64 4607182418800017408 4368491638549381120 4607182418800017407 (by decide +kernel)
  have o1 : FloatKind.f64.format.order 4607182418800017409 4607182418800017409 = some .eq := by decide +kernel
  have o2 : FloatKind.f64.format.order 4607182418800017408 4607182418800017408 = some .eq := by decide +kernel
  have o3 : FloatKind.f64.format.order 4607182418800017407 4607182418800017407 = some .eq := by decide +kernel
  have o4 : FloatKind.f64.format.order 4602678819172646912 4602678819172646912 = some .eq := by decide +kernel
  go_enter Try.func10, Try.ntmps10
  go_wp2_with fail
  refine (near_25 _).mono ?_
  rintro e w1 ⟨rfl, hd⟩
  have D1 := Lib.hid hd
  clear hd
  go_wp2_with fail
  refine (whole_3 _).mono ?_
  rintro e w' ⟨rfl, rfl⟩
  go_wp2_with fail
  refine (add_up _).mono ?_
  rintro e w2 ⟨rfl, hd⟩
  have D2 := Lib.hid hd
  clear hd
  go_wp2_with fail
  refine (add_down _).mono ?_
  rintro e w3 ⟨rfl, hd⟩
  have D3 := Lib.hid hd
  clear hd
  go_wp2_with fail
  refine (next_1 _).mono ?_
  rintro e w' ⟨rfl, rfl⟩
  go_wp2
  go_ret
  exact ⟨rfl, (D1.out.trans D2.out).trans D3.out⟩
end Go.Proofs.Ytgockebgcbmgoaa

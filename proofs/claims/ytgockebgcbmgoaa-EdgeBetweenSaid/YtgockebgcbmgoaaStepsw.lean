/-
  The walk of EdgeSteps: it answers true.
-/
import Derived.Test.YtgockebgcbmgoaaAwake
import Derived.RowKit3
set_option linter.unusedVariables false
set_option linter.unusedSimpArgs false
namespace Go.Proofs.Ytgockebgcbmgoaa
open Go.RowKit

theorem Dr.grown {w w' : World} (h : Dr w w') : Grown w w' := by
  obtain ⟨n, rfl⟩ := h
  exact Grown.refl w
theorem wf_float {a : Nat} (h : (Lit.float .f64 a).wf = true) : a < 2 * Fl.W := by
  simp only [Lit.wf, decide_eq_true_eq] at h
  unfold Fl.W; omega

theorem edgeSteps_walk (x : Nat) (up : Bool) (wx : (Lit.float .f64 x).wf = true) (w : World) :
    Calls Try.prog 3 #[.float .f64 x, .bool up] w fun e w' => e = .returned (.bool true) ∧ Grown w w' := by
  have hx := wf_float wx
  clear wx
  have e1 : (Fl.whI x == Fl.whI x) = true := by simp
  have e2 : (Fl.isW x == Fl.isW x) = true := by simp
  have e3 : (Fl.nearN x == Fl.nearN x) = true := by simp
  have e4 : (Fl.nearE x == Fl.nearE x) = true := by simp
  go_enter Try.func3, Try.ntmps3
  go_wp2_with fail
  refine (awake_any _).mono ?_
  rintro e w1 ⟨rfl, hd⟩
  have D1 := Lib.hid hd
  clear hd
  go_wp2_with fail
  refine (whole_any x _ hx).mono ?_
  rintro e w' ⟨rfl, rfl⟩
  go_wp2_with fail
  refine (rwhole_any x _ hx).mono ?_
  rintro e w' ⟨rfl, rfl⟩
  go_wp2_with fail
  refine (near_any x _ hx).mono ?_
  rintro e w2 ⟨rfl, hd⟩
  have D2 := Lib.hid hd
  clear hd
  go_wp2_with fail
  refine (rnear_any x _ hx).mono ?_
  rintro e w3 ⟨rfl, hd⟩
  have D3 := Lib.hid hd
  clear hd
  go_wp2_with fail
  refine (next_any x up _ hx).mono ?_
  rintro e w' ⟨rfl, rfl⟩
  go_wp2_with fail
  refine (rnext_any x up _ hx).mono ?_
  rintro e w' ⟨rfl, rfl⟩
  go_wp2_with fail
  refine (same_yes _ _ _ (.inl rfl)).mono ?_
  rintro e w' ⟨rfl, rfl⟩
  go_wp2_with fail
  refine (same_yes _ _ _ (.inl rfl)).mono ?_
  rintro e w' ⟨rfl, rfl⟩
  go_wp2
  go_ret
  exact ⟨rfl, ((D1.out.trans D2.out).trans D3.out).grown⟩
end Go.Proofs.Ytgockebgcbmgoaa

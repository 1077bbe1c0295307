/-
  Walk: EdgeReckons.
-/
import Derived.Test.YtgockebgcbmgoaaRefe
import Derived.Test.YtgockebgcbmgoaaAwake
import Derived.Test.YtgockebgcbmgoaaStepsw
set_option linter.unusedVariables false
set_option linter.unusedSimpArgs false
namespace Go.Proofs.Ytgockebgcbmgoaa
open Go.RowKit

set_option maxRecDepth 100000 in
set_option maxHeartbeats 4000000 in
theorem edgeReckons_go (a b : Nat) (up : Bool) (w : World) (ha : a < 2 * Fl.W) (hb : b < 2 * Fl.W) :
    Calls Try.prog 8 #[.float .f64 a, .float .f64 b, .bool up] w fun e w' => e = .returned (.bool true) ∧ Below w.heap.size w w' := by
  go_enter Try.func8, Try.ntmps8
  go_wp2_with fail
  refine (awake_any _).mono ?_
  rintro e w0 ⟨rfl, hd⟩
  have HB0 := Lib.hid (hd.below w.heap.size)
  clear hd
  go_wp2_with fail
  refine (add_any a b up _ ha hb).mono ?_
  rintro e w1 ⟨x, rfl, hx, hd⟩
  have HX := Lib.hid hx
  have HB1 := Lib.hid (HB0.out.trans (hd.below _))
  clear hd hx
  go_wp2_with fail
  refine (radd_any a b up _ ha hb).mono ?_
  rintro e w2 ⟨y, rfl, hy, hd⟩
  have HS := Lib.hid (Fl.Is_same HX.out hy)
  have HB2 := Lib.hid (HB1.out.trans (hd.mono HB1.out.size))
  clear hd hy
  go_wp2_with fail
  refine (same_yes _ _ _ HS.out).mono ?_
  rintro e w' ⟨rfl, rfl⟩
  clear HS HX
  go_wp2_with fail
  refine (sub_walk a b up _ ha hb).mono ?_
  rintro e w3 ⟨x, rfl, hx, hd⟩
  have HX := Lib.hid hx
  have HB3 := Lib.hid (HB2.out.trans (hd.below _))
  clear hd hx
  go_wp2_with fail
  refine (rsub_any a b up _ ha hb).mono ?_
  rintro e w4 ⟨y, rfl, hy, hd⟩
  have HS := Lib.hid (Fl.Is_same HX.out hy)
  have HB4 := Lib.hid (HB3.out.trans (hd.mono HB3.out.size))
  clear hd hy
  go_wp2_with fail
  refine (same_yes _ _ _ HS.out).mono ?_
  rintro e w' ⟨rfl, rfl⟩
  clear HS HX
  go_wp2_with fail
  refine (mul_any a b up _ ha hb).mono ?_
  rintro e w5 ⟨x, rfl, hx, hd⟩
  have HX := Lib.hid hx
  have HB5 := Lib.hid (HB4.out.trans (hd.below _))
  clear hd hx
  go_wp2_with fail
  refine (rmul_any a b up _ ha hb).mono ?_
  rintro e w6 ⟨y, rfl, hy, hd⟩
  have HS := Lib.hid (Fl.Is_same HX.out hy)
  have HB6 := Lib.hid (HB5.out.trans (hd.mono HB5.out.size))
  clear hd hy
  go_wp2_with fail
  refine (same_yes _ _ _ HS.out).mono ?_
  rintro e w' ⟨rfl, rfl⟩
  clear HS HX
  go_wp2_with fail
  refine (div_any a b up _ ha hb).mono ?_
  rintro e w7 ⟨x, rfl, hx, hd⟩
  have HX := Lib.hid hx
  have HB7 := Lib.hid (HB6.out.trans (hd.below _))
  clear hd hx
  go_wp2_with fail
  refine (rdiv_any a b up _ ha hb).mono ?_
  rintro e w8 ⟨y, rfl, hy, hd⟩
  have HS := Lib.hid (Fl.Is_same HX.out hy)
  have HB8 := Lib.hid (HB7.out.trans (hd.mono HB7.out.size))
  clear hd hy
  go_wp2_with fail
  refine (same_yes _ _ _ HS.out).mono ?_
  rintro e w' ⟨rfl, rfl⟩
  clear HS HX
  go_wp2_with fail
  refine (sqrt_walk a up _ ha).mono ?_
  rintro e w9 ⟨x, rfl, hx, hd⟩
  have HX := Lib.hid hx
  have HB9 := Lib.hid (HB8.out.trans (hd.below _))
  clear hd hx
  go_wp2_with fail
  refine (rsqrt_any a up _ ha).mono ?_
  rintro e w10 ⟨y, rfl, hy, hd⟩
  have HS := Lib.hid (Fl.Is_same HX.out hy)
  have HB10 := Lib.hid (HB9.out.trans (hd.mono HB9.out.size))
  clear hd hy
  go_wp2_with fail
  refine (same_yes _ _ _ HS.out).mono ?_
  rintro e w' ⟨rfl, rfl⟩
  clear HS HX
  go_wp2
  go_ret
  exact ⟨rfl, HB10.out⟩
theorem edgeReckons_walk (a b : Nat) (up : Bool) (ha : (Lit.float .f64 a).wf = true) (hb : (Lit.float .f64 b).wf = true) (w : World) :
    Calls Try.prog 8 #[.float .f64 a, .float .f64 b, .bool up] w fun e w' => e = .returned (.bool true) ∧ Below w.heap.size w w' :=
  edgeReckons_go a b up w (wf_float ha) (wf_float hb)
end Go.Proofs.Ytgockebgcbmgoaa

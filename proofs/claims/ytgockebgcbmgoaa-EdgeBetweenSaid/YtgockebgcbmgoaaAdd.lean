/-
  The walks of edge's side, great, Add and Sub.
-/
import Derived.Test.YtgockebgcbmgoaaEdgef
import Derived.Test.YtgockebgcbmgoaaFast
set_option linter.unusedVariables false
set_option linter.unusedSimpArgs false
namespace Go.Proofs.Ytgockebgcbmgoaa
open Go.RowKit

/-- Beyond the floats. -/
def Fl.greatW (x : Nat) (up : Bool) : Nat := if up = !Fl.sg x then x else Fl.wd (Fl.sg x) 9218868437227405311
/-- The sum of finite floats, to a side. -/
def Fl.nearS (a b : Nat) : Nat := Fl.rnd (Fl.sgn2 (Fl.sg a) (Fl.sg b) (Fl.vl a + Fl.vl b)) (Fl.vl a + Fl.vl b).natAbs
def Fl.addF (a b : Nat) (up : Bool) : Nat :=
  if Fl.rg (Fl.nearS a b) = Fl.I then Fl.greatW (Fl.nearS a b) up
  else if Fl.rg (Fl.nearS a b) = 0 then (if Fl.rg a = 0 ∧ Fl.sg a = Fl.sg b then a else if up then 0 else Fl.W)
  else Fl.sideW (Fl.nearS a b) (compare (Fl.vl a + Fl.vl b) (Fl.vl (Fl.nearS a b))) (Fl.next (Fl.nearS a b) up) up
/-- What Add tells. -/
def Fl.addS (a b : Nat) (up : Bool) : Option Nat := if Fl.rg a < Fl.I ∧ Fl.rg b < Fl.I then some (Fl.addF a b up) else Ieee.double.add a b

theorem Fl.ord0 (x : Nat) (h : Fl.rg x ≤ Fl.I) : FloatKind.f64.format.order x 0 = some (compare (Fl.key x) 0) := by
  have := Fl.order_key x 0 h (by decide)
  rw [Fl.key0] at this; exact this

theorem side_any (near off : Nat) (up : Bool) (w : World) (hn : near < 2 * Fl.W) (o : Ordering) (ho : FloatKind.f64.format.order off 0 = some o) :
    Calls Try.prog 50 #[.float .f64 near, .float .f64 off, .bool up] w fun e w' => e = .returned (.float .f64 (Fl.sideW near o (Fl.next near up) up)) ∧ w = w' := by
  unfold Fl.sideW
  cases up <;> cases o
  all_goals
    simp only [reduceCtorEq, false_and, and_false, and_true, true_and, or_false, false_or, or_true, if_true, if_false]
    go_enter Try.func50, Try.ntmps50
    go_wp2_with (go_at_call 16; refine (next_any _ _ _ hn).mono ?_; rintro e w' ⟨rfl, rfl⟩)
    go_ret
    exact ⟨rfl, rfl⟩
theorem great_any (x : Nat) (up : Bool) (w : World) (hx : x < 2 * Fl.W) (h : Fl.rg x = Fl.I) :
    Calls Try.prog 47 #[.float .f64 x, .bool up] w fun e w' => e = .returned (.float .f64 (Fl.greatW x up)) ∧ w = w' := by
  unfold Fl.greatW
  have hm : (9218868437227405311 : Nat) < 2 * Fl.W := by decide
  have hr : Fl.rg 9218868437227405311 = 9218868437227405311 := by decide
  have HR := Lib.hid hr
  clear hr
  have hi : 0 < Fl.rg x := by rw [h]; decide
  cases hs : Fl.sg x
  · have h0 := Fl.cmp0_gt x hi (Nat.le_of_eq h) hs
    clear hi h
    cases up
    · simp only [Bool.not_false, Bool.false_eq_true, if_false]
      go_enter Try.func47, Try.ntmps47
      go_wp2_with (go_at_call 49; refine (copysign_any _ _ _ hm hx).mono ?_; rintro e w' ⟨rfl, rfl⟩)
      go_ret
      exact ⟨ret_fl (by rw [HR.out]), rfl⟩
    · simp only [Bool.not_false, if_true]
      go_enter Try.func47, Try.ntmps47
      go_wp2
      go_ret
      exact ⟨rfl, rfl⟩
  · have h0 := Fl.cmp0_lt x hi (Nat.le_of_eq h) hs
    clear hi h
    cases up
    · simp only [Bool.not_true, if_true]
      go_enter Try.func47, Try.ntmps47
      go_wp2
      go_ret
      exact ⟨rfl, rfl⟩
    · simp only [Bool.not_true, Bool.true_eq_false, if_false]
      go_enter Try.func47, Try.ntmps47
      go_wp2_with (go_at_call 49; refine (copysign_any _ _ _ hm hx).mono ?_; rintro e w' ⟨rfl, rfl⟩)
      go_ret
      exact ⟨ret_fl (by rw [HR.out]), rfl⟩

/-- An operand that is not finite: Go's own sum. -/
theorem add_not (a b : Nat) (up : Bool) (w : World) (ha : a < 2 * Fl.W) (hb : b < 2 * Fl.W) (h : ¬ (Fl.rg a < Fl.I ∧ Fl.rg b < Fl.I)) :
    Calls Try.prog 24 #[.float .f64 a, .float .f64 b, .bool up] w (FlPost (Ieee.double.add a b) w) := by
  obtain ⟨s, w1, hr, hs, hw1⟩ := run_float_any .add 22 a b w (by simp)
  have HD : Hid (Dr w w1) := by rcases hw1 with rfl | rfl; exact Dr.refl _; exact Dr.drew _
  have HS : Hid (Fl.Is (Ieee.double.add a b) s) := hs
  clear hs hw1
  by_cases hfa : Fl.rg a < Fl.I
  · have hfb : ¬ Fl.rg b < Fl.I := fun h2 => h ⟨hfa, h2⟩
    clear h
    go_enter Try.func24, Try.ntmps24
    go_wp2_with fail
    refine (finite_yes a _ ha hfa).mono ?_
    rintro e w' ⟨rfl, rfl⟩
    go_wp2_with fail
    refine (finite_no b _ hfb).mono ?_
    rintro e w' ⟨rfl, hd⟩
    have HD2 := Lib.hid hd
    clear hd
    go_wp2
    go_ret
    exact ⟨s, rfl, HS.out, HD.out.trans HD2.out⟩
  · clear h
    go_enter Try.func24, Try.ntmps24
    go_wp2_with fail
    refine (finite_no a _ hfa).mono ?_
    rintro e w' ⟨rfl, hd⟩
    have HD2 := Lib.hid hd
    clear hd
    go_wp2
    go_ret
    exact ⟨s, rfl, HS.out, HD.out.trans HD2.out⟩

theorem nearS_run (a b : Nat) (fa : Fl.rg a < Fl.I) (fb : Fl.rg b < Fl.I) (w : World) : (binOp .add 22 (.float .f64 a) (.float .f64 b)).run Try.prog w = .ok (.float .f64 (Fl.nearS a b)) w :=
  run_float_arith w .add _ .f64 a b _ (Fl.add_fin a b fa fb)
theorem nearS_lt (a b : Nat) : Fl.nearS a b < 2 * Fl.W := Fl.rnd_lt _ _
theorem nearS_rg (a b : Nat) : Fl.rg (Fl.nearS a b) ≤ Fl.I := by unfold Fl.nearS; rw [Fl.rg_rnd]; exact (Fl.rnd_rr false _).2

/-- The sum lies beyond the floats. -/
theorem add_great (a b : Nat) (up : Bool) (w : World) (ha : a < 2 * Fl.W) (hb : b < 2 * Fl.W) (fa : Fl.rg a < Fl.I) (fb : Fl.rg b < Fl.I) (hI : Fl.rg (Fl.nearS a b) = Fl.I) :
    Calls Try.prog 24 #[.float .f64 a, .float .f64 b, .bool up] w fun e w' => e = .returned (.float .f64 (Fl.greatW (Fl.nearS a b) up)) ∧ Dr w w' := by
  have h1 := nearS_run a b fa fb
  have h2 := nearS_lt a b
  have h3 : ¬ Fl.rg (Fl.nearS a b) < Fl.I := by omega
  go_enter Try.func24, Try.ntmps24
  go_wp2_with fail
  refine (finite_yes a _ ha fa).mono ?_
  rintro e w' ⟨rfl, rfl⟩
  go_wp2_with fail
  refine (finite_yes b _ hb fb).mono ?_
  rintro e w' ⟨rfl, rfl⟩
  go_wp2_with fail
  refine (finite_no _ _ h3).mono ?_
  rintro e w' ⟨rfl, hd⟩
  have HD := Lib.hid hd
  clear hd
  go_wp2_with fail
  refine (great_any _ _ _ h2 hI).mono ?_
  rintro e w' ⟨rfl, rfl⟩
  go_wp2
  go_ret
  exact ⟨rfl, HD.out⟩

/-- A sum that comes to 0. -/
theorem nearS_zero (a b : Nat) (h0 : Fl.rg (Fl.nearS a b) = 0) : Fl.vl a + Fl.vl b = 0 ∧ Fl.rg b = Fl.rg a := by
  unfold Fl.nearS at h0
  rw [Fl.rg_rnd] at h0
  have hz : (Fl.vl a + Fl.vl b).natAbs = 0 := by
    rcases Nat.eq_zero_or_pos (Fl.vl a + Fl.vl b).natAbs with h | h
    · exact h
    · have := Fl.rr_pos _ h; omega
  have hz2 : Fl.vl a + Fl.vl b = 0 := by omega
  refine ⟨hz2, Fl.rv_inj ?_⟩
  have h1 := Fl.vl_abs a
  have h2 := Fl.vl_abs b
  omega
theorem ord0_not (x : Nat) (h : Fl.rg x < Fl.I) (h0 : ¬ Fl.rg x = 0) : (FloatKind.f64.format.order x 0 == some .eq) = false := by
  cases hs : Fl.sg x
  · rw [Fl.cmp0_gt x (by omega) (by omega) hs]; rfl
  · rw [Fl.cmp0_lt x (by omega) (by omega) hs]; rfl

theorem add_zero_same (a b : Nat) (up : Bool) (w : World) (ha : a < 2 * Fl.W) (hb : b < 2 * Fl.W) (fa : Fl.rg a < Fl.I) (fb : Fl.rg b < Fl.I) (h0 : Fl.rg (Fl.nearS a b) = 0) (hz : Fl.rg a = 0) (hs : Fl.sg a = Fl.sg b) :
    Calls Try.prog 24 #[.float .f64 a, .float .f64 b, .bool up] w fun e w' => e = .returned (.float .f64 a) ∧ w = w' := by
  have h1 := nearS_run a b fa fb
  have h2 := nearS_lt a b
  have h3 : Fl.rg (Fl.nearS a b) < Fl.I := by rw [h0]; decide
  have h4 := Fl.cmp0_eq _ h0
  have h5 := Fl.cmp0_eq a hz
  have h6 := Fl.cmp0_eq b ((nearS_zero a b h0).2.trans hz)
  have h7 : (Fl.sg a == Fl.sg b) = true := by rw [hs]; simp
  clear hs hz h0
  go_enter Try.func24, Try.ntmps24
  go_wp2_with fail
  refine (finite_yes a _ ha fa).mono ?_
  rintro e w' ⟨rfl, rfl⟩
  go_wp2_with fail
  refine (finite_yes b _ hb fb).mono ?_
  rintro e w' ⟨rfl, rfl⟩
  go_wp2_with fail
  refine (finite_yes _ _ h2 h3).mono ?_
  rintro e w' ⟨rfl, rfl⟩
  go_wp2_with fail
  refine (signbit_any a _ ha).mono ?_
  rintro e w' ⟨rfl, rfl⟩
  go_wp2_with fail
  refine (signbit_any b _ hb).mono ?_
  rintro e w' ⟨rfl, rfl⟩
  go_wp2
  go_ret
  exact ⟨rfl, rfl⟩
theorem add_zero_other (a b : Nat) (up : Bool) (w : World) (ha : a < 2 * Fl.W) (hb : b < 2 * Fl.W) (fa : Fl.rg a < Fl.I) (fb : Fl.rg b < Fl.I) (h0 : Fl.rg (Fl.nearS a b) = 0) (hn : ¬ (Fl.rg a = 0 ∧ Fl.sg a = Fl.sg b)) :
    Calls Try.prog 24 #[.float .f64 a, .float .f64 b, .bool up] w fun e w' => e = .returned (.float .f64 (if up then 0 else Fl.W)) ∧ w = w' := by
  have h1 := nearS_run a b fa fb
  have h2 := nearS_lt a b
  have h3 : Fl.rg (Fl.nearS a b) < Fl.I := by rw [h0]; decide
  have h4 := Fl.cmp0_eq _ h0
  have c1 : (0 : Nat) < 2 * Fl.W := by decide
  have c2 : (13830554455654793216 : Nat) < 2 * Fl.W := by decide
  by_cases hz : Fl.rg a = 0
  · have h5 := Fl.cmp0_eq a hz
    have h6 := Fl.cmp0_eq b ((nearS_zero a b h0).2.trans hz)
    have h7 : (Fl.sg a == Fl.sg b) = false := by
      have : ¬ Fl.sg a = Fl.sg b := fun h => hn ⟨hz, h⟩
      simpa using this
    clear hn hz h0
    cases up
    all_goals
      go_enter Try.func24, Try.ntmps24
      go_wp2_with fail
      refine (finite_yes a _ ha fa).mono ?_
      rintro e w' ⟨rfl, rfl⟩
      go_wp2_with fail
      refine (finite_yes b _ hb fb).mono ?_
      rintro e w' ⟨rfl, rfl⟩
      go_wp2_with fail
      refine (finite_yes _ _ h2 h3).mono ?_
      rintro e w' ⟨rfl, rfl⟩
      go_wp2_with fail
      refine (signbit_any a _ ha).mono ?_
      rintro e w' ⟨rfl, rfl⟩
      go_wp2_with fail
      refine (signbit_any b _ hb).mono ?_
      rintro e w' ⟨rfl, rfl⟩
      go_wp2_with (go_at_call 49; refine (copysign_any _ _ _ c1 c2).mono ?_; rintro e w' ⟨rfl, rfl⟩)
      go_ret
      exact ⟨rfl, rfl⟩
  · have h5 := ord0_not a fa hz
    clear hn hz h0
    cases up
    all_goals
      go_enter Try.func24, Try.ntmps24
      go_wp2_with fail
      refine (finite_yes a _ ha fa).mono ?_
      rintro e w' ⟨rfl, rfl⟩
      go_wp2_with fail
      refine (finite_yes b _ hb fb).mono ?_
      rintro e w' ⟨rfl, rfl⟩
      go_wp2_with fail
      refine (finite_yes _ _ h2 h3).mono ?_
      rintro e w' ⟨rfl, rfl⟩
      go_wp2_with (go_at_call 49; refine (copysign_any _ _ _ c1 c2).mono ?_; rintro e w' ⟨rfl, rfl⟩)
      go_ret
      exact ⟨rfl, rfl⟩

/-- A sum among the floats, not 0. -/
theorem nearS_comm (a b : Nat) : Fl.nearS a b = Fl.nearS b a := by
  unfold Fl.nearS Fl.sgn2
  rw [Int.add_comm, Bool.and_comm]
theorem add_side (a b : Nat) (up : Bool) (w : World) (ha : a < 2 * Fl.W) (hb : b < 2 * Fl.W) (fa : Fl.rg a < Fl.I) (fb : Fl.rg b < Fl.I) (h3 : Fl.rg (Fl.nearS a b) < Fl.I) (h0 : ¬ Fl.rg (Fl.nearS a b) = 0) :
    Calls Try.prog 24 #[.float .f64 a, .float .f64 b, .bool up] w fun e w' => e = .returned (.float .f64 (Fl.sideW (Fl.nearS a b) (compare (Fl.vl a + Fl.vl b) (Fl.vl (Fl.nearS a b))) (Fl.next (Fl.nearS a b) up) up)) ∧ w = w' := by
  have h1 := nearS_run a b fa fb
  have h2 := nearS_lt a b
  have h4 := ord0_not _ h3 h0
  rcases Nat.lt_or_ge (Fl.rg a) (Fl.rg b) with hlt | hge
  · have ho : FloatKind.f64.format.order (Fl.rg a) (Fl.rg b) = some .lt := by
      rw [Fl.ord_pos _ _ (by omega) (by omega), Fl.compare_int, if_pos (by omega)]
    obtain ⟨t, off, e1, e2, e3, e4⟩ := Fl.fast_sign b a hb ha fb fa (Nat.le_of_lt hlt) (Fl.nearS a b) (by rw [nearS_comm]; rfl) h3
    have s1 := fun w => run_float_arith (P := Try.prog) w .sub 22 .f64 (Fl.nearS a b) b t e1
    have s2 := fun w => run_float_arith (P := Try.prog) w .sub 22 .f64 a t off e2
    have hoff := Fl.ord0 off e3
    rw [e4, Int.add_comm (Fl.vl b)] at hoff
    have HO := Lib.hid hoff
    clear e1 e2 e3 e4 hoff hlt h0
    go_enter Try.func24, Try.ntmps24
    go_wp2_with fail
    refine (finite_yes a _ ha fa).mono ?_
    rintro e w' ⟨rfl, rfl⟩
    go_wp2_with fail
    refine (finite_yes b _ hb fb).mono ?_
    rintro e w' ⟨rfl, rfl⟩
    go_wp2_with fail
    refine (finite_yes _ _ h2 h3).mono ?_
    rintro e w' ⟨rfl, rfl⟩
    go_wp2_with fail
    refine (abs_any a _ ha).mono ?_
    rintro e w' ⟨rfl, rfl⟩
    go_wp2_with fail
    refine (abs_any b _ hb).mono ?_
    rintro e w' ⟨rfl, rfl⟩
    go_wp2_with fail
    refine (side_any _ off up _ h2 _ HO.out).mono ?_
    rintro e w' ⟨rfl, rfl⟩
    go_wp2
    go_ret
    exact ⟨rfl, rfl⟩
  · have ho : (FloatKind.f64.format.order (Fl.rg a) (Fl.rg b) == some .lt) = false := by
      rw [Fl.ord_pos _ _ (by omega) (by omega), Fl.compare_int, if_neg (by omega)]
      split <;> rfl
    obtain ⟨t, off, e1, e2, e3, e4⟩ := Fl.fast_sign a b ha hb fa fb hge (Fl.nearS a b) rfl h3
    have s1 := fun w => run_float_arith (P := Try.prog) w .sub 22 .f64 (Fl.nearS a b) a t e1
    have s2 := fun w => run_float_arith (P := Try.prog) w .sub 22 .f64 b t off e2
    have hoff := Fl.ord0 off e3
    rw [e4] at hoff
    have HO := Lib.hid hoff
    clear e1 e2 e3 e4 hoff hge h0
    go_enter Try.func24, Try.ntmps24
    go_wp2_with fail
    refine (finite_yes a _ ha fa).mono ?_
    rintro e w' ⟨rfl, rfl⟩
    go_wp2_with fail
    refine (finite_yes b _ hb fb).mono ?_
    rintro e w' ⟨rfl, rfl⟩
    go_wp2_with fail
    refine (finite_yes _ _ h2 h3).mono ?_
    rintro e w' ⟨rfl, rfl⟩
    go_wp2_with fail
    refine (abs_any a _ ha).mono ?_
    rintro e w' ⟨rfl, rfl⟩
    go_wp2_with fail
    refine (abs_any b _ hb).mono ?_
    rintro e w' ⟨rfl, rfl⟩
    go_wp2_with fail
    refine (side_any _ off up _ h2 _ HO.out).mono ?_
    rintro e w' ⟨rfl, rfl⟩
    go_wp2
    go_ret
    exact ⟨rfl, rfl⟩

theorem add_any (a b : Nat) (up : Bool) (w : World) (ha : a < 2 * Fl.W) (hb : b < 2 * Fl.W) : Calls Try.prog 24 #[.float .f64 a, .float .f64 b, .bool up] w (FlPost (Fl.addS a b up) w) := by
  unfold Fl.addS
  by_cases h : Fl.rg a < Fl.I ∧ Fl.rg b < Fl.I
  · rw [if_pos h]
    unfold Fl.addF
    by_cases hI : Fl.rg (Fl.nearS a b) = Fl.I
    · rw [if_pos hI]
      exact (add_great a b up w ha hb h.1 h.2 hI).mono fun e w' ⟨h1, h2⟩ => ⟨_, h1, rfl, h2⟩
    · rw [if_neg hI]
      by_cases h0 : Fl.rg (Fl.nearS a b) = 0
      · rw [if_pos h0]
        by_cases hz : Fl.rg a = 0 ∧ Fl.sg a = Fl.sg b
        · rw [if_pos hz]
          exact (add_zero_same a b up w ha hb h.1 h.2 h0 hz.1 hz.2).mono fun e w' ⟨h1, h2⟩ => ⟨_, h1, rfl, h2 ▸ Dr.refl w⟩
        · rw [if_neg hz]
          exact (add_zero_other a b up w ha hb h.1 h.2 h0 hz).mono fun e w' ⟨h1, h2⟩ => ⟨_, h1, rfl, h2 ▸ Dr.refl w⟩
      · rw [if_neg h0]
        have := nearS_rg a b
        exact (add_side a b up w ha hb h.1 h.2 (by omega) h0).mono fun e w' ⟨h1, h2⟩ => ⟨_, h1, rfl, h2 ▸ Dr.refl w⟩
  · rw [if_neg h]
    exact add_not a b up w ha hb h

theorem sub_walk (a b : Nat) (up : Bool) (w : World) (ha : a < 2 * Fl.W) (hb : b < 2 * Fl.W) : Calls Try.prog 27 #[.float .f64 a, .float .f64 b, .bool up] w (FlPost (Fl.addS a (Fl.ng b) up) w) := by
  have hn := run_neg b hb
  go_enter Try.func27, Try.ntmps27
  go_wp2_with fail
  refine (add_any a (Fl.ng b) up _ ha (Fl.ng_lt b hb)).mono ?_
  rintro e w' ⟨s, rfl, hs, hd⟩
  have HS := Lib.hid hs
  have HD := Lib.hid hd
  clear hs hd
  go_wp2
  go_ret
  exact ⟨s, rfl, HS.out, HD.out⟩
end Go.Proofs.Ytgockebgcbmgoaa

/-
  Walk: cut's plain, and the iterator that it hands back.
  The walks of math's normalize, Frexp and Ldexp on finite floats.
  The walks of edge's side, great, Add and Sub.
  The walk of the reference's Nearest.
-/
import Derived.Test.YtclnmheplecknaaW8
import Derived.RangeFuncNested
import Derived.RangeFuncBound
import Derived.RangeFuncCalls
import Derived.RangeFuncLeaves
import Derived.Shelf.Abstract
import Derived.WalkKit
import Derived.OwnWalkIn
import Derived.TacticsInMore
import Derived.LoopNIn
import Derived.LoopIn
set_option linter.unusedVariables false
set_option linter.unusedSimpArgs false
namespace Go.Proofs.Ytclnmheplecknaa
open Go.RowKit

def gtB (o : Ordering) : Bool := o == .gt
/-! ### which whole number -/
theorem Fl.wh_le_rv (x : Nat) : Fl.wh x * Fl.U ≤ Fl.rv (Fl.rg x) := Nat.div_mul_le_self _ _
theorem Fl.rv_lt_wh (x : Nat) : Fl.rv (Fl.rg x) < (Fl.wh x + 1) * Fl.U := by
  have := Nat.div_add_mod (Fl.rv (Fl.rg x)) Fl.U
  have h2 := Nat.mod_lt (Fl.rv (Fl.rg x)) Fl.U_pos
  have h3 : Fl.U * (Fl.rv (Fl.rg x) / Fl.U) = Fl.wh x * Fl.U := Nat.mul_comm _ _
  rw [Nat.add_mul, Nat.one_mul]; omega
theorem Fl.cut_of (n k : Nat) (h1 : 2 * n ≤ (2 * k + 1) * Fl.U) (h2 : 2 * n = (2 * k + 1) * Fl.U → k % 2 = 0) (h3 : 2 * k * Fl.U ≤ 2 * n + Fl.U) (h4 : 2 * k * Fl.U = 2 * n + Fl.U → k % 2 = 0) : Fl.Cut n Fl.E k := by
  rw [Fl.U_def] at h1 h2 h3 h4
  exact ⟨h1, h2, h3, h4⟩
theorem Fl.nk_is (x k : Nat) (h1 : 2 * Fl.rv (Fl.rg x) ≤ (2 * k + 1) * Fl.U) (h2 : 2 * Fl.rv (Fl.rg x) = (2 * k + 1) * Fl.U → k % 2 = 0) (h3 : 2 * k * Fl.U ≤ 2 * Fl.rv (Fl.rg x) + Fl.U) (h4 : 2 * k * Fl.U = 2 * Fl.rv (Fl.rg x) + Fl.U → k % 2 = 0) : Fl.nk x = k :=
  (Fl.nk_cut x).eq (Fl.cut_of _ _ h1 h2 h3 h4)
theorem Fl.dist_wh (x : Nat) : Fl.dist (Fl.rv (Fl.rg x)) (Fl.wh x) + Fl.wh x * Fl.U = Fl.rv (Fl.rg x) := by
  have := Fl.wh_le_rv x
  unfold Fl.dist
  generalize Fl.wh x * Fl.U = q at *
  omega
/-- The nearest one, by how far the whole part is. -/
theorem Fl.nk_lo (x : Nat) (h : 2 * Fl.dist (Fl.rv (Fl.rg x)) (Fl.wh x) < Fl.U ∨ (2 * Fl.dist (Fl.rv (Fl.rg x)) (Fl.wh x) = Fl.U ∧ Fl.wh x % 2 = 0)) : Fl.nk x = Fl.wh x := by
  have h1 := Fl.dist_wh x
  have e1 : (2 * Fl.wh x + 1) * Fl.U = 2 * (Fl.wh x * Fl.U) + Fl.U := by rw [Nat.add_mul, Nat.one_mul, Nat.mul_assoc]
  have e2 : 2 * Fl.wh x * Fl.U = 2 * (Fl.wh x * Fl.U) := Nat.mul_assoc _ _ _
  have hU := Fl.U_pos
  apply Fl.nk_is
  all_goals (try rw [e1]); (try rw [e2]); generalize Fl.wh x * Fl.U = q at *; generalize Fl.dist (Fl.rv (Fl.rg x)) (Fl.wh x) = d at *; generalize Fl.U = u at *; generalize Fl.wh x = v at *; omega
theorem Fl.nk_hi (x : Nat) (h : Fl.U < 2 * Fl.dist (Fl.rv (Fl.rg x)) (Fl.wh x) ∨ (2 * Fl.dist (Fl.rv (Fl.rg x)) (Fl.wh x) = Fl.U ∧ Fl.wh x % 2 = 1)) : Fl.nk x = Fl.wh x + 1 := by
  have h1 := Fl.dist_wh x
  have h0 := Fl.rv_lt_wh x
  have e0 : (Fl.wh x + 1) * Fl.U = Fl.wh x * Fl.U + Fl.U := by rw [Nat.add_mul, Nat.one_mul]
  have e1 : (2 * (Fl.wh x + 1) + 1) * Fl.U = 2 * (Fl.wh x * Fl.U) + 3 * Fl.U := by
    rw [Nat.add_mul, Nat.one_mul, Nat.mul_assoc, e0]; omega
  have e2 : 2 * (Fl.wh x + 1) * Fl.U = 2 * (Fl.wh x * Fl.U) + 2 * Fl.U := by rw [Nat.mul_assoc, e0]; omega
  rw [e0] at h0
  have hU := Fl.U_pos
  apply Fl.nk_is
  all_goals (try rw [e1]); (try rw [e2]); generalize Fl.wh x * Fl.U = q at *; generalize Fl.dist (Fl.rv (Fl.rg x)) (Fl.wh x) = d at *; generalize Fl.U = u at *; generalize Fl.wh x = v at *; omega

/-- How far the whole part is, is a float. -/
theorem Fl.ex_c53 (r : Nat) (h : r ≤ Fl.c53) : Fl.ex r ≤ 1075 := by
  unfold Fl.ex Fl.B Fl.c53 at *; omega
theorem Fl.dist_wh_rep (x : Nat) (h : Fl.rg x ≤ Fl.c53) : Fl.rv (Fl.rr (Fl.dist (Fl.rv (Fl.rg x)) (Fl.wh x))) = Fl.dist (Fl.rv (Fl.rg x)) (Fl.wh x) := by
  have hc := Fl.c53_lt
  by_cases he : Fl.ex (Fl.rg x) ≤ 1074
  · refine (Fl.dist_rep (Fl.rg x) (Fl.wh x) (by omega) ?_ he).1
    have := Fl.dist_wh x; omega
  · have : Fl.rg x = Fl.c53 := by unfold Fl.ex Fl.B Fl.c53 at *; omega
    have hw : Fl.wh x = 9007199254740992 := by
      unfold Fl.wh; rw [this, Fl.rv_c53]; exact Nat.mul_div_cancel _ Fl.U_pos
    have hd := Fl.dist_wh x
    rw [this, Fl.rv_c53, hw] at hd
    have : Fl.dist (Fl.rv (Fl.rg x)) (Fl.wh x) = 0 := by rw [this, Fl.rv_c53, hw]; generalize 9007199254740992 * Fl.U = q at *; omega
    rw [this, Fl.rr_zero, Fl.rv_zero]
theorem Fl.half_aux (n r c u : Nat) (h : Fl.rv r = n) (hu : 2 * Fl.rv c = u) : (if (r : Int) < (c : Int) then Ordering.lt else if (r : Int) = (c : Int) then .eq else .gt) = (if 2 * n < u then .lt else if 2 * n = u then .eq else .gt) := by
  rcases Nat.lt_trichotomy r c with h1 | h1 | h1
  · have := Fl.rv_mono h1
    rw [if_pos (by omega), if_pos (by omega)]
  · subst h1
    rw [if_neg (by omega), if_pos rfl, if_neg (by omega), if_pos (by omega)]
  · have := Fl.rv_mono h1
    rw [if_neg (by omega), if_neg (by omega), if_neg (by omega), if_neg (by omega)]
theorem Fl.half_ord (n : Nat) (h : Fl.rv (Fl.rr n) = n) : FloatKind.f64.format.order (Fl.rr n) 4602678819172646912 = some (if 2 * n < Fl.U then .lt else if 2 * n = Fl.U then .eq else .gt) := by
  rw [Fl.ord_pos _ _ (Fl.rnd_rr false n).2 (by decide), Fl.compare_int]
  exact congrArg some (Fl.half_aux n (Fl.rr n) 4602678819172646912 Fl.U h Fl.rv_half)
theorem Fl.tmod_nat (k : Nat) : Int.tmod (k : Int) 2 = ((k % 2 : Nat) : Int) := by
  rw [Int.tmod_eq_emod_of_nonneg (by omega)]; omega
theorem Fl.sgi_odd (s : Bool) (k : Nat) : (Int.tmod (Fl.sgi s k) 2 != 0) = decide (k % 2 = 1) := by
  unfold Fl.sgi
  cases s
  · simp only [Bool.false_eq_true, if_false]
    rw [Fl.tmod_nat]
    by_cases h : k % 2 = 1
    · rw [decide_eq_true h, bne_iff_ne]; omega
    · rw [decide_eq_false h, bne_eq_false_iff_eq]; omega
  · simp only [if_true]
    rw [Int.neg_tmod, Fl.tmod_nat]
    by_cases h : k % 2 = 1
    · rw [decide_eq_true h, bne_iff_ne]; omega
    · rw [decide_eq_false h, bne_eq_false_iff_eq]; omega

theorem ex_ord {o : Option Ordering} {a b : Ordering} (h : o = some a ∨ o = some b) : ∃ c, o = some c ∧ (c = a ∨ c = b) := by
  rcases h with h | h
  · exact ⟨_, h, .inl rfl⟩
  · exact ⟨_, h, .inr rfl⟩
theorem Fl.t_ok (x : Nat) (k : Nat) : (Fl.sg x && decide (0 < k)) = Fl.sg x ∨ k = 0 := by
  by_cases h : 0 < k
  · left; rw [decide_eq_true h, Bool.and_true]
  · right; omega
theorem run_sub_int (x : Nat) (hx : x < 2 * Fl.W) (hf : Fl.rg x < Fl.I) (k : Nat) (hk : k ≤ 9007199254740992) : ∃ s, s < 2 * Fl.W ∧ Fl.rg s = Fl.rr (Fl.dist (Fl.rv (Fl.rg x)) k) ∧ ∀ w, (binOp .sub 71 (.float .f64 x) (.float .f64 (floatOfInt .f64 (Fl.sgi (Fl.sg x) k)))).run Try.prog w = .ok (.float .f64 s) w := by
  obtain ⟨t, ht⟩ := Fl.sub_whole x hx hf _ k hk (Fl.t_ok x k)
  refine ⟨_, Fl.rnd_lt t _, Fl.rg_rnd t _, fun w => ?_⟩
  rw [Fl.ofInt_sgi]
  exact run_float_arith (P := Try.prog) w .sub 71 .f64 x _ _ ht

end Go.Proofs.Ytclnmheplecknaa

namespace Go.Proofs.Ytclnmheplecknaa
open Go.RowKit

/-- Beyond the floats. -/
def Fl.greatW (x : Nat) (up : Bool) : Nat := if up = !Fl.sg x then x else Fl.wd (Fl.sg x) 9218868437227405311
/-- The sum of finite floats, to a side. -/
def Fl.nearS (a b : Nat) : Nat := Fl.rnd (Fl.sgn2 (Fl.sg a) (Fl.sg b) (Fl.vl a + Fl.vl b)) (Fl.vl a + Fl.vl b).natAbs
def Fl.addF (a b : Nat) (up : Bool) : Nat :=
  if Fl.rg (Fl.nearS a b) = Fl.I then Fl.greatW (Fl.nearS a b) up
  else if Fl.rg (Fl.nearS a b) = 0 then (if Fl.rg a = 0 ∧ Fl.sg a = Fl.sg b then a else if up then 0 else Fl.W)
  else Fl.sideW (Fl.nearS a b) (compare (Fl.vl a + Fl.vl b) (Fl.vl (Fl.nearS a b))) (Fl.next (Fl.nearS a b) up) up
/-- What Add tells. -/
def Fl.addS (a b : Nat) (up : Bool) : Option Nat := if Fl.rg a < Fl.I ∧ Fl.rg b < Fl.I then some (Fl.addF a b up) else Ieee.double.add a b

theorem Fl.ord0 (x : Nat) (h : Fl.rg x ≤ Fl.I) : FloatKind.f64.format.order x 0 = some (compare (Fl.key x) 0) := by
  have := Fl.order_key x 0 h (by decide)
  rw [Fl.key0] at this; exact this

theorem side_any (near off : Nat) (up : Bool) (w : World) (hn : near < 2 * Fl.W) (o : Ordering) (ho : FloatKind.f64.format.order off 0 = some o) :
    Calls Try.prog 148 #[.float .f64 near, .float .f64 off, .bool up] w fun e w' => e = .returned (.float .f64 (Fl.sideW near o (Fl.next near up) up)) ∧ w = w' := by
  unfold Fl.sideW
  cases up <;> cases o
  all_goals
    simp only [reduceCtorEq, false_and, and_false, and_true, true_and, or_false, false_or, or_true, if_true, if_false]
    go_enter Try.func148, Try.ntmps148
    go_wp2_with (go_at_call 156; refine (next_any _ _ _ hn).mono ?_; rintro e w' ⟨rfl, rfl⟩)
    go_ret
    exact ⟨rfl, rfl⟩
theorem great_any (x : Nat) (up : Bool) (w : World) (hx : x < 2 * Fl.W) (h : Fl.rg x = Fl.I) :
    Calls Try.prog 146 #[.float .f64 x, .bool up] w fun e w' => e = .returned (.float .f64 (Fl.greatW x up)) ∧ w = w' := by
  unfold Fl.greatW
  have hm : (9218868437227405311 : Nat) < 2 * Fl.W := by decide
  have hr : Fl.rg 9218868437227405311 = 9218868437227405311 := by decide
  have HR := Lib.hid hr
  clear hr
  have hi : 0 < Fl.rg x := by rw [h]; decide
  cases hs : Fl.sg x
  · have h0 := Fl.cmp0_gt x hi (Nat.le_of_eq h) hs
    clear hi h
    cases up
    · simp only [Bool.not_false, Bool.false_eq_true, if_false]
      go_enter Try.func146, Try.ntmps146
      go_wp2_with (go_at_call 111; refine (copysign_any _ _ _ hm hx).mono ?_; rintro e w' ⟨rfl, rfl⟩)
      go_ret
      exact ⟨ret_fl (by rw [HR.out]), rfl⟩
    · simp only [Bool.not_false, if_true]
      go_enter Try.func146, Try.ntmps146
      go_wp2
      go_ret
      exact ⟨rfl, rfl⟩
  · have h0 := Fl.cmp0_lt x hi (Nat.le_of_eq h) hs
    clear hi h
    cases up
    · simp only [Bool.not_true, if_true]
      go_enter Try.func146, Try.ntmps146
      go_wp2
      go_ret
      exact ⟨rfl, rfl⟩
    · simp only [Bool.not_true, Bool.true_eq_false, if_false]
      go_enter Try.func146, Try.ntmps146
      go_wp2_with (go_at_call 111; refine (copysign_any _ _ _ hm hx).mono ?_; rintro e w' ⟨rfl, rfl⟩)
      go_ret
      exact ⟨ret_fl (by rw [HR.out]), rfl⟩

/-- An operand that is not finite: Go's own sum. -/
theorem add_not (a b : Nat) (up : Bool) (w : World) (ha : a < 2 * Fl.W) (hb : b < 2 * Fl.W) (h : ¬ (Fl.rg a < Fl.I ∧ Fl.rg b < Fl.I)) :
    Calls Try.prog 115 #[.float .f64 a, .float .f64 b, .bool up] w (FlPost (Ieee.double.add a b) w) := by
  obtain ⟨s, w1, hr, hs, hw1⟩ := run_float_any .add 71 a b w (by simp)
  have HD : Hid (Dr w w1) := by rcases hw1 with rfl | rfl; exact Dr.refl _; exact Dr.drew _
  have HS : Hid (Fl.Is (Ieee.double.add a b) s) := hs
  clear hs hw1
  by_cases hfa : Fl.rg a < Fl.I
  · have hfb : ¬ Fl.rg b < Fl.I := fun h2 => h ⟨hfa, h2⟩
    clear h
    go_enter Try.func115, Try.ntmps115
    go_wp2_with fail
    refine (finite_yes a _ ha hfa).mono ?_
    rintro e w' ⟨rfl, rfl⟩
    go_wp2_with fail
    refine (finite_no b _ hfb).mono ?_
    rintro e w' ⟨rfl, hd⟩
    have HD2 := Lib.hid hd
    clear hd
    go_wp2
    go_ret
    exact ⟨s, rfl, HS.out, HD.out.trans HD2.out⟩
  · clear h
    go_enter Try.func115, Try.ntmps115
    go_wp2_with fail
    refine (finite_no a _ hfa).mono ?_
    rintro e w' ⟨rfl, hd⟩
    have HD2 := Lib.hid hd
    clear hd
    go_wp2
    go_ret
    exact ⟨s, rfl, HS.out, HD.out.trans HD2.out⟩

theorem nearS_run (a b : Nat) (fa : Fl.rg a < Fl.I) (fb : Fl.rg b < Fl.I) (w : World) : (binOp .add 71 (.float .f64 a) (.float .f64 b)).run Try.prog w = .ok (.float .f64 (Fl.nearS a b)) w :=
  run_float_arith w .add _ .f64 a b _ (Fl.add_fin a b fa fb)
theorem nearS_lt (a b : Nat) : Fl.nearS a b < 2 * Fl.W := Fl.rnd_lt _ _
theorem nearS_rg (a b : Nat) : Fl.rg (Fl.nearS a b) ≤ Fl.I := by unfold Fl.nearS; rw [Fl.rg_rnd]; exact (Fl.rnd_rr false _).2

/-- The sum lies beyond the floats. -/
theorem add_great (a b : Nat) (up : Bool) (w : World) (ha : a < 2 * Fl.W) (hb : b < 2 * Fl.W) (fa : Fl.rg a < Fl.I) (fb : Fl.rg b < Fl.I) (hI : Fl.rg (Fl.nearS a b) = Fl.I) :
    Calls Try.prog 115 #[.float .f64 a, .float .f64 b, .bool up] w fun e w' => e = .returned (.float .f64 (Fl.greatW (Fl.nearS a b) up)) ∧ Dr w w' := by
  have h1 := nearS_run a b fa fb
  have h2 := nearS_lt a b
  have h3 : ¬ Fl.rg (Fl.nearS a b) < Fl.I := by omega
  go_enter Try.func115, Try.ntmps115
  go_wp2_with fail
  refine (finite_yes a _ ha fa).mono ?_
  rintro e w' ⟨rfl, rfl⟩
  go_wp2_with fail
  refine (finite_yes b _ hb fb).mono ?_
  rintro e w' ⟨rfl, rfl⟩
  go_wp2_with fail
  refine (finite_no _ _ h3).mono ?_
  rintro e w' ⟨rfl, hd⟩
  have HD := Lib.hid hd
  clear hd
  go_wp2_with fail
  refine (great_any _ _ _ h2 hI).mono ?_
  rintro e w' ⟨rfl, rfl⟩
  go_wp2
  go_ret
  exact ⟨rfl, HD.out⟩

/-- A sum that comes to 0. -/
theorem nearS_zero (a b : Nat) (h0 : Fl.rg (Fl.nearS a b) = 0) : Fl.vl a + Fl.vl b = 0 ∧ Fl.rg b = Fl.rg a := by
  unfold Fl.nearS at h0
  rw [Fl.rg_rnd] at h0
  have hz : (Fl.vl a + Fl.vl b).natAbs = 0 := by
    rcases Nat.eq_zero_or_pos (Fl.vl a + Fl.vl b).natAbs with h | h
    · exact h
    · have := Fl.rr_pos _ h; omega
  have hz2 : Fl.vl a + Fl.vl b = 0 := by omega
  refine ⟨hz2, Fl.rv_inj ?_⟩
  have h1 := Fl.vl_abs a
  have h2 := Fl.vl_abs b
  omega
theorem ord0_not (x : Nat) (h : Fl.rg x < Fl.I) (h0 : ¬ Fl.rg x = 0) : (FloatKind.f64.format.order x 0 == some .eq) = false := by
  cases hs : Fl.sg x
  · rw [Fl.cmp0_gt x (by omega) (by omega) hs]; rfl
  · rw [Fl.cmp0_lt x (by omega) (by omega) hs]; rfl

theorem add_zero_same (a b : Nat) (up : Bool) (w : World) (ha : a < 2 * Fl.W) (hb : b < 2 * Fl.W) (fa : Fl.rg a < Fl.I) (fb : Fl.rg b < Fl.I) (h0 : Fl.rg (Fl.nearS a b) = 0) (hz : Fl.rg a = 0) (hs : Fl.sg a = Fl.sg b) :
    Calls Try.prog 115 #[.float .f64 a, .float .f64 b, .bool up] w fun e w' => e = .returned (.float .f64 a) ∧ w = w' := by
  have h1 := nearS_run a b fa fb
  have h2 := nearS_lt a b
  have h3 : Fl.rg (Fl.nearS a b) < Fl.I := by rw [h0]; decide
  have h4 := Fl.cmp0_eq _ h0
  have h5 := Fl.cmp0_eq a hz
  have h6 := Fl.cmp0_eq b ((nearS_zero a b h0).2.trans hz)
  have h7 : (Fl.sg a == Fl.sg b) = true := by rw [hs]; simp
  clear hs hz h0
  go_enter Try.func115, Try.ntmps115
  go_wp2_with fail
  refine (finite_yes a _ ha fa).mono ?_
  rintro e w' ⟨rfl, rfl⟩
  go_wp2_with fail
  refine (finite_yes b _ hb fb).mono ?_
  rintro e w' ⟨rfl, rfl⟩
  go_wp2_with fail
  refine (finite_yes _ _ h2 h3).mono ?_
  rintro e w' ⟨rfl, rfl⟩
  go_wp2_with fail
  refine (signbit_any a _ ha).mono ?_
  rintro e w' ⟨rfl, rfl⟩
  go_wp2_with fail
  refine (signbit_any b _ hb).mono ?_
  rintro e w' ⟨rfl, rfl⟩
  go_wp2
  go_ret
  exact ⟨rfl, rfl⟩
theorem add_zero_other (a b : Nat) (up : Bool) (w : World) (ha : a < 2 * Fl.W) (hb : b < 2 * Fl.W) (fa : Fl.rg a < Fl.I) (fb : Fl.rg b < Fl.I) (h0 : Fl.rg (Fl.nearS a b) = 0) (hn : ¬ (Fl.rg a = 0 ∧ Fl.sg a = Fl.sg b)) :
    Calls Try.prog 115 #[.float .f64 a, .float .f64 b, .bool up] w fun e w' => e = .returned (.float .f64 (if up then 0 else Fl.W)) ∧ w = w' := by
  have h1 := nearS_run a b fa fb
  have h2 := nearS_lt a b
  have h3 : Fl.rg (Fl.nearS a b) < Fl.I := by rw [h0]; decide
  have h4 := Fl.cmp0_eq _ h0
  have c1 : (0 : Nat) < 2 * Fl.W := by decide
  have c2 : (13830554455654793216 : Nat) < 2 * Fl.W := by decide
  by_cases hz : Fl.rg a = 0
  · have h5 := Fl.cmp0_eq a hz
    have h6 := Fl.cmp0_eq b ((nearS_zero a b h0).2.trans hz)
    have h7 : (Fl.sg a == Fl.sg b) = false := by
      have : ¬ Fl.sg a = Fl.sg b := fun h => hn ⟨hz, h⟩
      simpa using this
    clear hn hz h0
    cases up
    all_goals
      go_enter Try.func115, Try.ntmps115
      go_wp2_with fail
      refine (finite_yes a _ ha fa).mono ?_
      rintro e w' ⟨rfl, rfl⟩
      go_wp2_with fail
      refine (finite_yes b _ hb fb).mono ?_
      rintro e w' ⟨rfl, rfl⟩
      go_wp2_with fail
      refine (finite_yes _ _ h2 h3).mono ?_
      rintro e w' ⟨rfl, rfl⟩
      go_wp2_with fail
      refine (signbit_any a _ ha).mono ?_
      rintro e w' ⟨rfl, rfl⟩
      go_wp2_with fail
      refine (signbit_any b _ hb).mono ?_
      rintro e w' ⟨rfl, rfl⟩
      go_wp2_with (go_at_call 111; refine (copysign_any _ _ _ c1 c2).mono ?_; rintro e w' ⟨rfl, rfl⟩)
      go_ret
      exact ⟨rfl, rfl⟩
  · have h5 := ord0_not a fa hz
    clear hn hz h0
    cases up
    all_goals
      go_enter Try.func115, Try.ntmps115
      go_wp2_with fail
      refine (finite_yes a _ ha fa).mono ?_
      rintro e w' ⟨rfl, rfl⟩
      go_wp2_with fail
      refine (finite_yes b _ hb fb).mono ?_
      rintro e w' ⟨rfl, rfl⟩
      go_wp2_with fail
      refine (finite_yes _ _ h2 h3).mono ?_
      rintro e w' ⟨rfl, rfl⟩
      go_wp2_with (go_at_call 111; refine (copysign_any _ _ _ c1 c2).mono ?_; rintro e w' ⟨rfl, rfl⟩)
      go_ret
      exact ⟨rfl, rfl⟩

/-- A sum among the floats, not 0. -/
theorem nearS_comm (a b : Nat) : Fl.nearS a b = Fl.nearS b a := by
  unfold Fl.nearS Fl.sgn2
  rw [Int.add_comm, Bool.and_comm]
theorem add_side (a b : Nat) (up : Bool) (w : World) (ha : a < 2 * Fl.W) (hb : b < 2 * Fl.W) (fa : Fl.rg a < Fl.I) (fb : Fl.rg b < Fl.I) (h3 : Fl.rg (Fl.nearS a b) < Fl.I) (h0 : ¬ Fl.rg (Fl.nearS a b) = 0) :
    Calls Try.prog 115 #[.float .f64 a, .float .f64 b, .bool up] w fun e w' => e = .returned (.float .f64 (Fl.sideW (Fl.nearS a b) (compare (Fl.vl a + Fl.vl b) (Fl.vl (Fl.nearS a b))) (Fl.next (Fl.nearS a b) up) up)) ∧ w = w' := by
  have h1 := nearS_run a b fa fb
  have h2 := nearS_lt a b
  have h4 := ord0_not _ h3 h0
  rcases Nat.lt_or_ge (Fl.rg a) (Fl.rg b) with hlt | hge
  · have ho : FloatKind.f64.format.order (Fl.rg a) (Fl.rg b) = some .lt := by
      rw [Fl.ord_pos _ _ (by omega) (by omega), Fl.compare_int, if_pos (by omega)]
    obtain ⟨t, off, e1, e2, e3, e4⟩ := Fl.fast_sign b a hb ha fb fa (Nat.le_of_lt hlt) (Fl.nearS a b) (by rw [nearS_comm]; rfl) h3
    have s1 := fun w => run_float_arith (P := Try.prog) w .sub 71 .f64 (Fl.nearS a b) b t e1
    have s2 := fun w => run_float_arith (P := Try.prog) w .sub 71 .f64 a t off e2
    have hoff := Fl.ord0 off e3
    rw [e4, Int.add_comm (Fl.vl b)] at hoff
    have HO := Lib.hid hoff
    clear e1 e2 e3 e4 hoff hlt h0
    go_enter Try.func115, Try.ntmps115
    go_wp2_with fail
    refine (finite_yes a _ ha fa).mono ?_
    rintro e w' ⟨rfl, rfl⟩
    go_wp2_with fail
    refine (finite_yes b _ hb fb).mono ?_
    rintro e w' ⟨rfl, rfl⟩
    go_wp2_with fail
    refine (finite_yes _ _ h2 h3).mono ?_
    rintro e w' ⟨rfl, rfl⟩
    go_wp2_with fail
    refine (abs_any a _ ha).mono ?_
    rintro e w' ⟨rfl, rfl⟩
    go_wp2_with fail
    refine (abs_any b _ hb).mono ?_
    rintro e w' ⟨rfl, rfl⟩
    go_wp2_with fail
    refine (side_any _ off up _ h2 _ HO.out).mono ?_
    rintro e w' ⟨rfl, rfl⟩
    go_wp2
    go_ret
    exact ⟨rfl, rfl⟩
  · have ho : (FloatKind.f64.format.order (Fl.rg a) (Fl.rg b) == some .lt) = false := by
      rw [Fl.ord_pos _ _ (by omega) (by omega), Fl.compare_int, if_neg (by omega)]
      split <;> rfl
    obtain ⟨t, off, e1, e2, e3, e4⟩ := Fl.fast_sign a b ha hb fa fb hge (Fl.nearS a b) rfl h3
    have s1 := fun w => run_float_arith (P := Try.prog) w .sub 71 .f64 (Fl.nearS a b) a t e1
    have s2 := fun w => run_float_arith (P := Try.prog) w .sub 71 .f64 b t off e2
    have hoff := Fl.ord0 off e3
    rw [e4] at hoff
    have HO := Lib.hid hoff
    clear e1 e2 e3 e4 hoff hge h0
    go_enter Try.func115, Try.ntmps115
    go_wp2_with fail
    refine (finite_yes a _ ha fa).mono ?_
    rintro e w' ⟨rfl, rfl⟩
    go_wp2_with fail
    refine (finite_yes b _ hb fb).mono ?_
    rintro e w' ⟨rfl, rfl⟩
    go_wp2_with fail
    refine (finite_yes _ _ h2 h3).mono ?_
    rintro e w' ⟨rfl, rfl⟩
    go_wp2_with fail
    refine (abs_any a _ ha).mono ?_
    rintro e w' ⟨rfl, rfl⟩
    go_wp2_with fail
    refine (abs_any b _ hb).mono ?_
    rintro e w' ⟨rfl, rfl⟩
    go_wp2_with fail
    refine (side_any _ off up _ h2 _ HO.out).mono ?_
    rintro e w' ⟨rfl, rfl⟩
    go_wp2
    go_ret
    exact ⟨rfl, rfl⟩

theorem add_any (a b : Nat) (up : Bool) (w : World) (ha : a < 2 * Fl.W) (hb : b < 2 * Fl.W) : Calls Try.prog 115 #[.float .f64 a, .float .f64 b, .bool up] w (FlPost (Fl.addS a b up) w) := by
  unfold Fl.addS
  by_cases h : Fl.rg a < Fl.I ∧ Fl.rg b < Fl.I
  · rw [if_pos h]
    unfold Fl.addF
    by_cases hI : Fl.rg (Fl.nearS a b) = Fl.I
    · rw [if_pos hI]
      exact (add_great a b up w ha hb h.1 h.2 hI).mono fun e w' ⟨h1, h2⟩ => ⟨_, h1, rfl, h2⟩
    · rw [if_neg hI]
      by_cases h0 : Fl.rg (Fl.nearS a b) = 0
      · rw [if_pos h0]
        by_cases hz : Fl.rg a = 0 ∧ Fl.sg a = Fl.sg b
        · rw [if_pos hz]
          exact (add_zero_same a b up w ha hb h.1 h.2 h0 hz.1 hz.2).mono fun e w' ⟨h1, h2⟩ => ⟨_, h1, rfl, h2 ▸ Dr.refl w⟩
        · rw [if_neg hz]
          exact (add_zero_other a b up w ha hb h.1 h.2 h0 hz).mono fun e w' ⟨h1, h2⟩ => ⟨_, h1, rfl, h2 ▸ Dr.refl w⟩
      · rw [if_neg h0]
        have := nearS_rg a b
        exact (add_side a b up w ha hb h.1 h.2 (by omega) h0).mono fun e w' ⟨h1, h2⟩ => ⟨_, h1, rfl, h2 ▸ Dr.refl w⟩
  · rw [if_neg h]
    exact add_not a b up w ha hb h

end Go.Proofs.Ytclnmheplecknaa

namespace Go.Proofs.Ytclnmheplecknaa
open Go.RowKit

theorem isnan_no (x : Nat) (w : World) (h : Fl.rg x ≤ Fl.I) : Calls Try.prog 108 #[.float .f64 x] w fun e w' => e = .returned (.bool false) ∧ w = w' := by
  have h1 := Fl.cmp_self x h
  go_enter Try.func108, Try.ntmps108
  go_wp2
  go_ret
  exact ⟨rfl, rfl⟩

/-- What normalize tells: the normal word, and the power. -/
def Fl.nzW (x : Nat) : Nat := if Fl.rg x < Fl.B then Fl.wd (Fl.sg x) ((Fl.nE (Fl.rg x) + 52).toNat * Fl.B + Fl.nM (Fl.rg x)) else x
def Fl.nzP (x : Nat) : Int := if Fl.rg x < Fl.B then -52 else 0
theorem normalize_fin (x : Nat) (w : World) (hx : x < 2 * Fl.W) (h0 : 0 < Fl.rg x) (hf : Fl.rg x < Fl.I) :
    Calls Try.prog 109 #[.float .f64 x] w fun e w' => e = .returned (.tuple #[.float .f64 (Fl.nzW x), .int .i64 (Fl.nzP x)]) ∧ w = w' := by
  unfold Fl.nzW Fl.nzP
  by_cases h : Fl.rg x < Fl.B
  · rw [if_pos h, if_pos h]
    have ho : FloatKind.f64.format.order (Fl.rg x) 4503599627370496 = some .lt := by
      rw [Fl.ord_pos _ _ (Nat.le_of_lt hf) (by decide), Fl.compare_int]
      unfold Fl.B at h
      rw [if_pos (by omega)]
    have hm := fun w => run_float_arith (P := Try.prog) w .mul 71 .f64 x 4841369599423283200 _ (Fl.up52 x h0 h).1
    clear h h0 hf
    go_enter Try.func109, Try.ntmps109
    go_wp2_with fail
    refine (abs_any x _ hx).mono ?_
    rintro e w' ⟨rfl, rfl⟩
    go_wp2
    go_ret2
    exact ⟨rfl, rfl⟩
  · rw [if_neg h, if_neg h]
    have ho : (FloatKind.f64.format.order (Fl.rg x) 4503599627370496 == some .lt) = false := by
      rw [Fl.ord_pos _ _ (Nat.le_of_lt hf) (by decide), Fl.compare_int]
      unfold Fl.B at h
      rw [if_neg (by omega)]
      split <;> rfl
    clear h h0 hf
    go_enter Try.func109, Try.ntmps109
    go_wp2_with fail
    refine (abs_any x _ hx).mono ?_
    rintro e w' ⟨rfl, rfl⟩
    go_wp2
    go_ret2
    exact ⟨rfl, rfl⟩
/-- The normal word's fields. -/
theorem Fl.nzW_facts (x : Nat) (hx : x < 2 * Fl.W) (h0 : 0 < Fl.rg x) (hf : Fl.rg x < Fl.I) : ∃ r, Fl.nzW x = Fl.wd (Fl.sg x) r ∧ r < Fl.I ∧ r = (Fl.nE (Fl.rg x) - Fl.nzP x).toNat * Fl.B + Fl.nM (Fl.rg x) ∧ 0 ≤ Fl.nE (Fl.rg x) - Fl.nzP x ∧ (Fl.nzP x = 0 ∨ Fl.nzP x = -52) := by
  unfold Fl.nzW Fl.nzP
  by_cases h : Fl.rg x < Fl.B
  · rw [if_pos h, if_pos h]
    obtain ⟨_, a2, a3⟩ := Fl.up52 x h0 h
    have hr := Fl.nE_range (Fl.rg x) h0 hf
    exact ⟨_, rfl, a2, by rw [show Fl.nE (Fl.rg x) - -52 = Fl.nE (Fl.rg x) + 52 by omega], by omega, .inr rfl⟩
  · rw [if_neg h, if_neg h]
    obtain ⟨b1, b2⟩ := Fl.norm_rung (Fl.rg x) (by omega)
    exact ⟨Fl.rg x, (Fl.wd_sg_rg x hx).symm, hf, by rw [show Fl.nE (Fl.rg x) - 0 = Fl.nE (Fl.rg x) by omega]; exact b1, by omega, .inl rfl⟩
theorem Fl.div_rung (e m : Nat) (h1 : Fl.B ≤ m) (h2 : m < 2 * Fl.B) : (e * Fl.B + m) / Fl.B = e + 1 ∧ (e * Fl.B + m) % Fl.B = m - Fl.B := by
  unfold Fl.B at *; omega

/-! ### bits of fields -/
theorem and2047 (n : Nat) : n &&& 2047 = n % 2048 := Nat.and_two_pow_sub_one_eq_mod n 11
theorem exp_u64 (s : Bool) (r : Nat) (h : r < Fl.W) : bits BinOp.and IntKind.u64 (((Fl.wd s r : Nat) : Int) / 4503599627370496) 2047 = ((r / Fl.B : Nat) : Int) := by
  have hl := Fl.wd_lt s r h
  have e1 : (((Fl.wd s r : Nat) : Int) / 4503599627370496) = ((Fl.wd s r / 4503599627370496 : Nat) : Int) := by omega
  have e2 : (2047 : Int) = ((2047 : Nat) : Int) := rfl
  rw [e1, e2, u64_and_nat _ _ (by unfold Fl.W at hl; omega) (by decide), and2047, Fl.field_exp s r h]
theorem exp_i64 (s : Bool) (r : Nat) (h : r < Fl.W) : bits BinOp.and IntKind.i64 (wrap64 (((Fl.wd s r : Nat) : Int) / 4503599627370496)) 2047 = ((r / Fl.B : Nat) : Int) := by
  have hl := Fl.wd_lt s r h
  have e1 : wrap64 (((Fl.wd s r : Nat) : Int) / 4503599627370496) = ((Fl.wd s r / 4503599627370496 : Nat) : Int) := by
    unfold wrap64 Fl.W at *; omega
  have hb := bits_nat .i64 62 (by decide) (by intro n h0 h1; rw [IntKind.wrap_i64]; omega) (Fl.wd s r / 4503599627370496) 2047 (by unfold Fl.W at hl; omega) (by decide)
  have e2 : (2047 : Int) = ((2047 : Nat) : Int) := rfl
  rw [e1, e2]
  rw [hb.1, and2047, Fl.field_exp s r h]
theorem sign_or (s : Bool) (q : Nat) (h : q < Fl.W) : (if s then Fl.W else 0) ||| q = Fl.wd s q := by
  cases s
  · simp [Fl.wd]
  · simp only [if_true, Fl.wd]
    exact nat_join 63 Fl.W q (by decide) (by rw [← Fl.W_eq]; exact h)
theorem clear_exp (s : Bool) (r : Nat) (h : r < Fl.W) : bits BinOp.andNot IntKind.u64 ((Fl.wd s r : Nat) : Int) 9218868437227405312 = ((Fl.wd s (r % Fl.B) : Nat) : Int) := by
  have hl := Fl.wd_lt s r h
  have e2 : (9218868437227405312 : Int) = ((9218868437227405312 : Nat) : Int) := rfl
  rw [e2, u64_andNot_nat _ _ (by unfold Fl.W at hl; omega) (by decide)]
  rw [show 18446744073709551615 - 9218868437227405312 = Fl.W ||| (2 ^ 52 - 1) by decide, Nat.and_or_distrib_left, Fl.and_sign, Nat.and_two_pow_sub_one_eq_mod]
  have h1 : Fl.wd s r / Fl.W % 2 * Fl.W = if s then Fl.W else 0 := by
    have := Fl.sg_wd s r h
    unfold Fl.sg at this
    cases s
    · have h2 : ¬ Fl.wd false r / Fl.W % 2 = 1 := by simpa using this
      have : Fl.wd false r / Fl.W % 2 = 0 := by omega
      rw [this]; simp
    · have h2 : Fl.wd true r / Fl.W % 2 = 1 := by simpa using this
      rw [h2]; simp
  have h2 : Fl.wd s r % 2 ^ 52 = r % Fl.B := by
    unfold Fl.wd Fl.W Fl.B; cases s
    · simp
    · simp only [if_true]; omega
  rw [h1, h2, sign_or s _ (Nat.lt_of_le_of_lt (Nat.mod_le _ _) h)]
theorem set_exp (s : Bool) (q n : Nat) (hq : q < Fl.B) (hn : n ≤ 2047) (e : Int) (he : e = (n : Int)) : bits BinOp.or IntKind.u64 ((Fl.wd s q : Nat) : Int) (e * 4503599627370496) = ((Fl.wd s (n * Fl.B + q) : Nat) : Int) := by
  subst he
  have hqW : q < Fl.W := Nat.lt_trans hq (by decide)
  have hl := Fl.wd_lt s q hqW
  have e1 : ((n : Int) * 4503599627370496) = ((n * 4503599627370496 : Nat) : Int) := by omega
  rw [e1, u64_or_nat _ _ (by unfold Fl.W at hl; omega) (by omega)]
  rw [← sign_or s q hqW, Nat.or_assoc, Nat.or_comm q, nat_join 52 (n * 4503599627370496) q (by omega) (by unfold Fl.B at hq; omega)]
  rw [sign_or s _ (by unfold Fl.B Fl.W at *; omega)]
  rfl
theorem set_exp_lit (s : Bool) (q : Nat) (hq : q < Fl.B) : bits BinOp.or IntKind.u64 ((Fl.wd s q : Nat) : Int) 4602678819172646912 = ((Fl.wd s (1022 * Fl.B + q) : Nat) : Int) := by
  have := set_exp s q 1022 hq (by decide) 1022 rfl
  rw [show (1022 : Int) * 4503599627370496 = 4602678819172646912 by decide] at this
  exact this

/-! ### Frexp -/
theorem ret_fi {a b : Nat} {n m : Int} (h1 : a = b) (h2 : n = m) : Ending.returned (.tuple #[.float .f64 a, .int .i64 n]) = .returned (.tuple #[.float .f64 b, .int .i64 m]) := by rw [h1, h2]
theorem frexp_walk (x : Nat) (w : World) (hx : x < 2 * Fl.W) (h0 : 0 < Fl.rg x) (hf : Fl.rg x < Fl.I) (p : Nat) (q f : Int) (c r : Nat)
    (hn : ∀ w, Calls Try.prog 109 #[.float .f64 x] w fun e w' => e = .returned (.tuple #[.float .f64 p, .int .i64 q]) ∧ w = w')
    (hq1 : -52 ≤ q) (hq2 : q ≤ 0) (hf1 : 0 ≤ f) (hf2 : f ≤ 2047)
    (h1 : bits BinOp.and IntKind.u64 ((p : Int) / 4503599627370496) 2047 = f)
    (h2 : bits BinOp.andNot IntKind.u64 (p : Int) 9218868437227405312 = (c : Int))
    (h3 : bits BinOp.or IntKind.u64 (c : Int) 4602678819172646912 = (r : Int)) :
    Calls Try.prog 151 #[.float .f64 x] w fun e w' => e = .returned (.tuple #[.float .f64 r, .int .i64 (q + (f - 1023 + 1))]) ∧ w = w' := by
  have hb := run_bits
  have hf' := run_from
  have o1 := ord0_not x hf (by omega)
  have o2 : decide (Fl.rg x = Fl.I) = false := decide_eq_false (by omega)
  have HN := Lib.hid hn
  have hle : Fl.rg x ≤ Fl.I := Nat.le_of_lt hf
  clear hn
  go_enter Try.func151, Try.ntmps151
  go_wp2_with fail
  refine (isinf_any x _ hx).mono ?_
  rintro e w' ⟨rfl, rfl⟩
  go_wp2_with fail
  refine (isnan_no x _ hle).mono ?_
  rintro e w' ⟨rfl, rfl⟩
  go_wp2_with fail
  refine (HN.out _).mono ?_
  rintro e w' ⟨rfl, rfl⟩
  go_wp2
  go_ret2
  exact ⟨ret_fi rfl rfl, rfl⟩
theorem shift_b (b m : Nat) (h : b ≤ m) : 1022 * b + (m - b) = 1021 * b + m := by omega
theorem frexp_fin (x : Nat) (w : World) (hx : x < 2 * Fl.W) (h0 : 0 < Fl.rg x) (hf : Fl.rg x < Fl.I) :
    Calls Try.prog 118 #[.float .f64 x] w fun e w' => e = .returned (.tuple #[.float .f64 (Fl.frx x), .int .i64 (Fl.fri x)]) ∧ w = w' := by
  obtain ⟨r, e1, e2, e3, e4, e5⟩ := Fl.nzW_facts x hx h0 hf
  obtain ⟨m1, m2⟩ := Fl.nM_range (Fl.rg x) h0
  have hr := Fl.nE_range (Fl.rg x) h0 hf
  have hW : r < Fl.W := Nat.lt_trans e2 Fl.I_lt_W
  obtain ⟨d1, d2⟩ := Fl.div_rung (Fl.nE (Fl.rg x) - Fl.nzP x).toNat (Fl.nM (Fl.rg x)) m1 m2
  rw [← e3] at d1 d2
  have hn := fun w => normalize_fin x w hx h0 hf
  rw [e1] at hn
  have hm : Fl.nM (Fl.rg x) - Fl.B < Fl.B := by omega
  have h1 := exp_u64 (Fl.sg x) r hW
  have h2 := clear_exp (Fl.sg x) r hW
  rw [d2] at h2
  have h3 := set_exp_lit (Fl.sg x) (Fl.nM (Fl.rg x) - Fl.B) hm
  have hfr : Fl.wd (Fl.sg x) (1022 * Fl.B + (Fl.nM (Fl.rg x) - Fl.B)) = Fl.frx x := by
    unfold Fl.frx; rw [shift_b _ _ m1]
  have hb1 : r / Fl.B ≤ 2047 := by unfold Fl.B Fl.I at *; omega
  have main := fun w => frexp_walk x w hx h0 hf _ _ _ _ _ hn (by omega) (by omega) (by omega) (by omega) h1 h2 h3
  have hi : Fl.nzP x + (((r / Fl.B : Nat) : Int) - 1023 + 1) = Fl.fri x := by
    rw [d1]; unfold Fl.fri; omega
  rw [hi, hfr] at main
  clear h1 h2 h3 hn hfr hi d1 d2 e1 e2 e3 e4 e5 m1 m2 hr hW hm hb1
  go_enter Try.func118, Try.ntmps118
  go_wp2_with fail
  refine (main _).mono ?_
  rintro e w' ⟨rfl, rfl⟩
  go_wp2
  go_ret2
  exact ⟨rfl, rfl⟩
end Go.Proofs.Ytclnmheplecknaa

namespace Go.Proofs.Ytclnmheplecknaa
open Go.RowKit Go.Shelf
attribute [local go_sem] Oper.semAt_some
/-- A number of so many bits out of a size. -/
def chkN (N at_ b : Nat) : Nat := N / 2 ^ at_ % 2 ^ b
namespace Nt
theorem div_limb (L R s : Nat) (hs : s < 64) : (L + 18446744073709551616 * R) / 2 ^ s = L / 2 ^ s + 2 ^ (64 - s) * R := by
  have e : (18446744073709551616 : Nat) = 2 ^ s * 2 ^ (64 - s) := by rw [← Nat.pow_add, Nat.add_sub_cancel' (by omega)]
  rw [e, Nat.mul_assoc, Nat.add_mul_div_left _ _ (Nat.two_pow_pos s)]
theorem mod_high (d R k b : Nat) (h : b ≤ k) : (d + 2 ^ k * R) % 2 ^ b = d % 2 ^ b := by
  rw [show k = b + (k - b) by omega, Nat.pow_add, Nat.mul_assoc, Nat.add_mul_mod_self_left]
theorem chk_val (l : List Int) (hd : Dig 18446744073709551616 l) (w s : Nat) (x : Int) (hx : l[w]? = some x) (hs : s < 64) : val 18446744073709551616 l / 2 ^ (64 * w + s) = x.toNat / 2 ^ s + 2 ^ (64 - s) * val 18446744073709551616 (l.drop (w + 1)) := by
  have h1 := val_split 18446744073709551616 l w x hx
  have h2 := val_lt_pow 18446744073709551616 (by decide) (l.take w) (hd.take w)
  rw [List.length_take, Nat.min_eq_left (by have := (List.getElem?_eq_some_iff.1 hx).1; omega)] at h2
  have e : (2 : Nat) ^ (64 * w + s) = 18446744073709551616 ^ w * 2 ^ s := by
    rw [Nat.pow_add, Nat.pow_mul]
  rw [e, ← Nat.div_div_eq_div_mul, h1, Nat.add_mul_div_left _ _ (Nat.pow_pos (by decide)), Nat.div_eq_of_lt h2, Nat.zero_add, div_limb _ _ s hs]
/-- A chunk within one limb. -/
theorem chk_one (l : List Int) (hd : Dig 18446744073709551616 l) (w s b : Nat) (x : Int) (hx : l[w]? = some x) (hs : s < 64) (hb : s + b ≤ 64 ∨ l.length ≤ w + 1) : chkN (val 18446744073709551616 l) (64 * w + s) b = x.toNat / 2 ^ s % 2 ^ b := by
  unfold chkN
  rw [chk_val l hd w s x hx hs]
  rcases hb with h | h
  · exact mod_high _ _ _ _ (by omega)
  · rw [List.drop_eq_nil_of_le h]
    simp [val]
/-- A chunk over two limbs. -/
theorem chk_two (l : List Int) (hd : Dig 18446744073709551616 l) (w s b : Nat) (x y : Int) (hx : l[w]? = some x) (hy : l[w + 1]? = some y) (hs : s < 64) (hb : b ≤ 30) : chkN (val 18446744073709551616 l) (64 * w + s) b = (x.toNat / 2 ^ s + y.toNat * 2 ^ (64 - s) % 18446744073709551616) % 2 ^ b := by
  unfold chkN
  rw [chk_val l hd w s x hx hs]
  have h1 := val_split 18446744073709551616 (l.drop (w + 1)) 0 y (by rw [List.getElem?_drop, Nat.add_zero]; exact hy)
  rw [List.take_zero, Nat.pow_zero, Nat.one_mul] at h1
  simp only [val, Nat.zero_add] at h1
  rw [h1, Nat.mul_add]
  generalize val 18446744073709551616 (List.drop (0 + 1) (List.drop (w + 1) l)) = R
  have e1 : 2 ^ (64 - s) * (18446744073709551616 * R) = 2 ^ 64 * (2 ^ (64 - s) * R) := by
    rw [← Nat.mul_assoc, ← Nat.mul_assoc, Nat.mul_comm (2 ^ (64 - s))]
  rw [← Nat.add_assoc, e1, mod_high _ _ 64 b (by omega), Nat.mul_comm (2 ^ (64 - s)) y.toNat]
  have e2 := Nat.mod_add_div (y.toNat * 2 ^ (64 - s)) 18446744073709551616
  generalize y.toNat * 2 ^ (64 - s) / 18446744073709551616 = q at *
  have e3 : x.toNat / 2 ^ s + y.toNat * 2 ^ (64 - s) = (x.toNat / 2 ^ s + y.toNat * 2 ^ (64 - s) % 18446744073709551616) + 2 ^ 64 * q := by
    have : (2 : Nat) ^ 64 = 18446744073709551616 := by decide
    rw [this]; omega
  rw [e3, mod_high _ _ 64 b (by omega)]
theorem or_high (d y k : Nat) (hd : d < 2 ^ k) (hk : k ≤ 64) : d ||| (y * 2 ^ k % 18446744073709551616) = d + y * 2 ^ k % 18446744073709551616 := by
  have e : (18446744073709551616 : Nat) = 2 ^ k * 2 ^ (64 - k) := by rw [← Nat.pow_add, Nat.add_sub_cancel' hk]
  rw [e, Nat.mul_comm y, Nat.mul_mod_mul_left, Nat.or_comm, ← Nat.two_pow_add_eq_or_of_lt hd]
  omega
end Nt
/-- Numbers that a chunk may be. -/
def Chk : Type := { x : Int // 0 ≤ x ∧ x < 1073741824 }
def chkC (N at_ b : Nat) : Chk := ⟨((chkN N at_ b % 1073741824 : Nat) : Int), by omega, by omega⟩
theorem chkC_val (N at_ b : Nat) (hb : b ≤ 30) : (chkC N at_ b).1 = (chkN N at_ b : Int) := by
  show ((chkN N at_ b % 1073741824 : Nat) : Int) = _
  rw [Nat.mod_eq_of_lt]
  unfold chkN
  have h1 := Nat.mod_lt (N / 2 ^ at_) (Nat.two_pow_pos b)
  have h2 : (2 : Nat) ^ b ≤ 2 ^ 30 := Nat.pow_le_pow_right (by decide) hb
  have h3 : (2 : Nat) ^ 30 = 1073741824 := by decide
  omega
/-- The chunks of the first k places. -/
def chks (N b k : Nat) : List Chk := (List.range k).map fun j => chkC N (b * j) b
theorem chks_succ (N b k : Nat) : chks N b (k + 1) = chks N b k ++ [chkC N (b * k) b] := by simp [chks, List.range_succ]
theorem chks_len (N b k : Nat) : (chks N b k).length = k := by simp [chks]
/-- How many there are. -/
def chkM (m b : Nat) : Nat := (64 * m + b - 1) / b
theorem chkM_lt (m b k : Nat) (hb : 0 < b) : k < chkM m b ↔ b * k < 64 * m := by
  unfold chkM
  rw [Nat.lt_div_iff_mul_lt hb]
  rw [Nat.mul_comm b k]
  constructor <;> intro h <;> omega
/-- A slice of limbs below n0. -/
def UB (n0 : Nat) (w : World) (A : Option Addr) (n c : Nat) (l : List Int) : Prop :=
  l.length = n ∧ n ≤ c ∧ (A = none → c = 0) ∧ ∀ k x, l[k]? = some x → ∃ ad, A = some ad ∧ ad.block < n0 ∧ w.cell? (ad.add k) = some (.int .u64 x)
theorem UB.of {w : World} {A : Option Addr} {n c : Nat} {l : List Int} (h : U w A n c l) : UB w.heap.size w A n c l := h
theorem UB.below {n0 : Nat} {w w' : World} {A : Option Addr} {n c : Nat} {l : List Int} (h : UB n0 w A n c l) (hb : Below n0 w w') : UB n0 w' A n c l := by
  obtain ⟨h1, h2, h3, h4⟩ := h
  refine ⟨h1, h2, h3, fun k x hk => ?_⟩
  obtain ⟨ad, e, hlt, hc⟩ := h4 k x hk
  exact ⟨ad, e, hlt, (hb.cell (by rw [add_block]; exact hlt)).trans hc⟩
/-- What a round must keep. -/
def Kp2 (n0 Bm Bb : Nat) (W W' : World) : Prop := Below n0 W W' ∧ ∀ k, k = Bm ∨ k = Bb → W'.heap[k]? = W.heap[k]?
theorem plain_in (F : Fence) (n : Nat) (hF : F.fn 37) (hro : F.round = none) (A : Option Addr) (m c : Nat) (b : Int) (w : World) :
    CallsIn F n Try.prog 37 #[.slice A m c, .int .i64 b] w fun e w' => e = .returned (.func (.func 68) #[] #[.pointer (some ⟨w.heap.size, 0, none⟩), .pointer (some ⟨w.heap.size + 1, 0, none⟩)]) ∧ w' = (w.alloc (.cells #[.slice A m c] 22)).alloc (.cells #[.int .i64 b] 3) := by
  refine callsIn_of_wp Try.func37 rfl hF ?_ hro
  simp only [Try.ntmps37, List.size_toArray, List.length_cons, List.length_nil, Nat.reduceAdd, Nat.reduceSub, Array.replicate_succ, Array.replicate_zero, List.push_toArray, List.append_toArray, List.nil_append, List.cons_append]
  gi_wp2
  go_ret
  exact ⟨by simp, rfl⟩
set_option maxRecDepth 100000 in
set_option maxHeartbeats 4000000 in
theorem plain1_in (F : Fence) (n : Nat) (hF : F.fn 68) (hro : F.round = none) (hn : 1 ≤ n) (l Bm Bb n0 m c b : Nat) (A : Option Addr) (mag : List Int) (hm : m ≤ 1000000) (hb1 : 2 ≤ b) (hb2 : b ≤ 30) (hd : Nt.Dig 18446744073709551616 mag)
    (J Jx : List Chk → World → Prop)
    (hY : ∀ pre x W, J pre W → pre.length < chkM m b → YieldAt F (n - 1) Try.prog l #[.int .i64 x.1] W fun e W' =>
      (e = .returned (.bool true) ∧ J (pre ++ [x]) W' ∧ Kp2 n0 Bm Bb W W') ∨ (e = .returned (.bool false) ∧ Jx (pre ++ [x]) W'))
    (W : World) (hBm : W.cell? ⟨Bm, 0, none⟩ = some (.slice A m c)) (hBb : W.cell? ⟨Bb, 0, none⟩ = some (.int .i64 b)) (hU : UB n0 W A m c mag) (h0 : J [] W) :
    CallsIn F n Try.prog 68 #[.func (.yield l) #[] #[], .pointer (some ⟨Bm, 0, none⟩), .pointer (some ⟨Bb, 0, none⟩)] W fun e W' => (∃ v, e = .returned v) ∧
      ((∃ ys, ys = chks (Nt.val 18446744073709551616 mag) b (chkM m b) ∧ J ys W') ∨ (∃ pre, True ∧ Jx pre W')) := by
  obtain ⟨N, hN⟩ : ∃ N, N = Nt.val 18446744073709551616 mag := ⟨_, rfl⟩
  rw [← hN]
  have HNV := Lib.hid hN
  have HD := Lib.hid hd
  have HU := Lib.hid hU
  have HLEN := Lib.hid hU.1
  clear hN hd hU
  refine callsIn_of_wp Try.func68 rfl hF ?_ hro
  simp only [Try.ntmps68, List.size_toArray, List.length_cons, List.length_nil, Nat.reduceAdd, Nat.reduceSub, Array.replicate_succ, Array.replicate_zero, List.push_toArray, List.append_toArray, List.nil_append, List.cons_append]
  gi_wp2_with fail
  gi_loopw [4] (fun t wr => ∃ k : Nat, t = .int .i64 ((b * k : Nat) : Int) ∧ k ≤ chkM m b ∧ J (chks N b k) wr ∧ Kp2 n0 Bm Bb W wr) (fun t _ => 64 * m + b - (intOf t).toNat)
  case atStart => exact ⟨0, rfl, Nat.zero_le _, h0, Below.refl _ _, fun _ _ => rfl⟩
  case round =>
    obtain ⟨k, rfl, hk, hJ, hKp⟩ := hrel
    have HJ := Lib.hid hJ
    have HKp := Lib.hid hKp
    have hcm : wr.cell? ⟨Bm, 0, none⟩ = some (.slice A m c) := (World.cell?_of_block (a := ⟨Bm, 0, none⟩) (hKp.2 Bm (.inl rfl))).trans hBm
    have hcb : wr.cell? ⟨Bb, 0, none⟩ = some (.int .i64 b) := (World.cell?_of_block (a := ⟨Bb, 0, none⟩) (hKp.2 Bb (.inr rfl))).trans hBb
    have HUr := Lib.hid (HU.out.below hKp.1)
    clear hJ hKp
    have hlt := chkM_lt m b k (by omega)
    obtain ⟨P, hP⟩ : ∃ P, P = b * k := ⟨_, rfl⟩
    rw [← hP] at hlt ⊢
    by_cases hPm : P < 64 * m
    · have HKM : Hid (k < chkM m b) := Lib.hid (hlt.2 hPm)
      obtain ⟨W1, hW1⟩ : ∃ W1, W1 = P / 64 := ⟨_, rfl⟩
      obtain ⟨S, hS⟩ : ∃ S, S = P % 64 := ⟨_, rfl⟩
      have hPS : P = 64 * W1 + S := by omega
      have hS64 : S < 64 := by omega
      have hWm : W1 < m := by omega
      have hdiv : (P : Int) / 64 = (W1 : Int) := by omega
      have hmod : (P : Int) % 64 = (S : Int) := by omega
      obtain ⟨x, hx⟩ : ∃ x, mag[W1]? = some x := ⟨_, List.getElem?_eq_getElem (by have := HLEN.out; omega)⟩
      obtain ⟨ad, rfl, _, hcx⟩ := HUr.out.2.2.2 W1 x hx
      have hxd := HD.out x (List.mem_of_getElem? hx)
      obtain ⟨d0, hd0⟩ : ∃ d0 : Nat, d0 = x.toNat / 2 ^ S := ⟨_, rfl⟩
      have hsh : x / 2 ^ S = (d0 : Int) := by
        obtain ⟨xn, rfl⟩ : ∃ xn : Nat, x = xn := ⟨x.toNat, by omega⟩
        rw [hd0]; simp
      obtain ⟨M, hM⟩ : ∃ M : Nat, M = 2 ^ b - 1 := ⟨_, rfl⟩
      have hb30 : 2 ^ b ≤ 1073741824 := by
        have h2 : (2 : Nat) ^ b ≤ 2 ^ 30 := Nat.pow_le_pow_right (by decide) hb2
        have h3 : (2 : Nat) ^ 30 = 1073741824 := by decide
        omega
      have hbp : 0 < 2 ^ b := Nat.two_pow_pos b
      obtain ⟨K2, hK2⟩ : ∃ K2 : Nat, K2 = 2 ^ b := ⟨_, rfl⟩
      have hk1 : IntKind.u64.wrap (2 ^ b) = (K2 : Int) := by
        rw [show ((2 : Int) ^ b) = ((2 ^ b : Nat) : Int) by simp, ← hK2, IntKind.wrap_u64]; omega
      have hk2 : IntKind.u64.wrap ((K2 : Int) - 1) = (M : Int) := by rw [IntKind.wrap_u64]; omega
      have HMASK : Hid (∀ z : Nat, z < 18446744073709551616 → bits BinOp.and IntKind.u64 (z : Int) (M : Int) = ((z % 2 ^ b : Nat) : Int)) := Lib.hid (fun z hz => by
        rw [u64_and_nat z M hz (by omega), hM, Nat.and_two_pow_sub_one_eq_mod])
      have HPS := Lib.hid hPS
      have HX := Lib.hid hx
      have HPK := Lib.hid hP
      have HD0 : Hid (d0 < 18446744073709551616) := Lib.hid (by rw [hd0]; exact Nat.lt_of_le_of_lt (Nat.div_le_self _ _) (by omega))
      have HEQ := Lib.hid hd0
      clear hW1 hS hPS hx hxd hd0 hM hK2 hP hlt
      by_cases hone : S + b ≤ 64
      · obtain ⟨r, hr⟩ : ∃ r : Nat, r = d0 % 2 ^ b := ⟨_, rfl⟩
        have hand := HMASK.out (d0) HD0.out
        rw [← hr] at hand
        obtain ⟨ck, hck⟩ : ∃ ck, ck = chkC N (b * k) b := ⟨_, rfl⟩
        have hcv : ck.1 = (r : Int) := by
          rw [hck, chkC_val _ _ _ hb2, ← HPK.out, HPS.out, HNV.out, Nt.chk_one mag HD.out W1 S b x HX.out hS64 (.inl hone), ← HEQ.out, hr]
        obtain ⟨fn, tmps, assign, body, hy, hR⟩ := hY _ ck wr HJ.out (by rw [chks_len]; exact HKM.out)
        rw [hcv] at hy
        have hrb : (r : Int) < 1073741824 := by rw [hr]; have := Nat.mod_lt (d0) hbp; omega
        have hcw : IntKind.i64.wrap (r : Int) = (r : Int) := by rw [IntKind.wrap_i64]; omega
        have HR := Lib.hid hR
        have HCK := Lib.hid hck
        clear hr hR hcv hck hbp hb30 hrb
        gi_wp2_with fail
        refine HR.out.mono ?_
        rintro e W3 (⟨rfl, hJ3, hk3⟩ | ⟨rfl, hJx3⟩)
        · have hcb3 : W3.cell? ⟨Bb, 0, none⟩ = some (.int .i64 b) := (World.cell?_of_block (a := ⟨Bb, 0, none⟩) (hk3.2 Bb (.inr rfl))).trans hcb
          have HJ3 : Hid (J (chks N b (k + 1)) W3) := Lib.hid (by rw [chks_succ, ← HCK.out]; exact hJ3)
          have HK3 : Hid (Kp2 n0 Bm Bb W W3) := Lib.hid ⟨HKp.out.1.trans hk3.1, fun q hq => (hk3.2 q hq).trans (HKp.out.2 q hq)⟩
          obtain ⟨P2, hP2⟩ : ∃ P2, P2 = P + b := ⟨_, rfl⟩
          have hadd : (P : Int) + (b : Int) = (P2 : Int) := by omega
          have HP2 : Hid (P2 = b * (k + 1)) := Lib.hid (by rw [Nat.mul_add, ← HPK.out]; omega)
          have HPP := Lib.hid hP2
          clear hP2 hJ3 hk3
          gi_wp2
          go_roundw
          case rel => exact ⟨k + 1, by rw [HP2.out], by have := HKM.out; omega, HJ3.out, HK3.out⟩
          case measure => have := HPP.out; simp [intOf]; omega
        · have HJX := Lib.hid hJx3
          clear hJx3
          gi_wp2
          refine bodyPost_ret (results_none rfl _ _ _) rfl ?_
          exact ⟨⟨_, rfl⟩, .inr ⟨_, trivial, HJX.out⟩⟩
      · have hone2 : 64 < S + b := by omega
        have hone3 : ¬ S + b ≤ 64 := hone
        clear hone
        by_cases hnext : W1 + 1 < m
        · obtain ⟨y, hyv⟩ : ∃ y, mag[W1 + 1]? = some y := ⟨_, List.getElem?_eq_getElem (by have := HLEN.out; omega)⟩
          obtain ⟨ad', e1, _, hcy⟩ := HUr.out.2.2.2 (W1 + 1) y hyv
          have e2 : ad' = ad := by injection e1 with e1; exact e1.symm
          subst e2
          have hcy2 : wr.cell? ⟨ad'.block, ad'.off + (W1 + 1), none⟩ = some (.int .u64 y) := by
            have h0 := hcy; unfold Addr.add at h0; rw [if_neg (by omega)] at h0; exact h0
          have hyd := HD.out y (List.mem_of_getElem? hyv)
          obtain ⟨yv, hyy⟩ : ∃ yv : Nat, yv = y.toNat * 2 ^ (64 - S) % 18446744073709551616 := ⟨_, rfl⟩
          have hshl : IntKind.u64.wrap (y * 2 ^ (64 - S)) = (yv : Int) := by
            obtain ⟨yn, rfl⟩ : ∃ yn : Nat, y = yn := ⟨y.toNat, by omega⟩
            rw [hyy, IntKind.wrap_u64]; simp
          have hd0s : d0 < 2 ^ (64 - S) := by
            rw [HEQ.out]
            refine Nat.div_lt_of_lt_mul ?_
            have hxb := HD.out x (List.mem_of_getElem? HX.out)
            rw [← Nat.pow_add, Nat.add_sub_cancel' (by omega)]
            have : (2 : Nat) ^ 64 = 18446744073709551616 := by decide
            omega
          have hyb : yv < 18446744073709551616 := by rw [hyy]; exact Nat.mod_lt _ (by decide)
          obtain ⟨z, hz⟩ : ∃ z : Nat, z = d0 + yv := ⟨_, rfl⟩
          have hor : bits BinOp.or IntKind.u64 (d0 : Int) (yv : Int) = (z : Int) := by
            rw [u64_or_nat d0 yv HD0.out hyb, hyy, Nt.or_high d0 y.toNat (64 - S) hd0s (by omega), hz, hyy]
          have HZB : Hid (z < 18446744073709551616) := Lib.hid (by
            have := hor
            rw [u64_or_nat d0 yv HD0.out hyb] at this
            have h3 : d0 ||| yv = z := by omega
            rw [← h3]
            exact Nat.or_lt_two_pow (n := 64) HD0.out hyb)
          have HZE : Hid (z = x.toNat / 2 ^ S + y.toNat * 2 ^ (64 - S) % 18446744073709551616) := Lib.hid (by rw [hz, hyy, HEQ.out])
          have HYV := Lib.hid hyv
          clear hyd hd0s hyb hyy hz e1 hyv
          have hW2 : IntKind.i64.wrap ((W1 : Int) + 1) = (W1 : Int) + 1 := by rw [IntKind.wrap_i64]; omega
          obtain ⟨r, hr⟩ : ∃ r : Nat, r = z % 2 ^ b := ⟨_, rfl⟩
          have hand := HMASK.out (z) HZB.out
          rw [← hr] at hand
          obtain ⟨ck, hck⟩ : ∃ ck, ck = chkC N (b * k) b := ⟨_, rfl⟩
          have hcv : ck.1 = (r : Int) := by
            rw [hck, chkC_val _ _ _ hb2, ← HPK.out, HPS.out, HNV.out, Nt.chk_two mag HD.out W1 S b x y HX.out HYV.out hS64 hb2, ← HZE.out, hr]
          obtain ⟨fn, tmps, assign, body, hy, hR⟩ := hY _ ck wr HJ.out (by rw [chks_len]; exact HKM.out)
          rw [hcv] at hy
          have hrb : (r : Int) < 1073741824 := by rw [hr]; have := Nat.mod_lt (z) hbp; omega
          have hcw : IntKind.i64.wrap (r : Int) = (r : Int) := by rw [IntKind.wrap_i64]; omega
          have HR := Lib.hid hR
          have HCK := Lib.hid hck
          clear hr hR hcv hck hbp hb30 hrb
          gi_wp2_with fail
          refine HR.out.mono ?_
          rintro e W3 (⟨rfl, hJ3, hk3⟩ | ⟨rfl, hJx3⟩)
          · have hcb3 : W3.cell? ⟨Bb, 0, none⟩ = some (.int .i64 b) := (World.cell?_of_block (a := ⟨Bb, 0, none⟩) (hk3.2 Bb (.inr rfl))).trans hcb
            have HJ3 : Hid (J (chks N b (k + 1)) W3) := Lib.hid (by rw [chks_succ, ← HCK.out]; exact hJ3)
            have HK3 : Hid (Kp2 n0 Bm Bb W W3) := Lib.hid ⟨HKp.out.1.trans hk3.1, fun q hq => (hk3.2 q hq).trans (HKp.out.2 q hq)⟩
            obtain ⟨P2, hP2⟩ : ∃ P2, P2 = P + b := ⟨_, rfl⟩
            have hadd : (P : Int) + (b : Int) = (P2 : Int) := by omega
            have HP2 : Hid (P2 = b * (k + 1)) := Lib.hid (by rw [Nat.mul_add, ← HPK.out]; omega)
            have HPP := Lib.hid hP2
            clear hP2 hJ3 hk3
            gi_wp2
            go_roundw
            case rel => exact ⟨k + 1, by rw [HP2.out], by have := HKM.out; omega, HJ3.out, HK3.out⟩
            case measure => have := HPP.out; simp [intOf]; omega
          · have HJX := Lib.hid hJx3
            clear hJx3
            gi_wp2
            refine bodyPost_ret (results_none rfl _ _ _) rfl ?_
            exact ⟨⟨_, rfl⟩, .inr ⟨_, trivial, HJX.out⟩⟩
        · obtain ⟨r, hr⟩ : ∃ r : Nat, r = d0 % 2 ^ b := ⟨_, rfl⟩
          have hand := HMASK.out (d0) HD0.out
          rw [← hr] at hand
          obtain ⟨ck, hck⟩ : ∃ ck, ck = chkC N (b * k) b := ⟨_, rfl⟩
          have hcv : ck.1 = (r : Int) := by
            rw [hck, chkC_val _ _ _ hb2, ← HPK.out, HPS.out, HNV.out, Nt.chk_one mag HD.out W1 S b x HX.out hS64 (.inr (by have := HLEN.out; omega)), ← HEQ.out, hr]
          obtain ⟨fn, tmps, assign, body, hy, hR⟩ := hY _ ck wr HJ.out (by rw [chks_len]; exact HKM.out)
          rw [hcv] at hy
          have hrb : (r : Int) < 1073741824 := by rw [hr]; have := Nat.mod_lt (d0) hbp; omega
          have hcw : IntKind.i64.wrap (r : Int) = (r : Int) := by rw [IntKind.wrap_i64]; omega
          have HR := Lib.hid hR
          have HCK := Lib.hid hck
          clear hr hR hcv hck hbp hb30 hrb
          gi_wp2_with fail
          refine HR.out.mono ?_
          rintro e W3 (⟨rfl, hJ3, hk3⟩ | ⟨rfl, hJx3⟩)
          · have hcb3 : W3.cell? ⟨Bb, 0, none⟩ = some (.int .i64 b) := (World.cell?_of_block (a := ⟨Bb, 0, none⟩) (hk3.2 Bb (.inr rfl))).trans hcb
            have HJ3 : Hid (J (chks N b (k + 1)) W3) := Lib.hid (by rw [chks_succ, ← HCK.out]; exact hJ3)
            have HK3 : Hid (Kp2 n0 Bm Bb W W3) := Lib.hid ⟨HKp.out.1.trans hk3.1, fun q hq => (hk3.2 q hq).trans (HKp.out.2 q hq)⟩
            obtain ⟨P2, hP2⟩ : ∃ P2, P2 = P + b := ⟨_, rfl⟩
            have hadd : (P : Int) + (b : Int) = (P2 : Int) := by omega
            have HP2 : Hid (P2 = b * (k + 1)) := Lib.hid (by rw [Nat.mul_add, ← HPK.out]; omega)
            have HPP := Lib.hid hP2
            clear hP2 hJ3 hk3
            gi_wp2
            go_roundw
            case rel => exact ⟨k + 1, by rw [HP2.out], by have := HKM.out; omega, HJ3.out, HK3.out⟩
            case measure => have := HPP.out; simp [intOf]; omega
          · have HJX := Lib.hid hJx3
            clear hJx3
            gi_wp2
            refine bodyPost_ret (results_none rfl _ _ _) rfl ?_
            exact ⟨⟨_, rfl⟩, .inr ⟨_, trivial, HJX.out⟩⟩
    · have hkk : k = chkM m b := by
        rcases Nat.lt_or_ge k (chkM m b) with h | h
        · exact absurd (hlt.1 h) hPm
        · omega
      have HKK := Lib.hid hkk
      clear hkk hlt hP
      gi_wp2
      go_end0
      exact ⟨⟨_, rfl⟩, .inl ⟨_, rfl, by rw [← HKK.out]; exact HJ.out⟩⟩
/-- plain hands back a value that stops: all chunks, or some of them. -/
theorem plain_stops (F : Fence) (n : Nat) (hF : F.fn 68) (hro : F.round = none) (hn : 1 ≤ n) (Bm Bb n0 m c b : Nat) (A : Option Addr) (mag : List Int) (hm : m ≤ 1000000) (hb1 : 2 ≤ b) (hb2 : b ≤ 30) (hd : Nt.Dig 18446744073709551616 mag)
    (w : World) (h1 : Bm < w.heap.size) (h2 : Bb < w.heap.size) (hn0 : n0 ≤ w.heap.size) (hBm : w.cell? ⟨Bm, 0, none⟩ = some (.slice A m c)) (hBb : w.cell? ⟨Bb, 0, none⟩ = some (.int .i64 b)) (hU : UB n0 w A m c mag) :
    SeqStopsK F n Try.prog 68 #[.pointer (some ⟨Bm, 0, none⟩), .pointer (some ⟨Bb, 0, none⟩)] (fun x : Chk => #[Value.int .i64 x.1]) (Kp2 n0 Bm Bb) (fun ys => ys = chks (Nt.val 18446744073709551616 mag) b (chkM m b)) (fun _ => True) (chkM m b) w :=
  fun l J Jx W hW _ _ hY h0 =>
    plain1_in F n hF hro hn l Bm Bb n0 m c b A mag hm hb1 hb2 hd J Jx hY W ((hW.cell (p := ⟨Bm, 0, none⟩) h1).trans hBm) ((hW.cell (p := ⟨Bb, 0, none⟩) h2).trans hBb) (hU.below (hW.mono hn0)) h0
theorem kp2_t {n0 Bm Bb : Nat} {A B C : World} (h : Kp2 n0 Bm Bb A B) (h' : Kp2 n0 Bm Bb B C) : Kp2 n0 Bm Bb A C := ⟨h.1.trans h'.1, fun k hk => (h'.2 k hk).trans (h.2 k hk)⟩
theorem kp2_b {n0 Bm Bb : Nat} {w : World} (h1 : Bm < w.heap.size) (h2 : Bb < w.heap.size) (hn0 : n0 ≤ w.heap.size) : ∀ (W : World) (l : Nat) (o o' : Obj), w.heap.size ≤ l → W.heap[l]? = some o → o.isCells = false → o.isWalk = false → Kp2 n0 Bm Bb W (W.putObj l o') := fun W l o o' hl ho hc hw => by
  refine ⟨belowK_b hn0 W l o o' hl ho hc hw, fun k hk => ?_⟩
  refine World.putObj_heap_other ?_
  rcases hk with rfl | rfl <;> omega
end Go.Proofs.Ytclnmheplecknaa

/-
  The walk of EdgeNear, of floats up to 2^53, and the whole.
-/
import Derived.Test.YtgockebgcbmgoaaNearv
set_option linter.unusedVariables false
set_option linter.unusedSimpArgs false
namespace Go.Proofs.Ytgockebgcbmgoaa
open Go.RowKit

set_option maxHeartbeats 8000000 in
set_option maxRecDepth 100000 in
theorem near_in_walk (x : Nat) (up : Bool) (w : World) (hx : x < 2 * Fl.W) (n : Int) (d s1 s2 : Nat) (is : Bool) (m : Int)
    (o1 : FloatKind.f64.format.order x x = some .eq)
    (o5 : FloatKind.f64.format.order (Fl.next x up) x = some (if up then .gt else .lt)) (hl : Fl.Like (Fl.next (Fl.next x up) (!up)) x)
    (hp : ∀ w, Calls Try.prog 13 #[.float .f64 x] w fun e w' => e = .returned (.tuple #[.int .i64 n, .float .f64 d, .int .i64 0]) ∧ Dr w w')
    (hw1 : ∀ w, Calls Try.prog 11 #[.float .f64 (floatOfInt .f64 n)] w fun e w' => e = .returned (.tuple #[.int .i64 n, .bool true]) ∧ w = w')
    (hw2 : ∀ w, Calls Try.prog 11 #[.float .f64 x] w fun e w' => e = .returned (.tuple #[.int .i64 m, .bool is]) ∧ w = w')
    (c0 : Ordering) (od : FloatKind.f64.format.order d 0 = some c0) (h0 : (c0 = .gt ∧ is = false) ∨ (c0 = .eq ∧ is = true ∧ m = n))
    (c1 : Ordering) (oh : FloatKind.f64.format.order d 4602678819172646912 = some c1) (h1 : c1 = .lt ∨ c1 = .eq)
    (r1 : ∀ w, (binOp .add 22 (.float .f64 (floatOfInt .f64 n)) (.float .f64 d)).run Try.prog w = .ok (.float .f64 s1) w)
    (r2 : ∀ w, (binOp .sub 22 (.float .f64 (floatOfInt .f64 n)) (.float .f64 d)).run Try.prog w = .ok (.float .f64 s2) w)
    (a : Ordering) (oa : FloatKind.f64.format.order s1 x = some a) (ha : a = .eq ∨ ((a = .lt ∨ a = .gt) ∧ FloatKind.f64.format.order s2 x = some .eq)) :
    Calls Try.prog 4 #[.float .f64 x, .bool up] w (GPost w) := by
  have hnl := Fl.next_lt x up hx
  have HL := Lib.hid hl
  have HP := Lib.hid hp
  have HW1 := Lib.hid hw1
  have HW2 := Lib.hid hw2
  have en : (n == n) = true := by simp
  clear hl hp hw1 hw2
  rcases h0 with ⟨rfl, rfl⟩ | ⟨rfl, rfl, rfl⟩ <;> rcases h1 with rfl | rfl <;> rcases ha with rfl | ⟨rfl | rfl, oa2⟩ <;> cases up
  all_goals
    simp only [Bool.false_eq_true, if_false, if_true] at o5
    go_enter Try.func4, Try.ntmps4
    go_wp2_with fail
    refine (awake_any _).mono ?_
    rintro e w1 ⟨rfl, hd⟩
    have D1 := Lib.hid hd
    clear hd
    go_wp2_with fail
    refine (next_any x _ _ hx).mono ?_
    rintro e w' ⟨rfl, rfl⟩
    go_wp2_with fail
    refine (HP.out _).mono ?_
    rintro e w2 ⟨rfl, hd⟩
    have D2 := Lib.hid hd
    clear hd
    go_wp2_with fail
    refine (next_any _ _ _ hnl).mono ?_
    rintro e w' ⟨rfl, rfl⟩
    go_wp2_with fail
    refine (like_yes _ _ _ HL.out).mono ?_
    rintro e w' ⟨rfl, rfl⟩
    go_wp2_with fail
    refine (HW1.out _).mono ?_
    rintro e w' ⟨rfl, rfl⟩
    go_wp2_with fail
    refine (HW2.out _).mono ?_
    rintro e w' ⟨rfl, rfl⟩
    go_wp2
    go_ret
    exact ⟨rfl, D1.out.trans D2.out⟩

theorem near_small (x : Nat) (up : Bool) (w : World) (hx : x < 2 * Fl.W) (hc : Fl.rg x ≤ Fl.c53) : Calls Try.prog 4 #[.float .f64 x, .bool up] w (GPost w) := by
  have cl := Fl.c53_lt
  have hr : Fl.rg x ≤ Fl.I := by omega
  obtain ⟨o5, hl⟩ := Fl.step_back x up hx hr (fun h => by omega)
  obtain ⟨s1, s2, e1, e2, a, oa, ha⟩ := Fl.near_back x hx hc
  obtain ⟨y1, y2, y3, _, _⟩ := Fl.whI_int (Fl.sg x) (Fl.nk x) (Fl.nk_le x hc)
  obtain ⟨d1, d2⟩ := Fl.dist_nk_rep x hc
  have hw := Fl.isW_iff x hc
  have hh := Fl.half_ord _ d1
  have h2 := Fl.dist_half x
  have hw1 : ∀ w, Calls Try.prog 11 #[.float .f64 (floatOfInt .f64 (Fl.sgi (Fl.sg x) (Fl.nk x)))] w fun e w' => e = .returned (.tuple #[.int .i64 (Fl.sgi (Fl.sg x) (Fl.nk x)), .bool true]) ∧ w = w' := by
    intro w
    have := whole_any _ w y3
    rw [y1, y2] at this
    exact this
  refine near_in_walk x up w hx (Fl.sgi (Fl.sg x) (Fl.nk x)) (Fl.rr (Fl.dist (Fl.rv (Fl.rg x)) (Fl.nk x))) s1 s2 (Fl.isW x) (Fl.whI x) (Fl.cmp_self x hr) o5 hl
    (fun w => near_parts x w hx _ _ _ (by unfold Fl.nearN; rw [if_pos hc]) (by unfold Fl.nearD; rw [if_pos hc]) (by unfold Fl.nearE; rw [if_pos hc])) hw1 (fun w => whole_any x w hx)
    (if Fl.dist (Fl.rv (Fl.rg x)) (Fl.nk x) = 0 then .eq else .gt) ?_ ?_ _ hh ?_
    (fun w => run_float_arith w .add _ .f64 _ _ _ e1) (fun w => run_float_arith w .sub _ .f64 _ _ _ e2) a oa ?_
  · have := Fl.ord_pos (Fl.rr (Fl.dist (Fl.rv (Fl.rg x)) (Fl.nk x))) 0 (Nat.le_of_lt d2) (by decide)
    rw [this, Fl.compare_int]
    congr 1
    by_cases h : Fl.dist (Fl.rv (Fl.rg x)) (Fl.nk x) = 0
    · rw [h, Fl.rr_zero]; rfl
    · have hp := Fl.rr_pos _ (Nat.pos_of_ne_zero h)
      rw [if_neg h, if_neg (by omega), if_neg (by omega)]
  · by_cases h : Fl.dist (Fl.rv (Fl.rg x)) (Fl.nk x) = 0
    · right
      rw [decide_eq_true h] at hw
      exact ⟨if_pos h, hw, Fl.whI_nk x hw⟩
    · left
      rw [decide_eq_false h] at hw
      exact ⟨if_neg h, hw⟩
  · by_cases h : 2 * Fl.dist (Fl.rv (Fl.rg x)) (Fl.nk x) < Fl.U
    · left; rw [if_pos h]
    · right; rw [if_neg h, if_pos (by omega)]
  · rcases ha with ha | ha
    · exact .inl ha
    · cases a
      · exact .inr ⟨.inl rfl, ha⟩
      · exact .inl rfl
      · exact .inr ⟨.inr rfl, ha⟩

theorem edgeNear_walk (x : Nat) (up : Bool) (wx : (Lit.float .f64 x).wf = true) (w : World) :
    Calls Try.prog 4 #[.float .f64 x, .bool up] w fun e w' => e = .returned (.bool true) ∧ Grown w w' := by
  have hx := wf_float wx
  have main : Calls Try.prog 4 #[.float .f64 x, .bool up] w (GPost w) := by
    rcases Nat.lt_or_ge Fl.I (Fl.rg x) with h | h
    · exact near_nan x up w hx h
    · by_cases hs : Fl.rg x = Fl.I ∧ up = !Fl.sg x
      · exact near_stay x up w hx hs
      · by_cases hc : Fl.rg x ≤ Fl.c53
        · exact near_small x up w hx hc
        · exact near_over x up w hx h hs hc
  exact main.mono fun e w' ⟨h1, h2⟩ => ⟨h1, h2.grown⟩
end Go.Proofs.Ytgockebgcbmgoaa

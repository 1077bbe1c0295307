/-
  The walk of the reference's Nearest.
-/
import Derived.Test.YtgockebgcbmgoaaEdgee
set_option linter.unusedVariables false
set_option linter.unusedSimpArgs false
namespace Go.Proofs.Ytgockebgcbmgoaa
open Go.RowKit

def gtB (o : Ordering) : Bool := o == .gt
theorem rnear_keep (x : Nat) (w : World) (hx : x < 2 * Fl.W) (hf : Fl.rg x < Fl.I) (o1 : Ordering) (h1 : FloatKind.f64.format.order x 14069245235905429504 = some o1) (ho1 : o1 = .gt ∨ o1 = .eq) (o2 : Ordering) (h2 : FloatKind.f64.format.order x 4845873199050653696 = some o2) (ho2 : o2 = .lt ∨ o2 = .eq) (n : Int)
    (hi : ∀ w, (convert 22 2 (.float .f64 x)).run Try.prog w = .ok (.int .i64 n) w) (s : Nat) (hs : s < 2 * Fl.W)
    (hsub : ∀ w, (binOp .sub 22 (.float .f64 x) (.float .f64 (floatOfInt .f64 n))).run Try.prog w = .ok (.float .f64 s) w)
    (o5 : Ordering) (h5 : FloatKind.f64.format.order (Fl.rg s) 4602678819172646912 = some o5) (hk : o5 = .lt ∨ (o5 = .eq ∧ (Int.tmod n 2 != 0) = false)) :
    Calls Try.prog 14 #[.float .f64 x] w fun e w' => e = .returned (.tuple #[.int .i64 n, .float .f64 (Fl.rg s), .int .i64 0]) ∧ w = w' := by
  rcases ho1 with rfl | rfl <;> rcases ho2 with rfl | rfl <;> rcases hk with rfl | ⟨rfl, hk⟩
  all_goals
    go_enter Try.func14, Try.ntmps14
    go_wp2_with fail
    refine (rfinite_yes x _ hx hf).mono ?_
    rintro e w' ⟨rfl, rfl⟩
    go_wp2_with fail
    refine (abs_any _ _ hs).mono ?_
    rintro e w' ⟨rfl, rfl⟩
    go_wp2
    go_ret3
    exact ⟨rfl, rfl⟩
theorem rnear_move (x : Nat) (w : World) (hx : x < 2 * Fl.W) (hf : Fl.rg x < Fl.I) (o1 : Ordering) (h1 : FloatKind.f64.format.order x 14069245235905429504 = some o1) (ho1 : o1 = .gt ∨ o1 = .eq) (o2 : Ordering) (h2 : FloatKind.f64.format.order x 4845873199050653696 = some o2) (ho2 : o2 = .lt ∨ o2 = .eq) (n : Int) (hn1 : -9007199254740993 ≤ n) (hn2 : n ≤ 9007199254740993)
    (hi : ∀ w, (convert 22 2 (.float .f64 x)).run Try.prog w = .ok (.int .i64 n) w) (s : Nat) (hs : s < 2 * Fl.W)
    (hsub : ∀ w, (binOp .sub 22 (.float .f64 x) (.float .f64 (floatOfInt .f64 n))).run Try.prog w = .ok (.float .f64 s) w)
    (o5 : Ordering) (h5 : FloatKind.f64.format.order (Fl.rg s) 4602678819172646912 = some o5) (hk : o5 = .gt ∨ (o5 = .eq ∧ (Int.tmod n 2 != 0) = true))
    (o0 : Ordering) (h0 : FloatKind.f64.format.order x 0 = some o0) (ho0 : o0 = .gt ∨ o0 = .lt) (s2 : Nat) (hs2 : s2 < 2 * Fl.W)
    (hsub2 : ∀ w, (binOp .sub 22 (.float .f64 x) (.float .f64 (floatOfInt .f64 (if o0 = .gt then n + 1 else n - 1)))).run Try.prog w = .ok (.float .f64 s2) w) :
    Calls Try.prog 14 #[.float .f64 x] w fun e w' => e = .returned (.tuple #[.int .i64 (if o0 = .gt then n + 1 else n - 1), .float .f64 (Fl.rg s2), .int .i64 0]) ∧ w = w' := by
  rcases ho0 with rfl | rfl
  · simp only [if_true] at hsub2 ⊢
    rcases ho1 with rfl | rfl <;> rcases ho2 with rfl | rfl <;> rcases hk with rfl | ⟨rfl, hk⟩
    all_goals
      go_enter Try.func14, Try.ntmps14
      go_wp2_with fail
      refine (rfinite_yes x _ hx hf).mono ?_
      rintro e w' ⟨rfl, rfl⟩
      go_wp2_with fail
      refine (abs_any _ _ hs).mono ?_
      rintro e w' ⟨rfl, rfl⟩
      go_wp2_with fail
      refine (abs_any _ _ hs2).mono ?_
      rintro e w' ⟨rfl, rfl⟩
      go_wp2
      go_ret3
      exact ⟨rfl, rfl⟩
  · simp only [reduceCtorEq, if_false] at hsub2 ⊢
    rcases ho1 with rfl | rfl <;> rcases ho2 with rfl | rfl <;> rcases hk with rfl | ⟨rfl, hk⟩
    all_goals
      go_enter Try.func14, Try.ntmps14
      go_wp2_with fail
      refine (rfinite_yes x _ hx hf).mono ?_
      rintro e w' ⟨rfl, rfl⟩
      go_wp2_with fail
      refine (abs_any _ _ hs).mono ?_
      rintro e w' ⟨rfl, rfl⟩
      go_wp2_with fail
      refine (abs_any _ _ hs2).mono ?_
      rintro e w' ⟨rfl, rfl⟩
      go_wp2
      go_ret3
      exact ⟨rfl, rfl⟩

/-! ### which whole number -/
theorem Fl.wh_le_rv (x : Nat) : Fl.wh x * Fl.U ≤ Fl.rv (Fl.rg x) := Nat.div_mul_le_self _ _
theorem Fl.rv_lt_wh (x : Nat) : Fl.rv (Fl.rg x) < (Fl.wh x + 1) * Fl.U := by
  have := Nat.div_add_mod (Fl.rv (Fl.rg x)) Fl.U
  have h2 := Nat.mod_lt (Fl.rv (Fl.rg x)) Fl.U_pos
  have h3 : Fl.U * (Fl.rv (Fl.rg x) / Fl.U) = Fl.wh x * Fl.U := Nat.mul_comm _ _
  rw [Nat.add_mul, Nat.one_mul]; omega
theorem Fl.cut_of (n k : Nat) (h1 : 2 * n ≤ (2 * k + 1) * Fl.U) (h2 : 2 * n = (2 * k + 1) * Fl.U → k % 2 = 0) (h3 : 2 * k * Fl.U ≤ 2 * n + Fl.U) (h4 : 2 * k * Fl.U = 2 * n + Fl.U → k % 2 = 0) : Fl.Cut n Fl.E k := by
  rw [Fl.U_def] at h1 h2 h3 h4
  exact ⟨h1, h2, h3, h4⟩
theorem Fl.nk_is (x k : Nat) (h1 : 2 * Fl.rv (Fl.rg x) ≤ (2 * k + 1) * Fl.U) (h2 : 2 * Fl.rv (Fl.rg x) = (2 * k + 1) * Fl.U → k % 2 = 0) (h3 : 2 * k * Fl.U ≤ 2 * Fl.rv (Fl.rg x) + Fl.U) (h4 : 2 * k * Fl.U = 2 * Fl.rv (Fl.rg x) + Fl.U → k % 2 = 0) : Fl.nk x = k :=
  (Fl.nk_cut x).eq (Fl.cut_of _ _ h1 h2 h3 h4)
theorem Fl.dist_wh (x : Nat) : Fl.dist (Fl.rv (Fl.rg x)) (Fl.wh x) + Fl.wh x * Fl.U = Fl.rv (Fl.rg x) := by
  have := Fl.wh_le_rv x
  unfold Fl.dist
  generalize Fl.wh x * Fl.U = q at *
  omega
/-- The nearest one, by how far the whole part is. -/
theorem Fl.nk_lo (x : Nat) (h : 2 * Fl.dist (Fl.rv (Fl.rg x)) (Fl.wh x) < Fl.U ∨ (2 * Fl.dist (Fl.rv (Fl.rg x)) (Fl.wh x) = Fl.U ∧ Fl.wh x % 2 = 0)) : Fl.nk x = Fl.wh x := by
  have h1 := Fl.dist_wh x
  have e1 : (2 * Fl.wh x + 1) * Fl.U = 2 * (Fl.wh x * Fl.U) + Fl.U := by rw [Nat.add_mul, Nat.one_mul, Nat.mul_assoc]
  have e2 : 2 * Fl.wh x * Fl.U = 2 * (Fl.wh x * Fl.U) := Nat.mul_assoc _ _ _
  have hU := Fl.U_pos
  apply Fl.nk_is
  all_goals (try rw [e1]); (try rw [e2]); generalize Fl.wh x * Fl.U = q at *; generalize Fl.dist (Fl.rv (Fl.rg x)) (Fl.wh x) = d at *; generalize Fl.U = u at *; generalize Fl.wh x = v at *; omega
theorem Fl.nk_hi (x : Nat) (h : Fl.U < 2 * Fl.dist (Fl.rv (Fl.rg x)) (Fl.wh x) ∨ (2 * Fl.dist (Fl.rv (Fl.rg x)) (Fl.wh x) = Fl.U ∧ Fl.wh x % 2 = 1)) : Fl.nk x = Fl.wh x + 1 := by
  have h1 := Fl.dist_wh x
  have h0 := Fl.rv_lt_wh x
  have e0 : (Fl.wh x + 1) * Fl.U = Fl.wh x * Fl.U + Fl.U := by rw [Nat.add_mul, Nat.one_mul]
  have e1 : (2 * (Fl.wh x + 1) + 1) * Fl.U = 2 * (Fl.wh x * Fl.U) + 3 * Fl.U := by
    rw [Nat.add_mul, Nat.one_mul, Nat.mul_assoc, e0]; omega
  have e2 : 2 * (Fl.wh x + 1) * Fl.U = 2 * (Fl.wh x * Fl.U) + 2 * Fl.U := by rw [Nat.mul_assoc, e0]; omega
  rw [e0] at h0
  have hU := Fl.U_pos
  apply Fl.nk_is
  all_goals (try rw [e1]); (try rw [e2]); generalize Fl.wh x * Fl.U = q at *; generalize Fl.dist (Fl.rv (Fl.rg x)) (Fl.wh x) = d at *; generalize Fl.U = u at *; generalize Fl.wh x = v at *; omega

/-- How far the whole part is, is a float. -/
theorem Fl.ex_c53 (r : Nat) (h : r ≤ Fl.c53) : Fl.ex r ≤ 1075 := by
  unfold Fl.ex Fl.B Fl.c53 at *; omega
theorem Fl.dist_wh_rep (x : Nat) (h : Fl.rg x ≤ Fl.c53) : Fl.rv (Fl.rr (Fl.dist (Fl.rv (Fl.rg x)) (Fl.wh x))) = Fl.dist (Fl.rv (Fl.rg x)) (Fl.wh x) := by
  have hc := Fl.c53_lt
  by_cases he : Fl.ex (Fl.rg x) ≤ 1074
  · refine (Fl.dist_rep (Fl.rg x) (Fl.wh x) (by omega) ?_ he).1
    have := Fl.dist_wh x; omega
  · have : Fl.rg x = Fl.c53 := by unfold Fl.ex Fl.B Fl.c53 at *; omega
    have hw : Fl.wh x = 9007199254740992 := by
      unfold Fl.wh; rw [this, Fl.rv_c53]; exact Nat.mul_div_cancel _ Fl.U_pos
    have hd := Fl.dist_wh x
    rw [this, Fl.rv_c53, hw] at hd
    have : Fl.dist (Fl.rv (Fl.rg x)) (Fl.wh x) = 0 := by rw [this, Fl.rv_c53, hw]; generalize 9007199254740992 * Fl.U = q at *; omega
    rw [this, Fl.rr_zero, Fl.rv_zero]
theorem Fl.half_aux (n r c u : Nat) (h : Fl.rv r = n) (hu : 2 * Fl.rv c = u) : (if (r : Int) < (c : Int) then Ordering.lt else if (r : Int) = (c : Int) then .eq else .gt) = (if 2 * n < u then .lt else if 2 * n = u then .eq else .gt) := by
  rcases Nat.lt_trichotomy r c with h1 | h1 | h1
  · have := Fl.rv_mono h1
    rw [if_pos (by omega), if_pos (by omega)]
  · subst h1
    rw [if_neg (by omega), if_pos rfl, if_neg (by omega), if_pos (by omega)]
  · have := Fl.rv_mono h1
    rw [if_neg (by omega), if_neg (by omega), if_neg (by omega), if_neg (by omega)]
theorem Fl.half_ord (n : Nat) (h : Fl.rv (Fl.rr n) = n) : FloatKind.f64.format.order (Fl.rr n) 4602678819172646912 = some (if 2 * n < Fl.U then .lt else if 2 * n = Fl.U then .eq else .gt) := by
  rw [Fl.ord_pos _ _ (Fl.rnd_rr false n).2 (by decide), Fl.compare_int]
  exact congrArg some (Fl.half_aux n (Fl.rr n) 4602678819172646912 Fl.U h Fl.rv_half)
theorem Fl.tmod_nat (k : Nat) : Int.tmod (k : Int) 2 = ((k % 2 : Nat) : Int) := by
  rw [Int.tmod_eq_emod_of_nonneg (by omega)]; omega
theorem Fl.sgi_odd (s : Bool) (k : Nat) : (Int.tmod (Fl.sgi s k) 2 != 0) = decide (k % 2 = 1) := by
  unfold Fl.sgi
  cases s
  · simp only [Bool.false_eq_true, if_false]
    rw [Fl.tmod_nat]
    by_cases h : k % 2 = 1
    · rw [decide_eq_true h, bne_iff_ne]; omega
    · rw [decide_eq_false h, bne_eq_false_iff_eq]; omega
  · simp only [if_true]
    rw [Int.neg_tmod, Fl.tmod_nat]
    by_cases h : k % 2 = 1
    · rw [decide_eq_true h, bne_iff_ne]; omega
    · rw [decide_eq_false h, bne_eq_false_iff_eq]; omega

theorem ex_ord {o : Option Ordering} {a b : Ordering} (h : o = some a ∨ o = some b) : ∃ c, o = some c ∧ (c = a ∨ c = b) := by
  rcases h with h | h
  · exact ⟨_, h, .inl rfl⟩
  · exact ⟨_, h, .inr rfl⟩
theorem Fl.t_ok (x : Nat) (k : Nat) : (Fl.sg x && decide (0 < k)) = Fl.sg x ∨ k = 0 := by
  by_cases h : 0 < k
  · left; rw [decide_eq_true h, Bool.and_true]
  · right; omega
theorem run_sub_int (x : Nat) (hx : x < 2 * Fl.W) (hf : Fl.rg x < Fl.I) (k : Nat) (hk : k ≤ 9007199254740992) : ∃ s, s < 2 * Fl.W ∧ Fl.rg s = Fl.rr (Fl.dist (Fl.rv (Fl.rg x)) k) ∧ ∀ w, (binOp .sub 22 (.float .f64 x) (.float .f64 (floatOfInt .f64 (Fl.sgi (Fl.sg x) k)))).run Try.prog w = .ok (.float .f64 s) w := by
  obtain ⟨t, ht⟩ := Fl.sub_whole x hx hf _ k hk (Fl.t_ok x k)
  refine ⟨_, Fl.rnd_lt t _, Fl.rg_rnd t _, fun w => ?_⟩
  rw [Fl.ofInt_sgi]
  exact run_float_arith (P := Try.prog) w .sub 22 .f64 x _ _ ht

theorem rnear_any (x : Nat) (w : World) (hx : x < 2 * Fl.W) : Calls Try.prog 14 #[.float .f64 x] w (NPost x w) := by
  have cl := Fl.c53_lt
  by_cases hc : Fl.rg x ≤ Fl.c53
  · have hf : Fl.rg x < Fl.I := by omega
    obtain ⟨h1, h2⟩ := in53 x hc
    obtain ⟨o1, e1, f1⟩ := ex_ord h1
    obtain ⟨o2, e2, f2⟩ := ex_ord h2
    have hi := run_int_trunc 22 2 (by kernel_rfl) (by kernel_rfl) x hc
    obtain ⟨s, hs, hr, hsub⟩ := run_sub_int x hx hf (Fl.wh x) (Fl.wh_le x hc)
    have h5 := Fl.half_ord _ (Fl.dist_wh_rep x hc)
    rw [← hr] at h5
    have hodd := Fl.sgi_odd (Fl.sg x) (Fl.wh x)
    by_cases hk : 2 * Fl.dist (Fl.rv (Fl.rg x)) (Fl.wh x) < Fl.U ∨ (2 * Fl.dist (Fl.rv (Fl.rg x)) (Fl.wh x) = Fl.U ∧ Fl.wh x % 2 = 0)
    · refine (rnear_keep x w hx hf o1 e1 f1 o2 e2 f2 _ hi s hs hsub _ h5 ?_).mono ?_
      · rcases hk with h | ⟨h, hm⟩
        · left; rw [if_pos h]
        · right
          refine ⟨by rw [if_neg (by omega), if_pos h], ?_⟩
          rw [hodd, decide_eq_false (by omega)]
      · rintro e w' ⟨rfl, rfl⟩
        refine ⟨?_, Dr.refl _⟩
        unfold Fl.nearN Fl.nearD Fl.nearE
        rw [if_pos hc, if_pos hc, if_pos hc, Fl.nk_lo x hk, hr]
    · have hk2 : Fl.U < 2 * Fl.dist (Fl.rv (Fl.rg x)) (Fl.wh x) ∨ (2 * Fl.dist (Fl.rv (Fl.rg x)) (Fl.wh x) = Fl.U ∧ Fl.wh x % 2 = 1) := by
        generalize Fl.dist (Fl.rv (Fl.rg x)) (Fl.wh x) = d at *
        generalize Fl.U = u at *
        omega
      have hnk := Fl.nk_hi x hk2
      have hle := Fl.nk_le x hc
      rw [hnk] at hle
      have hpos : 0 < Fl.rg x := by
        rcases Nat.eq_zero_or_pos (Fl.rg x) with h | h
        · exfalso
          have := Fl.dist_wh x
          have hU := Fl.U_pos
          rw [h, Fl.rv_zero] at this
          rw [h, Fl.rv_zero] at hk2
          generalize Fl.wh x * Fl.U = q at *
          generalize Fl.dist 0 (Fl.wh x) = d at *
          omega
        · exact h
      obtain ⟨s2, hs2, hr2, hsub2⟩ := run_sub_int x hx hf (Fl.wh x + 1) hle
      have ho0 : ∃ o0, FloatKind.f64.format.order x 0 = some o0 ∧ (o0 = .gt ∨ o0 = .lt) ∧ (if o0 = .gt then Fl.sgi (Fl.sg x) (Fl.wh x) + 1 else Fl.sgi (Fl.sg x) (Fl.wh x) - 1) = Fl.sgi (Fl.sg x) (Fl.wh x + 1) := by
        cases hsg : Fl.sg x
        · refine ⟨.gt, Fl.cmp0_gt x hpos (by omega) hsg, .inl rfl, ?_⟩
          unfold Fl.sgi; simp
        · refine ⟨.lt, Fl.cmp0_lt x hpos (by omega) hsg, .inr rfl, ?_⟩
          unfold Fl.sgi; simp; omega
      obtain ⟨o0, e0, f0, g0⟩ := ho0
      rw [← g0] at hsub2
      refine (rnear_move x w hx hf o1 e1 f1 o2 e2 f2 _ ?_ ?_ hi s hs hsub _ h5 ?_ o0 e0 f0 s2 hs2 hsub2).mono ?_
      · unfold Fl.sgi; split <;> omega
      · unfold Fl.sgi; split <;> omega
      · rcases hk2 with h | ⟨h, hm⟩
        · left; rw [if_neg (by omega), if_neg (by omega)]
        · right
          refine ⟨by rw [if_neg (by omega), if_pos h], ?_⟩
          rw [hodd, decide_eq_true hm]
      · rintro e w' ⟨rfl, rfl⟩
        refine ⟨?_, Dr.refl _⟩
        unfold Fl.nearN Fl.nearD Fl.nearE
        rw [if_pos hc, if_pos hc, if_pos hc, hnk, hr2, g0]
  · by_cases hf : Fl.rg x < Fl.I
    · have ho := out53 x hc
      have hN : Hid (NPost x w (.returned (.tuple #[.int .i64 0, .float .f64 0, .int .i64 6])) w) := by
        refine ⟨?_, Dr.refl _⟩
        unfold Fl.nearN Fl.nearD Fl.nearE
        rw [if_neg hc, if_neg hc, if_neg hc, if_pos hf]
      clear hc cl
      rcases ho with ho | ho | ⟨ho, ho2⟩
      all_goals
        go_enter Try.func14, Try.ntmps14
        go_wp2_with fail
        refine (rfinite_yes x _ hx hf).mono ?_
        rintro e w' ⟨rfl, rfl⟩
        go_wp2
        go_ret3
        exact hN.out
    · have hN : Hid (∀ w', Dr w w' → NPost x w (.returned (.tuple #[.int .i64 0, .float .f64 0, .int .i64 5])) w') := by
        intro w' hd
        refine ⟨?_, hd⟩
        unfold Fl.nearN Fl.nearD Fl.nearE
        rw [if_neg hc, if_neg hc, if_neg hc, if_neg hf]
      clear hc cl
      go_enter Try.func14, Try.ntmps14
      go_wp2_with fail
      refine (rfinite_no x _ hf).mono ?_
      rintro e w' ⟨rfl, hd⟩
      have HD := Lib.hid hd
      clear hd hf
      go_wp2
      go_ret3
      exact hN.out _ HD.out
end Go.Proofs.Ytgockebgcbmgoaa

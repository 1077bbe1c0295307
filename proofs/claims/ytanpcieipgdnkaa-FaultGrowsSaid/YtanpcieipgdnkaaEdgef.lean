/-
  The walk of the reference's Nearest.
-/
import Derived.Test.YtanpcieipgdnkaaEdgee
set_option linter.unusedVariables false
set_option linter.unusedSimpArgs false
namespace Go.Proofs.Ytanpcieipgdnkaa
open Go.RowKit

def gtB (o : Ordering) : Bool := o == .gt
/-! ### which whole number -/
theorem Fl.wh_le_rv (x : Nat) : Fl.wh x * Fl.U ≤ Fl.rv (Fl.rg x) := Nat.div_mul_le_self _ _
theorem Fl.rv_lt_wh (x : Nat) : Fl.rv (Fl.rg x) < (Fl.wh x + 1) * Fl.U := by
  have := Nat.div_add_mod (Fl.rv (Fl.rg x)) Fl.U
  have h2 := Nat.mod_lt (Fl.rv (Fl.rg x)) Fl.U_pos
  have h3 : Fl.U * (Fl.rv (Fl.rg x) / Fl.U) = Fl.wh x * Fl.U := Nat.mul_comm _ _
  rw [Nat.add_mul, Nat.one_mul]; omega
theorem Fl.cut_of (n k : Nat) (h1 : 2 * n ≤ (2 * k + 1) * Fl.U) (h2 : 2 * n = (2 * k + 1) * Fl.U → k % 2 = 0) (h3 : 2 * k * Fl.U ≤ 2 * n + Fl.U) (h4 : 2 * k * Fl.U = 2 * n + Fl.U → k % 2 = 0) : Fl.Cut n Fl.E k := by
  rw [Fl.U_def] at h1 h2 h3 h4
  exact ⟨h1, h2, h3, h4⟩
theorem Fl.nk_is (x k : Nat) (h1 : 2 * Fl.rv (Fl.rg x) ≤ (2 * k + 1) * Fl.U) (h2 : 2 * Fl.rv (Fl.rg x) = (2 * k + 1) * Fl.U → k % 2 = 0) (h3 : 2 * k * Fl.U ≤ 2 * Fl.rv (Fl.rg x) + Fl.U) (h4 : 2 * k * Fl.U = 2 * Fl.rv (Fl.rg x) + Fl.U → k % 2 = 0) : Fl.nk x = k :=
  (Fl.nk_cut x).eq (Fl.cut_of _ _ h1 h2 h3 h4)
theorem Fl.dist_wh (x : Nat) : Fl.dist (Fl.rv (Fl.rg x)) (Fl.wh x) + Fl.wh x * Fl.U = Fl.rv (Fl.rg x) := by
  have := Fl.wh_le_rv x
  unfold Fl.dist
  generalize Fl.wh x * Fl.U = q at *
  omega
/-- The nearest one, by how far the whole part is. -/
theorem Fl.nk_lo (x : Nat) (h : 2 * Fl.dist (Fl.rv (Fl.rg x)) (Fl.wh x) < Fl.U ∨ (2 * Fl.dist (Fl.rv (Fl.rg x)) (Fl.wh x) = Fl.U ∧ Fl.wh x % 2 = 0)) : Fl.nk x = Fl.wh x := by
  have h1 := Fl.dist_wh x
  have e1 : (2 * Fl.wh x + 1) * Fl.U = 2 * (Fl.wh x * Fl.U) + Fl.U := by rw [Nat.add_mul, Nat.one_mul, Nat.mul_assoc]
  have e2 : 2 * Fl.wh x * Fl.U = 2 * (Fl.wh x * Fl.U) := Nat.mul_assoc _ _ _
  have hU := Fl.U_pos
  apply Fl.nk_is
  all_goals (try rw [e1]); (try rw [e2]); generalize Fl.wh x * Fl.U = q at *; generalize Fl.dist (Fl.rv (Fl.rg x)) (Fl.wh x) = d at *; generalize Fl.U = u at *; generalize Fl.wh x = v at *; omega
theorem Fl.nk_hi (x : Nat) (h : Fl.U < 2 * Fl.dist (Fl.rv (Fl.rg x)) (Fl.wh x) ∨ (2 * Fl.dist (Fl.rv (Fl.rg x)) (Fl.wh x) = Fl.U ∧ Fl.wh x % 2 = 1)) : Fl.nk x = Fl.wh x + 1 := by
  have h1 := Fl.dist_wh x
  have h0 := Fl.rv_lt_wh x
  have e0 : (Fl.wh x + 1) * Fl.U = Fl.wh x * Fl.U + Fl.U := by rw [Nat.add_mul, Nat.one_mul]
  have e1 : (2 * (Fl.wh x + 1) + 1) * Fl.U = 2 * (Fl.wh x * Fl.U) + 3 * Fl.U := by
    rw [Nat.add_mul, Nat.one_mul, Nat.mul_assoc, e0]; omega
  have e2 : 2 * (Fl.wh x + 1) * Fl.U = 2 * (Fl.wh x * Fl.U) + 2 * Fl.U := by rw [Nat.mul_assoc, e0]; omega
  rw [e0] at h0
  have hU := Fl.U_pos
  apply Fl.nk_is
  all_goals (try rw [e1]); (try rw [e2]); generalize Fl.wh x * Fl.U = q at *; generalize Fl.dist (Fl.rv (Fl.rg x)) (Fl.wh x) = d at *; generalize Fl.U = u at *; generalize Fl.wh x = v at *; omega

/-- How far the whole part is, is a float. -/
theorem Fl.ex_c53 (r : Nat) (h : r ≤ Fl.c53) : Fl.ex r ≤ 1075 := by
  unfold Fl.ex Fl.B Fl.c53 at *; omega
theorem Fl.dist_wh_rep (x : Nat) (h : Fl.rg x ≤ Fl.c53) : Fl.rv (Fl.rr (Fl.dist (Fl.rv (Fl.rg x)) (Fl.wh x))) = Fl.dist (Fl.rv (Fl.rg x)) (Fl.wh x) := by
  have hc := Fl.c53_lt
  by_cases he : Fl.ex (Fl.rg x) ≤ 1074
  · refine (Fl.dist_rep (Fl.rg x) (Fl.wh x) (by omega) ?_ he).1
    have := Fl.dist_wh x; omega
  · have : Fl.rg x = Fl.c53 := by unfold Fl.ex Fl.B Fl.c53 at *; omega
    have hw : Fl.wh x = 9007199254740992 := by
      unfold Fl.wh; rw [this, Fl.rv_c53]; exact Nat.mul_div_cancel _ Fl.U_pos
    have hd := Fl.dist_wh x
    rw [this, Fl.rv_c53, hw] at hd
    have : Fl.dist (Fl.rv (Fl.rg x)) (Fl.wh x) = 0 := by rw [this, Fl.rv_c53, hw]; generalize 9007199254740992 * Fl.U = q at *; omega
    rw [this, Fl.rr_zero, Fl.rv_zero]
theorem Fl.half_aux (n r c u : Nat) (h : Fl.rv r = n) (hu : 2 * Fl.rv c = u) : (if (r : Int) < (c : Int) then Ordering.lt else if (r : Int) = (c : Int) then .eq else .gt) = (if 2 * n < u then .lt else if 2 * n = u then .eq else .gt) := by
  rcases Nat.lt_trichotomy r c with h1 | h1 | h1
  · have := Fl.rv_mono h1
    rw [if_pos (by omega), if_pos (by omega)]
  · subst h1
    rw [if_neg (by omega), if_pos rfl, if_neg (by omega), if_pos (by omega)]
  · have := Fl.rv_mono h1
    rw [if_neg (by omega), if_neg (by omega), if_neg (by omega), if_neg (by omega)]
theorem Fl.half_ord (n : Nat) (h : Fl.rv (Fl.rr n) = n) : FloatKind.f64.format.order (Fl.rr n) 4602678819172646912 = some (if 2 * n < Fl.U then .lt else if 2 * n = Fl.U then .eq else .gt) := by
  rw [Fl.ord_pos _ _ (Fl.rnd_rr false n).2 (by decide), Fl.compare_int]
  exact congrArg some (Fl.half_aux n (Fl.rr n) 4602678819172646912 Fl.U h Fl.rv_half)
theorem Fl.tmod_nat (k : Nat) : Int.tmod (k : Int) 2 = ((k % 2 : Nat) : Int) := by
  rw [Int.tmod_eq_emod_of_nonneg (by omega)]; omega
theorem Fl.sgi_odd (s : Bool) (k : Nat) : (Int.tmod (Fl.sgi s k) 2 != 0) = decide (k % 2 = 1) := by
  unfold Fl.sgi
  cases s
  · simp only [Bool.false_eq_true, if_false]
    rw [Fl.tmod_nat]
    by_cases h : k % 2 = 1
    · rw [decide_eq_true h, bne_iff_ne]; omega
    · rw [decide_eq_false h, bne_eq_false_iff_eq]; omega
  · simp only [if_true]
    rw [Int.neg_tmod, Fl.tmod_nat]
    by_cases h : k % 2 = 1
    · rw [decide_eq_true h, bne_iff_ne]; omega
    · rw [decide_eq_false h, bne_eq_false_iff_eq]; omega

theorem ex_ord {o : Option Ordering} {a b : Ordering} (h : o = some a ∨ o = some b) : ∃ c, o = some c ∧ (c = a ∨ c = b) := by
  rcases h with h | h
  · exact ⟨_, h, .inl rfl⟩
  · exact ⟨_, h, .inr rfl⟩
theorem Fl.t_ok (x : Nat) (k : Nat) : (Fl.sg x && decide (0 < k)) = Fl.sg x ∨ k = 0 := by
  by_cases h : 0 < k
  · left; rw [decide_eq_true h, Bool.and_true]
  · right; omega
theorem run_sub_int (x : Nat) (hx : x < 2 * Fl.W) (hf : Fl.rg x < Fl.I) (k : Nat) (hk : k ≤ 9007199254740992) : ∃ s, s < 2 * Fl.W ∧ Fl.rg s = Fl.rr (Fl.dist (Fl.rv (Fl.rg x)) k) ∧ ∀ w, (binOp .sub 22 (.float .f64 x) (.float .f64 (floatOfInt .f64 (Fl.sgi (Fl.sg x) k)))).run Try.prog w = .ok (.float .f64 s) w := by
  obtain ⟨t, ht⟩ := Fl.sub_whole x hx hf _ k hk (Fl.t_ok x k)
  refine ⟨_, Fl.rnd_lt t _, Fl.rg_rnd t _, fun w => ?_⟩
  rw [Fl.ofInt_sgi]
  exact run_float_arith (P := Try.prog) w .sub 22 .f64 x _ _ ht

end Go.Proofs.Ytanpcieipgdnkaa

/-
  The walks of Next (edge and its reference), SameFloat, LikeFloat, Finite.
-/
import Derived.Test.YtgockebgcbmgoaaEdgea
set_option linter.unusedVariables false
set_option linter.unusedSimpArgs false
namespace Go.Proofs.Ytgockebgcbmgoaa
open Go.RowKit

theorem Fl.cmp_self (x : Nat) (h : Fl.rg x ≤ Fl.I) : FloatKind.f64.format.order x x = some .eq := Fl.order_eq x x h h rfl
theorem Fl.cmp_nan (x y : Nat) (h : Fl.I < Fl.rg x) : FloatKind.f64.format.order x y = none := Fl.order_nan _ _ (.inl h)
theorem Fl.key0 : Fl.key 0 = 0 := by decide
theorem Fl.cmp0_eq (x : Nat) (h : Fl.rg x = 0) : FloatKind.f64.format.order x 0 = some .eq := by
  refine Fl.order_eq x 0 (by rw [h]; exact Nat.zero_le _) (by decide) ?_
  rw [Fl.key0]; unfold Fl.key; rw [h]; simp
theorem Fl.cmp0_gt (x : Nat) (h0 : 0 < Fl.rg x) (h : Fl.rg x ≤ Fl.I) (hs : Fl.sg x = false) : FloatKind.f64.format.order x 0 = some .gt := by
  refine Fl.order_gt x 0 h (by decide) ?_
  rw [Fl.key0]; unfold Fl.key; rw [hs]; simp; omega
theorem Fl.cmp0_lt (x : Nat) (h0 : 0 < Fl.rg x) (h : Fl.rg x ≤ Fl.I) (hs : Fl.sg x = true) : FloatKind.f64.format.order x 0 = some .lt := by
  refine Fl.order_lt x 0 h (by decide) ?_
  rw [Fl.key0]; unfold Fl.key; rw [hs]; simp; omega

theorem u64_succ (x : Nat) (h : x + 1 < 2 * Fl.W) : (IntKind.u64.wrap ((x : Int) + 1)).toNat = x + 1 := by
  rw [IntKind.wrap_u64]; unfold Fl.W at h; omega
theorem u64_pred (x : Nat) (h : x < 2 * Fl.W) (h0 : 0 < x) : (IntKind.u64.wrap ((x : Int) - 1)).toNat = x - 1 := by
  rw [IntKind.wrap_u64]; unfold Fl.W at h; omega
theorem rg_succ_lt (x : Nat) (hx : x < 2 * Fl.W) (h : Fl.rg x ≤ Fl.I) : x + 1 < 2 * Fl.W := by
  have := Fl.wd_sg_rg x hx
  have : Fl.wd (Fl.sg x) (Fl.rg x) ≤ Fl.W + Fl.I := by unfold Fl.wd; split <;> omega
  have : Fl.I + 1 < Fl.W := by decide
  omega
theorem sg_pos (x : Nat) (hx : x < 2 * Fl.W) (h0 : 0 < Fl.rg x) : 0 < x := by
  rcases Nat.eq_zero_or_pos x with h | h
  · subst h; exact absurd h0 (by decide)
  · exact h

theorem next_any (x : Nat) (up : Bool) (w : World) (hx : x < 2 * Fl.W) : Calls Try.prog 16 #[.float .f64 x, .bool up] w fun e w' => e = .returned (.float .f64 (Fl.next x up)) ∧ w = w' := by
  have hb := run_bits
  have hf := run_from
  have hn : ∀ w, (Op.unary .neg (.float .f64 1)).run Try.prog w = .ok (.float .f64 (Fl.W + 1)) w := fun w => by
    rw [show Fl.W + 1 = Fl.ng 1 from rfl, ← Fl.neg_word 1 (by decide)]; rfl
  unfold Fl.next
  rcases Nat.lt_or_ge Fl.I (Fl.rg x) with h | h
  · have h1 := Fl.cmp_nan x x h
    rw [if_pos h]
    clear h hn
    go_enter Try.func16, Try.ntmps16
    go_wp2
    go_ret
    exact ⟨rfl, rfl⟩
  · have h1 := Fl.cmp_self x h
    rw [if_neg (by omega)]
    by_cases hI : Fl.rg x = Fl.I
    · have hI' : decide (Fl.rg x = Fl.I) = true := decide_eq_true hI
      have h0 : 0 < Fl.rg x := by rw [hI]; decide
      have H0 := Lib.hid h0
      have HI := Lib.hid hI
      have HH := Lib.hid h
      cases hs : Fl.sg x
      · have h2 := Fl.cmp0_gt x h0 h hs
        cases up
        · rw [if_neg (by simp), if_neg (by omega), if_neg (by simp)]
          clear h h0 hI
          go_enter Try.func16, Try.ntmps16
          go_wp2_with (first | (go_at_call 44; refine (isinf_down _ _ hx).mono ?_; rintro e w' ⟨rfl, rfl⟩))
          go_ret
          exact ⟨ret_fl (u64_pred x hx (sg_pos x hx H0.out)), rfl⟩
        · rw [if_pos ⟨hI, rfl⟩]
          clear h h0 hI
          go_enter Try.func16, Try.ntmps16
          go_wp2_with (first | (go_at_call 44; refine (isinf_up _ _).mono ?_; rintro e w' ⟨rfl, rfl⟩))
          go_ret
          exact ⟨rfl, rfl⟩
      · have h2 := Fl.cmp0_lt x h0 h hs
        cases up
        · rw [if_pos ⟨hI, rfl⟩]
          clear h h0 hI
          go_enter Try.func16, Try.ntmps16
          go_wp2_with (first | (go_at_call 44; refine (isinf_down _ _ hx).mono ?_; rintro e w' ⟨rfl, rfl⟩))
          go_ret
          exact ⟨rfl, rfl⟩
        · rw [if_neg (by simp), if_neg (by omega), if_neg (by simp)]
          clear h h0 hI
          go_enter Try.func16, Try.ntmps16
          go_wp2_with (first | (go_at_call 44; refine (isinf_up _ _).mono ?_; rintro e w' ⟨rfl, rfl⟩))
          go_ret
          exact ⟨ret_fl (u64_pred x hx (sg_pos x hx H0.out)), rfl⟩
    · have hI' : decide (Fl.rg x = Fl.I) = false := decide_eq_false hI
      rw [if_neg (by simp [hI])]
      have HH := Lib.hid h
      by_cases hz : Fl.rg x = 0
      · have h2 := Fl.cmp0_eq x hz
        rw [if_pos hz]
        cases up
        · rw [if_neg (by simp)]
          clear h hz hI
          go_enter Try.func16, Try.ntmps16
          go_wp2_with (first | (go_at_call 44; refine (isinf_down _ _ hx).mono ?_; rintro e w' ⟨rfl, rfl⟩))
          go_ret
          exact ⟨rfl, rfl⟩
        · rw [if_pos rfl]
          clear h hz hI
          go_enter Try.func16, Try.ntmps16
          go_wp2_with (first | (go_at_call 44; refine (isinf_up _ _).mono ?_; rintro e w' ⟨rfl, rfl⟩))
          go_ret
          exact ⟨rfl, rfl⟩
      · have h0 : 0 < Fl.rg x := by omega
        have H0 := Lib.hid h0
        rw [if_neg hz]
        cases hs : Fl.sg x
        · have h2 := Fl.cmp0_gt x h0 h hs
          cases up
          · rw [if_neg (by simp)]
            clear h h0 hI hz
            go_enter Try.func16, Try.ntmps16
            go_wp2_with (first | (go_at_call 44; refine (isinf_down _ _ hx).mono ?_; rintro e w' ⟨rfl, rfl⟩))
            go_ret
            exact ⟨ret_fl (u64_pred x hx (sg_pos x hx H0.out)), rfl⟩
          · rw [if_pos (by simp)]
            clear h h0 hI hz
            go_enter Try.func16, Try.ntmps16
            go_wp2_with (first | (go_at_call 44; refine (isinf_up _ _).mono ?_; rintro e w' ⟨rfl, rfl⟩))
            go_ret
            exact ⟨ret_fl (u64_succ x (rg_succ_lt x hx HH.out)), rfl⟩
        · have h2 := Fl.cmp0_lt x h0 h hs
          cases up
          · rw [if_pos (by simp)]
            clear h h0 hI hz
            go_enter Try.func16, Try.ntmps16
            go_wp2_with (first | (go_at_call 44; refine (isinf_down _ _ hx).mono ?_; rintro e w' ⟨rfl, rfl⟩))
            go_ret
            exact ⟨ret_fl (u64_succ x (rg_succ_lt x hx HH.out)), rfl⟩
          · rw [if_neg (by simp)]
            clear h h0 hI hz
            go_enter Try.func16, Try.ntmps16
            go_wp2_with (first | (go_at_call 44; refine (isinf_up _ _).mono ?_; rintro e w' ⟨rfl, rfl⟩))
            go_ret
            exact ⟨ret_fl (u64_pred x hx (sg_pos x hx H0.out)), rfl⟩
end Go.Proofs.Ytgockebgcbmgoaa

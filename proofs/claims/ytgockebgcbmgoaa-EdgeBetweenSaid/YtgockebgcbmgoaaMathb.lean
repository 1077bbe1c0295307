/-
  The walks of math's normalize, Frexp and Ldexp on finite floats.
-/
import Derived.Test.YtgockebgcbmgoaaAdd
import Derived.Test.YtgockebgcbmgoaaMult
set_option linter.unusedVariables false
set_option linter.unusedSimpArgs false
namespace Go.Proofs.Ytgockebgcbmgoaa
open Go.RowKit

theorem isnan_no (x : Nat) (w : World) (h : Fl.rg x ≤ Fl.I) : Calls Try.prog 81 #[.float .f64 x] w fun e w' => e = .returned (.bool false) ∧ w = w' := by
  have h1 := Fl.cmp_self x h
  go_enter Try.func81, Try.ntmps81
  go_wp2
  go_ret
  exact ⟨rfl, rfl⟩

/-- What normalize tells: the normal word, and the power. -/
def Fl.nzW (x : Nat) : Nat := if Fl.rg x < Fl.B then Fl.wd (Fl.sg x) ((Fl.nE (Fl.rg x) + 52).toNat * Fl.B + Fl.nM (Fl.rg x)) else x
def Fl.nzP (x : Nat) : Int := if Fl.rg x < Fl.B then -52 else 0
theorem normalize_fin (x : Nat) (w : World) (hx : x < 2 * Fl.W) (h0 : 0 < Fl.rg x) (hf : Fl.rg x < Fl.I) :
    Calls Try.prog 82 #[.float .f64 x] w fun e w' => e = .returned (.tuple #[.float .f64 (Fl.nzW x), .int .i64 (Fl.nzP x)]) ∧ w = w' := by
  unfold Fl.nzW Fl.nzP
  by_cases h : Fl.rg x < Fl.B
  · rw [if_pos h, if_pos h]
    have ho : FloatKind.f64.format.order (Fl.rg x) 4503599627370496 = some .lt := by
      rw [Fl.ord_pos _ _ (Nat.le_of_lt hf) (by decide), Fl.compare_int]
      unfold Fl.B at h
      rw [if_pos (by omega)]
    have hm := fun w => run_float_arith (P := Try.prog) w .mul 22 .f64 x 4841369599423283200 _ (Fl.up52 x h0 h).1
    clear h h0 hf
    go_enter Try.func82, Try.ntmps82
    go_wp2_with fail
    refine (abs_any x _ hx).mono ?_
    rintro e w' ⟨rfl, rfl⟩
    go_wp2
    go_ret2
    exact ⟨rfl, rfl⟩
  · rw [if_neg h, if_neg h]
    have ho : (FloatKind.f64.format.order (Fl.rg x) 4503599627370496 == some .lt) = false := by
      rw [Fl.ord_pos _ _ (Nat.le_of_lt hf) (by decide), Fl.compare_int]
      unfold Fl.B at h
      rw [if_neg (by omega)]
      split <;> rfl
    clear h h0 hf
    go_enter Try.func82, Try.ntmps82
    go_wp2_with fail
    refine (abs_any x _ hx).mono ?_
    rintro e w' ⟨rfl, rfl⟩
    go_wp2
    go_ret2
    exact ⟨rfl, rfl⟩
/-- The normal word's fields. -/
theorem Fl.nzW_facts (x : Nat) (hx : x < 2 * Fl.W) (h0 : 0 < Fl.rg x) (hf : Fl.rg x < Fl.I) : ∃ r, Fl.nzW x = Fl.wd (Fl.sg x) r ∧ r < Fl.I ∧ r = (Fl.nE (Fl.rg x) - Fl.nzP x).toNat * Fl.B + Fl.nM (Fl.rg x) ∧ 0 ≤ Fl.nE (Fl.rg x) - Fl.nzP x ∧ (Fl.nzP x = 0 ∨ Fl.nzP x = -52) := by
  unfold Fl.nzW Fl.nzP
  by_cases h : Fl.rg x < Fl.B
  · rw [if_pos h, if_pos h]
    obtain ⟨_, a2, a3⟩ := Fl.up52 x h0 h
    have hr := Fl.nE_range (Fl.rg x) h0 hf
    exact ⟨_, rfl, a2, by rw [show Fl.nE (Fl.rg x) - -52 = Fl.nE (Fl.rg x) + 52 by omega], by omega, .inr rfl⟩
  · rw [if_neg h, if_neg h]
    obtain ⟨b1, b2⟩ := Fl.norm_rung (Fl.rg x) (by omega)
    exact ⟨Fl.rg x, (Fl.wd_sg_rg x hx).symm, hf, by rw [show Fl.nE (Fl.rg x) - 0 = Fl.nE (Fl.rg x) by omega]; exact b1, by omega, .inl rfl⟩
theorem Fl.div_rung (e m : Nat) (h1 : Fl.B ≤ m) (h2 : m < 2 * Fl.B) : (e * Fl.B + m) / Fl.B = e + 1 ∧ (e * Fl.B + m) % Fl.B = m - Fl.B := by
  unfold Fl.B at *; omega

/-! ### bits of fields -/
theorem and2047 (n : Nat) : n &&& 2047 = n % 2048 := Nat.and_two_pow_sub_one_eq_mod n 11
theorem exp_u64 (s : Bool) (r : Nat) (h : r < Fl.W) : bits BinOp.and IntKind.u64 (((Fl.wd s r : Nat) : Int) / 4503599627370496) 2047 = ((r / Fl.B : Nat) : Int) := by
  have hl := Fl.wd_lt s r h
  have e1 : (((Fl.wd s r : Nat) : Int) / 4503599627370496) = ((Fl.wd s r / 4503599627370496 : Nat) : Int) := by omega
  have e2 : (2047 : Int) = ((2047 : Nat) : Int) := rfl
  rw [e1, e2, u64_and_nat _ _ (by unfold Fl.W at hl; omega) (by decide), and2047, Fl.field_exp s r h]
theorem exp_i64 (s : Bool) (r : Nat) (h : r < Fl.W) : bits BinOp.and IntKind.i64 (wrap64 (((Fl.wd s r : Nat) : Int) / 4503599627370496)) 2047 = ((r / Fl.B : Nat) : Int) := by
  have hl := Fl.wd_lt s r h
  have e1 : wrap64 (((Fl.wd s r : Nat) : Int) / 4503599627370496) = ((Fl.wd s r / 4503599627370496 : Nat) : Int) := by
    unfold wrap64 Fl.W at *; omega
  have hb := bits_nat .i64 62 (by decide) (by intro n h0 h1; rw [IntKind.wrap_i64]; omega) (Fl.wd s r / 4503599627370496) 2047 (by unfold Fl.W at hl; omega) (by decide)
  have e2 : (2047 : Int) = ((2047 : Nat) : Int) := rfl
  rw [e1, e2]
  rw [hb.1, and2047, Fl.field_exp s r h]
theorem sign_or (s : Bool) (q : Nat) (h : q < Fl.W) : (if s then Fl.W else 0) ||| q = Fl.wd s q := by
  cases s
  · simp [Fl.wd]
  · simp only [if_true, Fl.wd]
    exact nat_join 63 Fl.W q (by decide) (by rw [← Fl.W_eq]; exact h)
theorem clear_exp (s : Bool) (r : Nat) (h : r < Fl.W) : bits BinOp.andNot IntKind.u64 ((Fl.wd s r : Nat) : Int) 9218868437227405312 = ((Fl.wd s (r % Fl.B) : Nat) : Int) := by
  have hl := Fl.wd_lt s r h
  have e2 : (9218868437227405312 : Int) = ((9218868437227405312 : Nat) : Int) := rfl
  rw [e2, u64_andNot_nat _ _ (by unfold Fl.W at hl; omega) (by decide)]
  rw [show 18446744073709551615 - 9218868437227405312 = Fl.W ||| (2 ^ 52 - 1) by decide, Nat.and_or_distrib_left, Fl.and_sign, Nat.and_two_pow_sub_one_eq_mod]
  have h1 : Fl.wd s r / Fl.W % 2 * Fl.W = if s then Fl.W else 0 := by
    have := Fl.sg_wd s r h
    unfold Fl.sg at this
    cases s
    · have h2 : ¬ Fl.wd false r / Fl.W % 2 = 1 := by simpa using this
      have : Fl.wd false r / Fl.W % 2 = 0 := by omega
      rw [this]; simp
    · have h2 : Fl.wd true r / Fl.W % 2 = 1 := by simpa using this
      rw [h2]; simp
  have h2 : Fl.wd s r % 2 ^ 52 = r % Fl.B := by
    unfold Fl.wd Fl.W Fl.B; cases s
    · simp
    · simp only [if_true]; omega
  rw [h1, h2, sign_or s _ (Nat.lt_of_le_of_lt (Nat.mod_le _ _) h)]
theorem set_exp (s : Bool) (q n : Nat) (hq : q < Fl.B) (hn : n ≤ 2047) (e : Int) (he : e = (n : Int)) : bits BinOp.or IntKind.u64 ((Fl.wd s q : Nat) : Int) (e * 4503599627370496) = ((Fl.wd s (n * Fl.B + q) : Nat) : Int) := by
  subst he
  have hqW : q < Fl.W := Nat.lt_trans hq (by decide)
  have hl := Fl.wd_lt s q hqW
  have e1 : ((n : Int) * 4503599627370496) = ((n * 4503599627370496 : Nat) : Int) := by omega
  rw [e1, u64_or_nat _ _ (by unfold Fl.W at hl; omega) (by omega)]
  rw [← sign_or s q hqW, Nat.or_assoc, Nat.or_comm q, nat_join 52 (n * 4503599627370496) q (by omega) (by unfold Fl.B at hq; omega)]
  rw [sign_or s _ (by unfold Fl.B Fl.W at *; omega)]
  rfl
theorem set_exp_lit (s : Bool) (q : Nat) (hq : q < Fl.B) : bits BinOp.or IntKind.u64 ((Fl.wd s q : Nat) : Int) 4602678819172646912 = ((Fl.wd s (1022 * Fl.B + q) : Nat) : Int) := by
  have := set_exp s q 1022 hq (by decide) 1022 rfl
  rw [show (1022 : Int) * 4503599627370496 = 4602678819172646912 by decide] at this
  exact this

/-! ### Frexp -/
theorem ret_fi {a b : Nat} {n m : Int} (h1 : a = b) (h2 : n = m) : Ending.returned (.tuple #[.float .f64 a, .int .i64 n]) = .returned (.tuple #[.float .f64 b, .int .i64 m]) := by rw [h1, h2]
theorem frexp_walk (x : Nat) (w : World) (hx : x < 2 * Fl.W) (h0 : 0 < Fl.rg x) (hf : Fl.rg x < Fl.I) (p : Nat) (q f : Int) (c r : Nat)
    (hn : ∀ w, Calls Try.prog 82 #[.float .f64 x] w fun e w' => e = .returned (.tuple #[.float .f64 p, .int .i64 q]) ∧ w = w')
    (hq1 : -52 ≤ q) (hq2 : q ≤ 0) (hf1 : 0 ≤ f) (hf2 : f ≤ 2047)
    (h1 : bits BinOp.and IntKind.u64 ((p : Int) / 4503599627370496) 2047 = f)
    (h2 : bits BinOp.andNot IntKind.u64 (p : Int) 9218868437227405312 = (c : Int))
    (h3 : bits BinOp.or IntKind.u64 (c : Int) 4602678819172646912 = (r : Int)) :
    Calls Try.prog 68 #[.float .f64 x] w fun e w' => e = .returned (.tuple #[.float .f64 r, .int .i64 (q + (f - 1023 + 1))]) ∧ w = w' := by
  have hb := run_bits
  have hf' := run_from
  have o1 := ord0_not x hf (by omega)
  have o2 : decide (Fl.rg x = Fl.I) = false := decide_eq_false (by omega)
  have HN := Lib.hid hn
  have hle : Fl.rg x ≤ Fl.I := Nat.le_of_lt hf
  clear hn
  go_enter Try.func68, Try.ntmps68
  go_wp2_with fail
  refine (isinf_any x _ hx).mono ?_
  rintro e w' ⟨rfl, rfl⟩
  go_wp2_with fail
  refine (isnan_no x _ hle).mono ?_
  rintro e w' ⟨rfl, rfl⟩
  go_wp2_with fail
  refine (HN.out _).mono ?_
  rintro e w' ⟨rfl, rfl⟩
  go_wp2
  go_ret2
  exact ⟨ret_fi rfl rfl, rfl⟩
theorem shift_b (b m : Nat) (h : b ≤ m) : 1022 * b + (m - b) = 1021 * b + m := by omega
theorem frexp_fin (x : Nat) (w : World) (hx : x < 2 * Fl.W) (h0 : 0 < Fl.rg x) (hf : Fl.rg x < Fl.I) :
    Calls Try.prog 55 #[.float .f64 x] w fun e w' => e = .returned (.tuple #[.float .f64 (Fl.frx x), .int .i64 (Fl.fri x)]) ∧ w = w' := by
  obtain ⟨r, e1, e2, e3, e4, e5⟩ := Fl.nzW_facts x hx h0 hf
  obtain ⟨m1, m2⟩ := Fl.nM_range (Fl.rg x) h0
  have hr := Fl.nE_range (Fl.rg x) h0 hf
  have hW : r < Fl.W := Nat.lt_trans e2 Fl.I_lt_W
  obtain ⟨d1, d2⟩ := Fl.div_rung (Fl.nE (Fl.rg x) - Fl.nzP x).toNat (Fl.nM (Fl.rg x)) m1 m2
  rw [← e3] at d1 d2
  have hn := fun w => normalize_fin x w hx h0 hf
  rw [e1] at hn
  have hm : Fl.nM (Fl.rg x) - Fl.B < Fl.B := by omega
  have h1 := exp_u64 (Fl.sg x) r hW
  have h2 := clear_exp (Fl.sg x) r hW
  rw [d2] at h2
  have h3 := set_exp_lit (Fl.sg x) (Fl.nM (Fl.rg x) - Fl.B) hm
  have hfr : Fl.wd (Fl.sg x) (1022 * Fl.B + (Fl.nM (Fl.rg x) - Fl.B)) = Fl.frx x := by
    unfold Fl.frx; rw [shift_b _ _ m1]
  have hb1 : r / Fl.B ≤ 2047 := by unfold Fl.B Fl.I at *; omega
  have main := fun w => frexp_walk x w hx h0 hf _ _ _ _ _ hn (by omega) (by omega) (by omega) (by omega) h1 h2 h3
  have hi : Fl.nzP x + (((r / Fl.B : Nat) : Int) - 1023 + 1) = Fl.fri x := by
    rw [d1]; unfold Fl.fri; omega
  rw [hi, hfr] at main
  clear h1 h2 h3 hn hfr hi d1 d2 e1 e2 e3 e4 e5 m1 m2 hr hW hm hb1
  go_enter Try.func55, Try.ntmps55
  go_wp2_with fail
  refine (main _).mono ?_
  rintro e w' ⟨rfl, rfl⟩
  go_wp2
  go_ret2
  exact ⟨rfl, rfl⟩
end Go.Proofs.Ytgockebgcbmgoaa

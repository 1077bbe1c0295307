/-
  The walks of package math's small functions on doubles.
-/
import Derived.Test.YtgockebgcbmgoaaProg
import Derived.Test.YtgockebgcbmgoaaWord
import Derived.WalkKit
import Derived.WalkLawsBesides
import Derived.WalkSpells
import Derived.KernelRfl
import Derived.Laws.Externs
import Derived.Outline
import Derived.Lib.Hide
set_option linter.unusedVariables false
set_option linter.unusedSimpArgs false
namespace Go.Proofs.Ytgockebgcbmgoaa
open Go.RowKit

theorem ret_fl {a b : Nat} (h : a = b) : Ending.returned (.float .f64 a) = .returned (.float .f64 b) := by rw [h]
theorem ret_bool {a b : Bool} (h : a = b) : Ending.returned (.bool a) = .returned (.bool b) := by rw [h]

theorem run_bits (b : Nat) (w : World) : (callFunc 43 #[.float .f64 b]).run Try.prog w = .ok (.value (.int .u64 (b : Int))) w := by
  rw [run_callFunc_extern (e := Extern.MathFloatBits.float64bits) Try.func43 (by kernel_rfl) (by kernel_rfl) (by kernel_rfl) (by kernel_rfl)]
  rfl
theorem run_from (n : Int) (w : World) : (callFunc 45 #[.int .u64 n]).run Try.prog w = .ok (.value (.float .f64 n.toNat)) w := by
  rw [run_callFunc_extern (e := Extern.MathFloatBits.float64frombits) Try.func45 (by kernel_rfl) (by kernel_rfl) (by kernel_rfl) (by kernel_rfl)]
  rfl

theorem abs_any (x : Nat) (w : World) (hx : x < 2 * Fl.W) : Calls Try.prog 38 #[.float .f64 x] w fun e w' => e = .returned (.float .f64 (Fl.rg x)) ∧ w = w' := by
  have hb := run_bits
  have hf := run_from
  go_enter Try.func38, Try.ntmps38
  go_wp2
  go_ret
  exact ⟨ret_fl (by rw [Fl.andNot_sign x hx]; rfl), rfl⟩

theorem signbit_any (x : Nat) (w : World) (hx : x < 2 * Fl.W) : Calls Try.prog 48 #[.float .f64 x] w fun e w' => e = .returned (.bool (Fl.sg x)) ∧ w = w' := by
  have hb := run_bits
  go_enter Try.func48, Try.ntmps48
  go_wp2
  go_ret
  refine ⟨ret_bool ?_, rfl⟩
  unfold wrap64
  unfold Fl.sg Fl.W at *
  by_cases h : x / 9223372036854775808 % 2 = 1
  · simp [h]; omega
  · have : x / 9223372036854775808 % 2 = 0 := by omega
    simp [this]; omega

theorem copysign_any (x y : Nat) (w : World) (hx : x < 2 * Fl.W) (hy : y < 2 * Fl.W) : Calls Try.prog 49 #[.float .f64 x, .float .f64 y] w fun e w' => e = .returned (.float .f64 (Fl.wd (Fl.sg y) (Fl.rg x))) ∧ w = w' := by
  have hb := run_bits
  have hf := run_from
  go_enter Try.func49, Try.ntmps49
  go_wp2
  go_ret
  exact ⟨ret_fl (by rw [Fl.andNot_sign x hx, Fl.and_sign_u64 y hy, Fl.or_sign_u64 _ _ (Fl.rg_lt x)]; rfl), rfl⟩

/-- Above the greatest float. -/
theorem Fl.gt_most (x : Nat) : (FloatKind.f64.format.order x 9218868437227405311 == some .gt) = (decide (Fl.rg x = Fl.I) && !Fl.sg x) := by
  rcases Nat.lt_or_ge Fl.I (Fl.rg x) with h | h
  · have e : FloatKind.f64.format.order x 9218868437227405311 = none := Fl.order_nan _ _ (.inl h)
    rw [e, decide_eq_false (by omega)]; rfl
  · have e : FloatKind.f64.format.order x 9218868437227405311 = some (compare (Fl.key x) (Fl.key 9218868437227405311)) := Fl.order_key _ _ h (by decide)
    have k : Fl.key 9218868437227405311 = 9218868437227405311 := by decide
    rw [e, k, Fl.compare_int]
    unfold Fl.key Fl.I at *
    cases Fl.sg x
    · by_cases h1 : Fl.rg x = 9218868437227405312
      · rw [h1]; decide
      · simp only [Bool.false_eq_true, if_false]
        rw [decide_eq_false h1]
        by_cases h2 : (Fl.rg x : Int) < 9218868437227405311
        · rw [if_pos h2]; rfl
        · rw [if_neg h2, if_pos (by omega)]; rfl
    · simp only [if_true]
      rw [if_pos (by omega)]; simp

theorem isinf_up (x : Nat) (w : World) : Calls Try.prog 44 #[.float .f64 x, .int .i64 1] w fun e w' => e = .returned (.bool (decide (Fl.rg x = Fl.I) && !Fl.sg x)) ∧ w = w' := by
  go_enter Try.func44, Try.ntmps44
  go_wp2
  go_ret
  exact ⟨ret_bool (Fl.gt_most x), rfl⟩
theorem isinf_down (x : Nat) (w : World) (hx : x < 2 * Fl.W) : Calls Try.prog 44 #[.float .f64 x, .int .i64 (-1)] w fun e w' => e = .returned (.bool (decide (Fl.rg x = Fl.I) && Fl.sg x)) ∧ w = w' := by
  have hn : ∀ w, (Op.unary .neg (.float .f64 x)).run Try.prog w = .ok (.float .f64 (Fl.ng x)) w := fun w => by
    rw [← Fl.neg_word x hx]; rfl
  go_enter Try.func44, Try.ntmps44
  go_wp2
  go_ret
  exact ⟨ret_bool (by rw [Fl.gt_most, Fl.rg_ng x hx, Fl.sg_ng x hx, Bool.not_not]), rfl⟩
theorem isinf_any (x : Nat) (w : World) (hx : x < 2 * Fl.W) : Calls Try.prog 44 #[.float .f64 x, .int .i64 0] w fun e w' => e = .returned (.bool (decide (Fl.rg x = Fl.I))) ∧ w = w' := by
  go_enter Try.func44, Try.ntmps44
  go_wp2_with (go_at_call 38; refine (abs_any _ _ hx).mono ?_; rintro e w' ⟨rfl, rfl⟩)
  go_ret
  refine ⟨ret_bool ?_, rfl⟩
  have h1 : Fl.rg (Fl.rg x) = Fl.rg x := Nat.mod_eq_of_lt (Fl.rg_lt x)
  have h2 : Fl.sg (Fl.rg x) = false := by
    unfold Fl.sg; rw [Nat.div_eq_of_lt (Fl.rg_lt x)]; rfl
  rw [Fl.gt_most, h1, h2]; simp
end Go.Proofs.Ytgockebgcbmgoaa

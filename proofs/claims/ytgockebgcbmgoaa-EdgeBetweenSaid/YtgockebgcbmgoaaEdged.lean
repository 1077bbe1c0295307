/-
  The walks of Trunc; Whole and Nearest, of edge and of its reference.
-/
import Derived.Test.YtgockebgcbmgoaaEdgec
set_option linter.unusedVariables false
set_option linter.unusedSimpArgs false
namespace Go.Proofs.Ytgockebgcbmgoaa
open Go.RowKit

theorem decode64 (x : Nat) : FloatKind.f64.decode x = Ieee.double.read x := rfl
theorem encode64 (d : Ieee.Datum) : FloatKind.f64.encode d = Ieee.double.write d := rfl
theorem toIntegral_ex (x : Nat) (way : Ieee.Toward) (name : String) : ∃ f : Bool → Nat → Sem Value, Extern.MathFloor.toIntegral name way #[.float .f64 x] = (match FloatKind.f64.decode x with | .nan s t => f s t | d => pure (.float .f64 (FloatKind.f64.encode (d.integral way)))) := ⟨_, rfl⟩
theorem integral_num (x : Nat) (h : Fl.rg x < Fl.I) (way : Ieee.Toward) (k : Nat) (hk : (Ieee.double.read x).integral way = .number (Fl.sg x) k 0) (name : String) (w : World) :
    (Extern.MathFloor.toIntegral name way #[.float .f64 x]).run Try.prog w = .ok (.float .f64 (Fl.rnd (Fl.sg x) (k * Fl.U))) w := by
  have hr := Fl.read_fin x h
  obtain ⟨f, hf⟩ := toIntegral_ex x way name
  rw [hf, decode64, ← Fl.write_whole, ← hk, hr]
  rfl
/-- What Trunc and RoundToEven tell of finite floats. -/
noncomputable def Fl.tr (x : Nat) : Nat := Fl.rnd (Fl.sg x) (Fl.wh x * Fl.U)
noncomputable def Fl.rte (x : Nat) : Nat := Fl.rnd (Fl.sg x) (Fl.nk x * Fl.U)
theorem run_trunc (x : Nat) (h : Fl.rg x < Fl.I) (w : World) : (callFunc 63 #[.float .f64 x]).run Try.prog w = .ok (.value (.float .f64 (Fl.tr x))) w := by
  rw [run_callFunc_extern (e := Extern.MathFloor.toIntegral "math.archTrunc" .zero) Try.func63 (by kernel_rfl) (by kernel_rfl) (by kernel_rfl) (by kernel_rfl)]
  rw [integral_num x h .zero _ (Fl.integral_zero x h)]
  rfl
theorem run_even (x : Nat) (h : Fl.rg x < Fl.I) (w : World) : (callFunc 41 #[.float .f64 x]).run Try.prog w = .ok (.value (.float .f64 (Fl.rte x))) w := by
  rw [run_callFunc_extern (e := Extern.MathFloor.toIntegral "math.RoundToEven" .even) Try.func41 (by kernel_rfl) (by kernel_rfl) (by kernel_rfl) (by kernel_rfl)]
  rw [integral_num x h .even _ (Fl.integral_even x h)]
  rfl
theorem trunc_fin (x : Nat) (h : Fl.rg x < Fl.I) (w : World) : Calls Try.prog 39 #[.float .f64 x] w fun e w' => e = .returned (.float .f64 (Fl.tr x)) ∧ w = w' := by
  have h1 := run_trunc x h
  clear h
  go_enter Try.func39, Try.ntmps39
  go_wp2
  go_ret
  exact ⟨rfl, rfl⟩

/-! ### floats against 2^53 -/
theorem Fl.key_pos (r : Nat) (h : r < Fl.W) : Fl.key r = r := by
  have h1 : Fl.rg r = r := Nat.mod_eq_of_lt h
  have h2 : Fl.sg r = false := by unfold Fl.sg; rw [Nat.div_eq_of_lt h]; rfl
  unfold Fl.key; rw [h1, h2]; rfl
theorem Fl.ord_pos (a b : Nat) (ha : a ≤ Fl.I) (hb : b ≤ Fl.I) : FloatKind.f64.format.order a b = some (compare (a : Int) (b : Int)) := by
  have hI : Fl.I < Fl.W := by decide
  have := Fl.order_key a b (by rw [Fl.rg, Nat.mod_eq_of_lt (by omega)]; exact ha) (by rw [Fl.rg, Nat.mod_eq_of_lt (by omega)]; exact hb)
  rw [Fl.key_pos a (by omega), Fl.key_pos b (by omega)] at this
  exact this
theorem Fl.lo53 (x : Nat) (h : Fl.rg x ≤ Fl.I) : (FloatKind.f64.format.order x 14069245235905429504 == some .gt || FloatKind.f64.format.order x 14069245235905429504 == some .eq) = decide (Fl.sg x = false ∨ Fl.rg x ≤ Fl.c53) := by
  have e : FloatKind.f64.format.order x 14069245235905429504 = some (compare (Fl.key x) (Fl.key 14069245235905429504)) := Fl.order_key _ _ h (by decide)
  have k : Fl.key 14069245235905429504 = -4845873199050653696 := by decide
  rw [e, k, Fl.compare_int]
  unfold Fl.key Fl.c53
  cases Fl.sg x
  · simp only [Bool.false_eq_true, if_false]
    rw [if_neg (by omega), if_neg (by omega)]; simp
  · simp only [if_true]
    rcases Int.lt_trichotomy (-(Fl.rg x : Int)) (-4845873199050653696) with h1 | h1 | h1
    · rw [if_pos h1, decide_eq_false (by simp; omega)]; rfl
    · rw [if_neg (by omega), if_pos h1, decide_eq_true (by right; omega)]; rfl
    · rw [if_neg (by omega), if_neg (by omega), decide_eq_true (by right; omega)]; rfl
theorem Fl.hi53 (x : Nat) (h : Fl.rg x ≤ Fl.I) : (FloatKind.f64.format.order x 4845873199050653696 == some .lt || FloatKind.f64.format.order x 4845873199050653696 == some .eq) = decide (Fl.sg x = true ∨ Fl.rg x ≤ Fl.c53) := by
  have e : FloatKind.f64.format.order x 4845873199050653696 = some (compare (Fl.key x) (Fl.key 4845873199050653696)) := Fl.order_key _ _ h (by decide)
  have k : Fl.key 4845873199050653696 = 4845873199050653696 := by decide
  rw [e, k, Fl.compare_int]
  unfold Fl.key Fl.c53
  cases Fl.sg x
  · simp only [Bool.false_eq_true, if_false]
    rcases Int.lt_trichotomy (Fl.rg x : Int) 4845873199050653696 with h1 | h1 | h1
    · rw [if_pos h1, decide_eq_true (by right; omega)]; rfl
    · rw [if_neg (by omega), if_pos h1, decide_eq_true (by right; omega)]; rfl
    · rw [if_neg (by omega), if_neg (by omega), decide_eq_false (by simp; omega)]; rfl
  · simp only [if_true]
    rw [if_pos (by omega)]; simp
theorem Fl.abs53 (x : Nat) (h : Fl.rg x ≤ Fl.I) : FloatKind.f64.format.order (Fl.rg x) 4845873199050653696 = some (compare (Fl.rg x : Int) 4845873199050653696) := Fl.ord_pos _ _ h (by decide)

/-- Is it a whole number of a size up to 2^53? -/
noncomputable def Fl.isW (x : Nat) : Bool := decide (Fl.rg x ≤ Fl.c53 ∧ Fl.wh x * Fl.U = Fl.rv (Fl.rg x))
noncomputable def Fl.whI (x : Nat) : Int := if Fl.isW x then Fl.sgi (Fl.sg x) (Fl.wh x) else 0

theorem Fl.wh_eq (x : Nat) (h : Fl.rg x ≤ Fl.c53) (t : Bool) (ht : t = Fl.sg x ∨ Fl.wh x = 0) :
    FloatKind.f64.format.order x (Fl.rnd t (Fl.wh x * Fl.U)) = some .eq ∧ Fl.wh x * Fl.U = Fl.rv (Fl.rg x) ∨
    (∃ o, FloatKind.f64.format.order x (Fl.rnd t (Fl.wh x * Fl.U)) = some o ∧ o ≠ .eq) ∧ Fl.wh x * Fl.U ≠ Fl.rv (Fl.rg x) := by
  have hc := Fl.c53_lt
  obtain ⟨h1, h2⟩ := Fl.whole_rr (Fl.wh x) (Fl.wh_le x h)
  have e : FloatKind.f64.format.order x (Fl.rnd t (Fl.wh x * Fl.U)) = some (compare (Fl.key x) (Fl.key (Fl.rnd t (Fl.wh x * Fl.U)))) := Fl.order_key _ _ (by omega) (by rw [Fl.rg_rnd]; omega)
  have k : Fl.key (Fl.rnd t (Fl.wh x * Fl.U)) = if t then -(Fl.rr (Fl.wh x * Fl.U) : Int) else (Fl.rr (Fl.wh x * Fl.U) : Int) := by
    unfold Fl.key; rw [Fl.rg_rnd, Fl.sg_rnd]
  have hz : Fl.wh x = 0 → Fl.rr (Fl.wh x * Fl.U) = 0 := fun h => by rw [h, Nat.zero_mul, Fl.rr_zero]
  by_cases he : Fl.wh x * Fl.U = Fl.rv (Fl.rg x)
  · left
    refine ⟨?_, he⟩
    have hr : Fl.rr (Fl.wh x * Fl.U) = Fl.rg x := by rw [he]; exact Fl.rr_exact _ (by omega)
    rw [e, k, Fl.compare_int]
    unfold Fl.key
    rw [hr]
    rcases ht with rfl | ht
    · cases Fl.sg x <;> simp
    · have := hz ht; rw [hr] at this; rw [this]; cases Fl.sg x <;> cases t <;> simp
  · right
    refine ⟨⟨_, e, ?_⟩, he⟩
    have hr : Fl.rr (Fl.wh x * Fl.U) ≠ Fl.rg x := fun h3 => he (by rw [← h1, h3])
    rw [k, Fl.compare_int]
    unfold Fl.key
    generalize Fl.rr (Fl.wh x * Fl.U) = q at *
    rcases ht with rfl | ht
    · cases Fl.sg x
      · simp only [Bool.false_eq_true, if_false]; split; decide; rw [if_neg (by omega)]; decide
      · simp only [if_true]; split; decide; rw [if_neg (by omega)]; decide
    · have := hz ht; subst this
      cases Fl.sg x <;> cases t <;> simp only [Bool.false_eq_true, if_false, if_true] <;> (split; decide; rw [if_neg (by omega)]; decide)

theorem Fl.inInt (s : Bool) (k : Nat) (h : k ≤ 9007199254740992) : IntKind.i64.min ≤ Fl.sgi s k ∧ Fl.sgi s k ≤ IntKind.i64.max := by
  have h1 : IntKind.i64.min = -9223372036854775808 := rfl
  have h2 : IntKind.i64.max = 9223372036854775807 := rfl
  rw [h1, h2]
  unfold Fl.sgi
  split <;> omega
theorem run_int_trunc (src dst : TypeId) (hs : (Try.prog.underlying src).isSome = true) (hd : Try.prog.underlying dst = some (.int .i64)) (x : Nat) (h : Fl.rg x ≤ Fl.c53) (w : World) : (convert src dst (.float .f64 x)).run Try.prog w = .ok (.int .i64 (Fl.sgi (Fl.sg x) (Fl.wh x))) w := by
  refine run_convert_float_int w src dst .f64 .i64 x _ hs hd ?_
  unfold floatToIntVal
  rw [decode64, Fl.toInt_zero x (Nat.lt_of_le_of_lt h Fl.c53_lt)]
  dsimp only
  rw [if_pos (Fl.inInt _ _ (Fl.wh_le x h))]
/-- Of a whole number's word. -/
theorem run_int_whole (src dst : TypeId) (hs : (Try.prog.underlying src).isSome = true) (hd : Try.prog.underlying dst = some (.int .i64)) (s : Bool) (k : Nat) (h : k ≤ 9007199254740992) (w : World) : (convert src dst (.float .f64 (Fl.rnd s (k * Fl.U)))).run Try.prog w = .ok (.int .i64 (Fl.sgi s k)) w := by
  obtain ⟨h1, h2⟩ := Fl.whole_rr k h
  have hr := Fl.rg_rnd s (k * Fl.U)
  have hw : Fl.wh (Fl.rnd s (k * Fl.U)) = k := by
    unfold Fl.wh; rw [hr, h1]; exact Nat.mul_div_cancel _ Fl.U_pos
  have hc : Fl.rg (Fl.rnd s (k * Fl.U)) ≤ Fl.c53 := by
    rw [hr, ← Fl.rv_le_iff, h1, Fl.rv_c53]; exact Nat.mul_le_mul_right _ h
  have := run_int_trunc src dst hs hd _ hc w
  rw [hw, Fl.sg_rnd] at this
  exact this

theorem ret_W {n m : Int} {b c : Bool} (h1 : n = m) (h2 : b = c) : Ending.returned (.tuple #[.int .i64 n, .bool b]) = .returned (.tuple #[.int .i64 m, .bool c]) := by rw [h1, h2]
theorem isW_no (x : Nat) (h : ¬ (Fl.rg x ≤ Fl.c53 ∧ Fl.wh x * Fl.U = Fl.rv (Fl.rg x))) : Fl.isW x = false := decide_eq_false h
theorem isW_yes (x : Nat) (h : Fl.rg x ≤ Fl.c53 ∧ Fl.wh x * Fl.U = Fl.rv (Fl.rg x)) : Fl.isW x = true := decide_eq_true h

theorem abs_le53 (x : Nat) (hc : Fl.rg x ≤ Fl.c53) : FloatKind.f64.format.order (Fl.rg x) 4845873199050653696 = some .lt ∨ FloatKind.f64.format.order (Fl.rg x) 4845873199050653696 = some .eq := by
  have cl := Fl.c53_lt
  rw [Fl.abs53 x (by omega), Fl.compare_int]
  unfold Fl.c53 at hc
  by_cases h : (Fl.rg x : Int) < 4845873199050653696
  · left; rw [if_pos h]
  · right; rw [if_neg h, if_pos (by omega)]
theorem abs_gt53 (x : Nat) (hc : ¬ Fl.rg x ≤ Fl.c53) : FloatKind.f64.format.order (Fl.rg x) 4845873199050653696 = some .gt ∨ FloatKind.f64.format.order (Fl.rg x) 4845873199050653696 = none := by
  rcases Nat.lt_or_ge Fl.I (Fl.rg x) with h | h
  · right; exact Fl.cmp_nan _ _ (by rw [show Fl.rg (Fl.rg x) = Fl.rg x from Nat.mod_eq_of_lt (Fl.rg_lt x)]; exact h)
  · left
    rw [Fl.abs53 x h, Fl.compare_int]
    unfold Fl.c53 at hc
    rw [if_neg (by omega), if_neg (by omega)]

theorem whole_in (x : Nat) (w : World) (hx : x < 2 * Fl.W) (hf : Fl.rg x < Fl.I) (b : Bool) (n : Int)
    (hlt : FloatKind.f64.format.order (Fl.rg x) 4845873199050653696 = some .lt ∨ FloatKind.f64.format.order (Fl.rg x) 4845873199050653696 = some .eq)
    (hi : ∀ w, (convert 22 2 (.float .f64 x)).run Try.prog w = .ok (.int .i64 n) w)
    (ho : (FloatKind.f64.format.order x (Fl.tr x) == some .eq) = b) :
    Calls Try.prog 11 #[.float .f64 x] w fun e w' => e = .returned (.tuple #[.int .i64 (if b then n else 0), .bool b]) ∧ w = w' := by
  cases b
  all_goals
    rcases hlt with hlt | hlt
    all_goals
      go_enter Try.func11, Try.ntmps11
      go_wp2_with (first | (go_at_call 38; refine (abs_any _ _ hx).mono ?_; rintro e w' ⟨rfl, rfl⟩) | (go_at_call 39; refine (trunc_fin _ hf _).mono ?_; rintro e w' ⟨rfl, rfl⟩))
      go_ret2
      exact ⟨rfl, rfl⟩
theorem isW_dec (x : Nat) (hc : Fl.rg x ≤ Fl.c53) : (FloatKind.f64.format.order x (Fl.tr x) == some .eq) = Fl.isW x := by
  rcases Fl.wh_eq x hc (Fl.sg x) (.inl rfl) with ⟨ho, he⟩ | ⟨⟨o, ho, hne⟩, he⟩
  · rw [isW_yes x ⟨hc, he⟩, Fl.tr, ho]; rfl
  · rw [isW_no x (fun h => he h.2), Fl.tr, ho]
    cases o <;> first | rfl | exact absurd rfl hne
theorem whole_any (x : Nat) (w : World) (hx : x < 2 * Fl.W) : Calls Try.prog 11 #[.float .f64 x] w fun e w' => e = .returned (.tuple #[.int .i64 (Fl.whI x), .bool (Fl.isW x)]) ∧ w = w' := by
  have cl := Fl.c53_lt
  by_cases hc : Fl.rg x ≤ Fl.c53
  · exact whole_in x w hx (by omega) (Fl.isW x) _ (abs_le53 x hc) (run_int_trunc 22 2 (by kernel_rfl) (by kernel_rfl) x hc) (isW_dec x hc)
  · have hw := isW_no x (fun h => hc h.1)
    have hI : Fl.whI x = 0 := by unfold Fl.whI; rw [hw]; rfl
    rw [hw, hI]
    have ho := abs_gt53 x hc
    clear hc hw hI cl
    rcases ho with ho | ho
    all_goals
      go_enter Try.func11, Try.ntmps11
      go_wp2_with (first | (go_at_call 38; refine (abs_any _ _ hx).mono ?_; rintro e w' ⟨rfl, rfl⟩))
      go_ret2
      exact ⟨rfl, rfl⟩
end Go.Proofs.Ytgockebgcbmgoaa

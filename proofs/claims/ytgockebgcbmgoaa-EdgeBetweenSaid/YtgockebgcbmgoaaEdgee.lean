/-
  The walks of the reference's Whole, and of Nearest, of edge and of its reference.
-/
import Derived.Test.YtgockebgcbmgoaaEdged
set_option linter.unusedVariables false
set_option linter.unusedSimpArgs false
namespace Go.Proofs.Ytgockebgcbmgoaa
open Go.RowKit

theorem in53 (x : Nat) (h : Fl.rg x ≤ Fl.c53) : (FloatKind.f64.format.order x 14069245235905429504 = some .gt ∨ FloatKind.f64.format.order x 14069245235905429504 = some .eq) ∧ (FloatKind.f64.format.order x 4845873199050653696 = some .lt ∨ FloatKind.f64.format.order x 4845873199050653696 = some .eq) := by
  have cl := Fl.c53_lt
  have h1 := Fl.lo53 x (by omega)
  have h2 := Fl.hi53 x (by omega)
  rw [decide_eq_true (.inr h)] at h1 h2
  exact ⟨by simpa using h1, by simpa using h2⟩
theorem out53 (x : Nat) (h : ¬ Fl.rg x ≤ Fl.c53) : FloatKind.f64.format.order x 14069245235905429504 = none ∨ FloatKind.f64.format.order x 14069245235905429504 = some .lt ∨ (FloatKind.f64.format.order x 14069245235905429504 = some .gt ∧ FloatKind.f64.format.order x 4845873199050653696 = some .gt) := by
  rcases Nat.lt_or_ge Fl.I (Fl.rg x) with h0 | h0
  · exact .inl (Fl.cmp_nan _ _ h0)
  · right
    cases hs : Fl.sg x
    · right
      refine ⟨Fl.order_gt _ _ h0 (by decide) ?_, Fl.order_gt _ _ h0 (by decide) ?_⟩
      · rw [show Fl.key 14069245235905429504 = -4845873199050653696 by decide]; unfold Fl.key; rw [hs]; simp; omega
      · rw [show Fl.key 4845873199050653696 = 4845873199050653696 by decide]; unfold Fl.key; rw [hs]; unfold Fl.c53 at h; simp; omega
    · left
      refine Fl.order_lt _ _ h0 (by decide) ?_
      rw [show Fl.key 14069245235905429504 = -4845873199050653696 by decide]; unfold Fl.key; rw [hs]; unfold Fl.c53 at h; simp; omega

theorem ord_eq_symm (x y : Nat) : (FloatKind.f64.format.order x y == some .eq) = (FloatKind.f64.format.order y x == some .eq) := by
  rcases Nat.lt_or_ge Fl.I (Fl.rg x) with h | h
  · rw [show FloatKind.f64.format.order x y = none from Fl.order_nan _ _ (.inl h), show FloatKind.f64.format.order y x = none from Fl.order_nan _ _ (.inr h)]
  · rcases Nat.lt_or_ge Fl.I (Fl.rg y) with h2 | h2
    · rw [show FloatKind.f64.format.order x y = none from Fl.order_nan _ _ (.inr h2), show FloatKind.f64.format.order y x = none from Fl.order_nan _ _ (.inl h2)]
    · rw [show FloatKind.f64.format.order x y = _ from Fl.order_key _ _ h h2, show FloatKind.f64.format.order y x = _ from Fl.order_key _ _ h2 h, Fl.compare_int, Fl.compare_int]
      rcases Int.lt_trichotomy (Fl.key x) (Fl.key y) with h3 | h3 | h3
      · rw [if_pos h3, if_neg (by omega), if_neg (by omega)]; rfl
      · rw [h3]
      · rw [if_neg (by omega), if_neg (by omega), if_pos h3]; rfl

theorem rwhole_in (x : Nat) (w : World) (o1 : Ordering) (h1 : FloatKind.f64.format.order x 14069245235905429504 = some o1) (ho1 : o1 = .gt ∨ o1 = .eq) (o2 : Ordering) (h2 : FloatKind.f64.format.order x 4845873199050653696 = some o2) (ho2 : o2 = .lt ∨ o2 = .eq) (n : Int)
    (hi : ∀ w, (convert 22 2 (.float .f64 x)).run Try.prog w = .ok (.int .i64 n) w) (o : Option Ordering)
    (ho : FloatKind.f64.format.order (floatOfInt .f64 n) x = o) :
    Calls Try.prog 12 #[.float .f64 x] w fun e w' => e = .returned (.tuple #[.int .i64 (if (o == some .eq) then n else 0), .bool (o == some .eq)]) ∧ w = w' := by
  rcases ho1 with rfl | rfl <;> rcases ho2 with rfl | rfl <;> rcases o with _ | o
  any_goals cases o
  all_goals
    go_enter Try.func12, Try.ntmps12
    go_wp2
    go_ret2
    exact ⟨rfl, rfl⟩
theorem fi_dec (x : Nat) (hc : Fl.rg x ≤ Fl.c53) : (FloatKind.f64.format.order (floatOfInt .f64 (Fl.sgi (Fl.sg x) (Fl.wh x))) x == some .eq) = Fl.isW x := by
  rw [ord_eq_symm, Fl.ofInt_sgi]
  have ht : (Fl.sg x && decide (0 < Fl.wh x)) = Fl.sg x ∨ Fl.wh x = 0 := by
    by_cases h : 0 < Fl.wh x
    · left; rw [decide_eq_true h, Bool.and_true]
    · right; omega
  rcases Fl.wh_eq x hc _ ht with ⟨ho, he⟩ | ⟨⟨o, ho, hne⟩, he⟩
  · rw [isW_yes x ⟨hc, he⟩, ho]; rfl
  · rw [isW_no x (fun h => he h.2), ho]
    cases o <;> first | rfl | exact absurd rfl hne
theorem rwhole_any (x : Nat) (w : World) (hx : x < 2 * Fl.W) : Calls Try.prog 12 #[.float .f64 x] w fun e w' => e = .returned (.tuple #[.int .i64 (Fl.whI x), .bool (Fl.isW x)]) ∧ w = w' := by
  by_cases hc : Fl.rg x ≤ Fl.c53
  · obtain ⟨h1, h2⟩ := in53 x hc
    have hi := run_int_trunc 22 2 (by kernel_rfl) (by kernel_rfl) x hc
    have hd := fi_dec x hc
    unfold Fl.whI
    rw [← hd]
    obtain ⟨o1, e1, f1⟩ : ∃ o1, FloatKind.f64.format.order x 14069245235905429504 = some o1 ∧ (o1 = .gt ∨ o1 = .eq) := by
      rcases h1 with h | h
      · exact ⟨_, h, .inl rfl⟩
      · exact ⟨_, h, .inr rfl⟩
    obtain ⟨o2, e2, f2⟩ : ∃ o2, FloatKind.f64.format.order x 4845873199050653696 = some o2 ∧ (o2 = .lt ∨ o2 = .eq) := by
      rcases h2 with h | h
      · exact ⟨_, h, .inl rfl⟩
      · exact ⟨_, h, .inr rfl⟩
    exact rwhole_in x w o1 e1 f1 o2 e2 f2 _ hi _ rfl
  · have hw := isW_no x (fun h => hc h.1)
    have hI : Fl.whI x = 0 := by unfold Fl.whI; rw [hw]; rfl
    rw [hw, hI]
    have ho := out53 x hc
    clear hc hw hI
    rcases ho with ho | ho | ⟨ho, ho2⟩
    all_goals
      go_enter Try.func12, Try.ntmps12
      go_wp2
      go_ret2
      exact ⟨rfl, rfl⟩

/-! ### Nearest -/
/-- What Nearest tells: the whole number, how far it is, the error. -/
def Fl.nearN (x : Nat) : Int := if Fl.rg x ≤ Fl.c53 then Fl.sgi (Fl.sg x) (Fl.nk x) else 0
noncomputable def Fl.nearD (x : Nat) : Nat := if Fl.rg x ≤ Fl.c53 then Fl.rr (Fl.dist (Fl.rv (Fl.rg x)) (Fl.nk x)) else 0
def Fl.nearE (x : Nat) : Int := if Fl.rg x ≤ Fl.c53 then 0 else if Fl.rg x < Fl.I then 6 else 5
def NPost (x : Nat) (w : World) (e : Ending) (w' : World) : Prop := e = .returned (.tuple #[.int .i64 (Fl.nearN x), .float .f64 (Fl.nearD x), .int .i64 (Fl.nearE x)]) ∧ Dr w w'

theorem near_in (x : Nat) (w : World) (hx : x < 2 * Fl.W) (hf : Fl.rg x < Fl.I) (s : Nat) (hs : s < 2 * Fl.W)
    (o1 : Ordering) (h1 : FloatKind.f64.format.order (Fl.rg x) 4845873199050653696 = some o1) (ho1 : o1 = .lt ∨ o1 = .eq) (n : Int)
    (hi : ∀ w, (convert 22 2 (.float .f64 (Fl.rte x))).run Try.prog w = .ok (.int .i64 n) w)
    (hsub : ∀ w, (binOp .sub 22 (.float .f64 x) (.float .f64 (Fl.rte x))).run Try.prog w = .ok (.float .f64 s) w) :
    Calls Try.prog 13 #[.float .f64 x] w fun e w' => e = .returned (.tuple #[.int .i64 n, .float .f64 (Fl.rg s), .int .i64 0]) ∧ w = w' := by
  have he := run_even x hf
  rcases ho1 with rfl | rfl
  all_goals
    go_enter Try.func13, Try.ntmps13
    go_wp2_with fail
    refine (finite_yes x _ hx hf).mono ?_
    rintro e w' ⟨rfl, rfl⟩
    go_wp2_with fail
    refine (abs_any _ _ hx).mono ?_
    rintro e w' ⟨rfl, rfl⟩
    go_wp2_with fail
    refine (abs_any _ _ hs).mono ?_
    rintro e w' ⟨rfl, rfl⟩
    go_wp2
    go_ret3
    exact ⟨rfl, rfl⟩
theorem near_any (x : Nat) (w : World) (hx : x < 2 * Fl.W) : Calls Try.prog 13 #[.float .f64 x] w (NPost x w) := by
  have cl := Fl.c53_lt
  by_cases hc : Fl.rg x ≤ Fl.c53
  · obtain ⟨t, ht⟩ := Fl.sub_whole x hx (by omega) (Fl.sg x) (Fl.nk x) (Fl.nk_le x hc) (.inl rfl)
    have hi := run_int_whole 22 2 (by kernel_rfl) (by kernel_rfl) (Fl.sg x) (Fl.nk x) (Fl.nk_le x hc)
    have hsub := fun w => run_float_arith (P := Try.prog) w .sub 22 .f64 x (Fl.rte x) _ ht
    obtain ⟨o1, e1, f1⟩ : ∃ o1, FloatKind.f64.format.order (Fl.rg x) 4845873199050653696 = some o1 ∧ (o1 = .lt ∨ o1 = .eq) := by
      rcases abs_le53 x hc with h | h
      · exact ⟨_, h, .inl rfl⟩
      · exact ⟨_, h, .inr rfl⟩
    refine (near_in x w hx (by omega) _ (Fl.rnd_lt _ _) o1 e1 f1 _ hi hsub).mono ?_
    rintro e w' ⟨rfl, rfl⟩
    refine ⟨?_, Dr.refl _⟩
    unfold Fl.nearN Fl.nearD Fl.nearE
    rw [if_pos hc, if_pos hc, if_pos hc, Fl.rg_rnd]
  · by_cases hf : Fl.rg x < Fl.I
    · have ho : FloatKind.f64.format.order (Fl.rg x) 4845873199050653696 = some .gt := by
        rcases abs_gt53 x hc with h | h
        · exact h
        · rw [Fl.abs53 x (by omega)] at h; cases h
      have hN : Hid (NPost x w (.returned (.tuple #[.int .i64 0, .float .f64 0, .int .i64 6])) w) := by
        refine ⟨?_, Dr.refl _⟩
        unfold Fl.nearN Fl.nearD Fl.nearE
        rw [if_neg hc, if_neg hc, if_neg hc, if_pos hf]
      clear hc cl
      go_enter Try.func13, Try.ntmps13
      go_wp2_with fail
      refine (finite_yes x _ hx hf).mono ?_
      rintro e w' ⟨rfl, rfl⟩
      go_wp2_with fail
      refine (abs_any _ _ hx).mono ?_
      rintro e w' ⟨rfl, rfl⟩
      go_wp2
      go_ret3
      exact hN.out
    · have hN : Hid (∀ w', Dr w w' → NPost x w (.returned (.tuple #[.int .i64 0, .float .f64 0, .int .i64 5])) w') := by
        intro w' hd
        refine ⟨?_, hd⟩
        unfold Fl.nearN Fl.nearD Fl.nearE
        rw [if_neg hc, if_neg hc, if_neg hc, if_neg hf]
      clear hc cl
      go_enter Try.func13, Try.ntmps13
      go_wp2_with fail
      refine (finite_no x _ hf).mono ?_
      rintro e w' ⟨rfl, hd⟩
      have HD := Lib.hid hd
      clear hd hf
      go_wp2
      go_ret3
      exact hN.out _ HD.out
end Go.Proofs.Ytgockebgcbmgoaa

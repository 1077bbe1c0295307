/-
  The walk of EdgeNear: it answers true.
-/
import Derived.Test.YtgockebgcbmgoaaNearw
set_option linter.unusedVariables false
set_option linter.unusedSimpArgs false
namespace Go.Proofs.Ytgockebgcbmgoaa
open Go.RowKit

def GPost (w : World) (e : Ending) (w' : World) : Prop := e = .returned (.bool true) ∧ Dr w w'
theorem near_parts (x : Nat) (w : World) (hx : x < 2 * Fl.W) (n : Int) (d : Nat) (c : Int) (h1 : Fl.nearN x = n) (h2 : Fl.nearD x = d) (h3 : Fl.nearE x = c) :
    Calls Try.prog 13 #[.float .f64 x] w fun e w' => e = .returned (.tuple #[.int .i64 n, .float .f64 d, .int .i64 c]) ∧ Dr w w' := by
  subst h1; subst h2; subst h3
  exact near_any x w hx

theorem near_nan (x : Nat) (up : Bool) (w : World) (hx : x < 2 * Fl.W) (h : Fl.I < Fl.rg x) : Calls Try.prog 4 #[.float .f64 x, .bool up] w (GPost w) := by
  have hc := Fl.c53_lt
  have o1 := Fl.cmp_nan x x h
  have o2 : FloatKind.f64.format.order 0 0 = some .eq := by decide
  have hn : Fl.next x up = x := by unfold Fl.next; rw [if_pos h]
  have HN := Lib.hid hn
  have HP := Lib.hid (fun w => near_parts x w hx 0 0 5 (by unfold Fl.nearN; rw [if_neg (by omega)]) (by unfold Fl.nearD; rw [if_neg (by omega)]) (by unfold Fl.nearE; rw [if_neg (by omega), if_neg (by omega)]))
  clear hn h hc
  go_enter Try.func4, Try.ntmps4
  go_wp2_with fail
  refine (awake_any _).mono ?_
  rintro e w1 ⟨rfl, hd⟩
  have D1 := Lib.hid hd
  clear hd
  go_wp2_with fail
  refine (next_any x up _ hx).mono ?_
  rw [HN.out]
  rintro e w' ⟨rfl, rfl⟩
  go_wp2_with fail
  refine (HP.out _).mono ?_
  rintro e w2 ⟨rfl, hd⟩
  have D2 := Lib.hid hd
  clear hd
  go_wp2
  go_ret
  exact ⟨rfl, D1.out.trans D2.out⟩

theorem near_stay (x : Nat) (up : Bool) (w : World) (hx : x < 2 * Fl.W) (h : Fl.rg x = Fl.I ∧ up = !Fl.sg x) : Calls Try.prog 4 #[.float .f64 x, .bool up] w (GPost w) := by
  have hc := Fl.c53_lt
  have o1 := Fl.cmp_self x (Nat.le_of_eq h.1)
  have o2 : FloatKind.f64.format.order 0 0 = some .eq := by decide
  have hn : Fl.next x up = x := by unfold Fl.next; rw [if_neg (by omega), if_pos h]
  have hnf : ¬ Fl.rg x < Fl.I := by omega
  have HN := Lib.hid hn
  have HP := Lib.hid (fun w => near_parts x w hx 0 0 5 (by unfold Fl.nearN; rw [if_neg (by omega)]) (by unfold Fl.nearD; rw [if_neg (by omega)]) (by unfold Fl.nearE; rw [if_neg (by omega), if_neg (by omega)]))
  have hx2 : ¬ Fl.rg x ≤ Fl.c53 := by omega
  have ho := out53 x hx2
  have ho1 : FloatKind.f64.format.order x 4845873199050653696 = some .gt ∨ (∃ o, FloatKind.f64.format.order x 4845873199050653696 = some o ∧ o ≠ .gt ∧ FloatKind.f64.format.order x 14069245235905429504 = some .lt) := by
    have hr : Fl.rg x ≤ Fl.I := by omega
    rcases ho with ho | ho | ho
    · exfalso; rw [show FloatKind.f64.format.order x 14069245235905429504 = _ from Fl.order_key _ _ hr (by decide)] at ho; cases ho
    · by_cases hg : FloatKind.f64.format.order x 4845873199050653696 = some .gt
      · exact .inl hg
      · refine .inr ⟨_, Fl.order_key x 4845873199050653696 hr (by decide), fun he => hg ?_, ho⟩
        rw [← he]; exact Fl.order_key x 4845873199050653696 hr (by decide)
    · exact .inl ho.2
  clear hn h hc hx2 ho
  rcases ho1 with o3 | ⟨o, o3, hne, o4⟩
  · cases up
    all_goals
      go_enter Try.func4, Try.ntmps4
      go_wp2_with fail
      refine (awake_any _).mono ?_
      rintro e w1 ⟨rfl, hd⟩
      have D1 := Lib.hid hd
      clear hd
      go_wp2_with fail
      refine (next_any x _ _ hx).mono ?_
      rw [HN.out]
      rintro e w' ⟨rfl, rfl⟩
      go_wp2_with fail
      refine (HP.out _).mono ?_
      rintro e w2 ⟨rfl, hd⟩
      have D2 := Lib.hid hd
      clear hd
      go_wp2_with fail
      refine (kfinite_no x _ hnf).mono ?_
      rintro e w3 ⟨rfl, hd⟩
      have D3 := Lib.hid hd
      clear hd
      go_wp2
      go_ret
      exact ⟨rfl, (D1.out.trans D2.out).trans D3.out⟩
  · cases o
    case gt => exact absurd rfl hne
    all_goals
      clear hne
      cases up
      all_goals
        go_enter Try.func4, Try.ntmps4
        go_wp2_with fail
        refine (awake_any _).mono ?_
        rintro e w1 ⟨rfl, hd⟩
        have D1 := Lib.hid hd
        clear hd
        go_wp2_with fail
        refine (next_any x _ _ hx).mono ?_
        rw [HN.out]
        rintro e w' ⟨rfl, rfl⟩
        go_wp2_with fail
        refine (HP.out _).mono ?_
        rintro e w2 ⟨rfl, hd⟩
        have D2 := Lib.hid hd
        clear hd
        go_wp2_with fail
        refine (kfinite_no x _ hnf).mono ?_
        rintro e w3 ⟨rfl, hd⟩
        have D3 := Lib.hid hd
        clear hd
        go_wp2
        go_ret
        exact ⟨rfl, (D1.out.trans D2.out).trans D3.out⟩

set_option maxHeartbeats 2000000 in
set_option maxRecDepth 100000 in
theorem near_over (x : Nat) (up : Bool) (w : World) (hx : x < 2 * Fl.W) (hr : Fl.rg x ≤ Fl.I) (hs : ¬ (Fl.rg x = Fl.I ∧ up = !Fl.sg x)) (hc : ¬ Fl.rg x ≤ Fl.c53) : Calls Try.prog 4 #[.float .f64 x, .bool up] w (GPost w) := by
  have o1 := Fl.cmp_self x hr
  have o2 : FloatKind.f64.format.order 0 0 = some .eq := by decide
  obtain ⟨o5, hl⟩ := Fl.step_back x up hx hr hs
  have hnl := Fl.next_lt x up hx
  obtain ⟨c, hce, hcn⟩ : ∃ c, Fl.nearE x = c ∧ (c != 0) = true := by
    refine ⟨_, rfl, ?_⟩
    unfold Fl.nearE; rw [if_neg hc]; split <;> rfl
  have HP := Lib.hid (fun w => near_parts x w hx 0 0 c (by unfold Fl.nearN; rw [if_neg (by omega)]) (by unfold Fl.nearD; rw [if_neg (by omega)]) hce)
  have ho := out53 x hc
  have ho1 : FloatKind.f64.format.order x 4845873199050653696 = some .gt ∨ (∃ o, FloatKind.f64.format.order x 4845873199050653696 = some o ∧ o ≠ .gt ∧ FloatKind.f64.format.order x 14069245235905429504 = some .lt) := by
    rcases ho with ho | ho | ho
    · exfalso; rw [show FloatKind.f64.format.order x 14069245235905429504 = _ from Fl.order_key _ _ hr (by decide)] at ho; cases ho
    · by_cases hg : FloatKind.f64.format.order x 4845873199050653696 = some .gt
      · exact .inl hg
      · refine .inr ⟨_, Fl.order_key x 4845873199050653696 hr (by decide), fun he => hg ?_, ho⟩
        rw [← he]; exact Fl.order_key x 4845873199050653696 hr (by decide)
    · exact .inl ho.2
  have HL := Lib.hid hl
  clear hr hs hc ho hce hl
  rcases ho1 with o3 | ⟨o, o3, hne, o4⟩
  · cases up
    all_goals
      simp only [Bool.false_eq_true, if_false, if_true] at o5
      go_enter Try.func4, Try.ntmps4
      go_wp2_with fail
      refine (awake_any _).mono ?_
      rintro e w1 ⟨rfl, hd⟩
      have D1 := Lib.hid hd
      clear hd
      go_wp2_with fail
      refine (next_any x _ _ hx).mono ?_
      rintro e w' ⟨rfl, rfl⟩
      go_wp2_with fail
      refine (HP.out _).mono ?_
      rintro e w2 ⟨rfl, hd⟩
      have D2 := Lib.hid hd
      clear hd
      go_wp2_with fail
      refine (next_any _ _ _ hnl).mono ?_
      rintro e w' ⟨rfl, rfl⟩
      go_wp2_with fail
      refine (like_yes _ _ _ HL.out).mono ?_
      rintro e w' ⟨rfl, rfl⟩
      go_wp2
      go_ret
      exact ⟨rfl, D1.out.trans D2.out⟩
  · cases o
    case gt => exact absurd rfl hne
    all_goals
      clear hne
      cases up
      all_goals
        simp only [Bool.false_eq_true, if_false, if_true] at o5
        go_enter Try.func4, Try.ntmps4
        go_wp2_with fail
        refine (awake_any _).mono ?_
        rintro e w1 ⟨rfl, hd⟩
        have D1 := Lib.hid hd
        clear hd
        go_wp2_with fail
        refine (next_any x _ _ hx).mono ?_
        rintro e w' ⟨rfl, rfl⟩
        go_wp2_with fail
        refine (HP.out _).mono ?_
        rintro e w2 ⟨rfl, hd⟩
        have D2 := Lib.hid hd
        clear hd
        go_wp2_with fail
        refine (next_any _ _ _ hnl).mono ?_
        rintro e w' ⟨rfl, rfl⟩
        go_wp2_with fail
        refine (like_yes _ _ _ HL.out).mono ?_
        rintro e w' ⟨rfl, rfl⟩
        go_wp2
        go_ret
        exact ⟨rfl, D1.out.trans D2.out⟩
end Go.Proofs.Ytgockebgcbmgoaa

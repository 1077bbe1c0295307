/-
  The walk of edge's Sqrt.
-/
import Derived.Test.YtgockebgcbmgoaaDiv
import Derived.Test.YtgockebgcbmgoaaRoot
set_option linter.unusedVariables false
set_option linter.unusedSimpArgs false
namespace Go.Proofs.Ytgockebgcbmgoaa
open Go.RowKit

/-- The root of a finite float above 0, to a side. -/
def Fl.sqrtF (a : Nat) (up : Bool) : Nat := Fl.sideW (Fl.nearR a) (Fl.cmpR (Fl.sM a) (Fl.pR a) (Fl.rg (Fl.nearR a))) (Fl.next (Fl.nearR a) up) up
/-- What Sqrt tells. -/
def Fl.sqrtS (a : Nat) (up : Bool) : Option Nat := if Fl.rg a < Fl.I ∧ 0 < Fl.rg a ∧ Fl.sg a = false then some (Fl.sqrtF a up) else Ieee.double.sqrt a

theorem run_sqrt_any (x : Nat) (w : World) : ∃ s w1, (callFunc 66 #[.float .f64 x]).run Try.prog w = .ok (.value (.float .f64 s)) w1 ∧ Fl.Is (Ieee.double.sqrt x) s ∧ (w1 = w ∨ w1 = w.drew) := by
  have hx : Extern.MathSqrt.sqrt #[.float .f64 x] = (match FloatKind.f64.format.sqrt x with | some r => pure (.float .f64 r) | none => do pure (.float .f64 (← choose (.nanBits .f64 x x)))) := rfl
  rw [run_callFunc_extern (e := Extern.MathSqrt.sqrt) Try.func66 (by kernel_rfl) (by kernel_rfl) (by kernel_rfl) (by kernel_rfl), hx]
  cases h : FloatKind.f64.format.sqrt x with
  | some r =>
    have h' : Ieee.double.sqrt x = some r := h
    exact ⟨r, w, rfl, by rw [h']; rfl, .inl rfl⟩
  | none =>
    have h' : Ieee.double.sqrt x = none := h
    refine ⟨_, w.drew, ?_, by rw [h']; exact Fl.nan_draw (w.tape w.drawn (.nanBits .f64 x x)), .inr rfl⟩
    simp [Question.forced, Question.cut, Result.andThen]
theorem msqrt_any (x : Nat) (w : World) : Calls Try.prog 54 #[.float .f64 x] w (FlPost (Ieee.double.sqrt x) w) := by
  obtain ⟨s, w1, hr, hs, hw1⟩ := run_sqrt_any x w
  have HD : Hid (Dr w w1) := by rcases hw1 with rfl | rfl; exact Dr.refl _; exact Dr.drew _
  have HS : Hid (Fl.Is (Ieee.double.sqrt x) s) := hs
  clear hs hw1
  go_enter Try.func54, Try.ntmps54
  go_wp2
  go_ret
  exact ⟨s, rfl, HS.out, HD.out⟩

theorem nearR_lt (a : Nat) : Fl.nearR a < 2 * Fl.W := by
  obtain ⟨r, h, _⟩ := Fl.nearest_word false (Fl.sM a) (Fl.pR a)
  unfold Fl.nearR; rw [h]; exact Fl.wd_lt _ _ (Fl.min_I_lt r)

/-- What is below 2^1024, in a wide range, is nearest to a float below infinity. -/
theorem Fl.mid_fin (s : Bool) (mag : Nat) (p : Int) (k : Nat) (h0 : mag ≠ 0) (h : mag < 2 ^ k) (hp : p + k ≤ 1000) (hp2 : -1074 ≤ p) : Fl.rg (Ieee.double.nearest s mag p) < Fl.I ∧ 0 < Fl.rg (Ieee.double.nearest s mag p) := by
  rw [Fl.nearest_units s mag p hp2, Fl.rg_rnd]
  have hpos : 0 < mag * 2 ^ (p + 1074).toNat := Nat.mul_pos (Nat.pos_of_ne_zero h0) (Nat.two_pow_pos _)
  refine ⟨?_, Fl.rr_pos _ hpos⟩
  obtain ⟨q, q1, q2⟩ := Fl.rnd_spec false (mag * 2 ^ (p + 1074).toNat)
  have hrr : Fl.rr (mag * 2 ^ (p + 1074).toNat) = min q Fl.I := q1
  have hE := Fl.E_eq
  have hr := Fl.rv_of (Fl.E + 948) Fl.B (by unfold Fl.B; omega) (.inr (Nat.le_refl _))
  have hc : (Fl.E + 948) * Fl.B + Fl.B = 2023 * Fl.B := by rw [hE, ← Nat.succ_mul]
  rw [hc] at hr
  have hq : q ≤ 2023 * Fl.B := by
    have hex := Fl.Rnd.exact (2023 * Fl.B) 0
    refine q2.mono hex ?_
    rw [hr, Nat.pow_zero, Nat.mul_one, Nat.mul_one, Nat.mul_one]
    have h1 : mag * 2 ^ (p + 1074).toNat ≤ 2 ^ k * 2 ^ (p + 1074).toNat := Nat.mul_le_mul_right _ (Nat.le_of_lt h)
    refine Nat.le_trans h1 ?_
    rw [Fl.B_eq, ← Nat.pow_add, ← Nat.pow_add]
    refine Fl.pow_le ?_
    generalize Fl.E = e at *
    clear hc hr hex q1 q2 hrr
    omega
  rw [hrr]
  exact Nat.lt_of_le_of_lt (Nat.min_le_left _ _) (Nat.lt_of_le_of_lt hq (by decide))

/-- The scaled operand: the fraction, or half of it. -/
theorem Fl.sqrt_arg (a x : Nat) (a0 : 0 < Fl.rg a) (hx : x = (1020 + Fl.par a) * Fl.B + Fl.nM (Fl.rg a)) : x < Fl.I ∧ Fl.rg x = x ∧ Fl.sg x = false ∧ 0 < Fl.rg x ∧ Fl.mant x = Fl.nM (Fl.rg a) ∧ Fl.ex x = 1020 + Fl.par a ∧ Fl.nM (Fl.rg x) = Fl.nM (Fl.rg a) ∧ Fl.nE (Fl.rg x) = 1020 + Fl.par a := by
  obtain ⟨m1, m2⟩ := Fl.nM_range (Fl.rg a) a0
  have hpar := Fl.par_le a
  have hBp : 0 < Fl.B := by decide
  have hp45 : 1020 + Fl.par a ≤ 2045 := by clear hx m1 m2; omega
  have xI : x < Fl.I := by rw [hx]; exact Fl.rung_lt _ _ hp45 m2
  have xW : x < Fl.W := Nat.lt_trans xI Fl.I_lt_W
  have hxr : Fl.rg x = x := Nat.mod_eq_of_lt xW
  have hxs : Fl.sg x = false := by unfold Fl.sg; rw [Nat.div_eq_of_lt xW]; rfl
  have x0 : 0 < Fl.rg x := by rw [hxr, hx]; exact Nat.lt_of_lt_of_le (Nat.lt_of_lt_of_le hBp m1) (Nat.le_add_left _ _)
  have hmx : Fl.mant x = Fl.nM (Fl.rg a) := by rw [hx]; exact Fl.mant_of _ _ m2 (.inr m1)
  have hex : Fl.ex x = 1020 + Fl.par a := by rw [hx]; exact Fl.ex_of _ _ m2 (.inr m1)
  have hnB : ¬ Fl.rg x < Fl.B := by
    rw [hxr, hx]
    exact Nat.not_lt.2 (Nat.le_trans m1 (Nat.le_add_left _ _))
  have hnM : Fl.nM (Fl.rg x) = Fl.nM (Fl.rg a) := by
    have : Fl.nM (Fl.rg x) = Fl.mant (Fl.rg x) := by
      conv => lhs; unfold Fl.nM
      rw [if_neg hnB]
    rw [this, hxr, hmx]
  have hnE : Fl.nE (Fl.rg x) = 1020 + Fl.par a := by unfold Fl.nE; rw [if_neg hnB, hxr, hex]; rfl
  exact ⟨xI, hxr, hxs, x0, hmx, hex, hnM, hnE⟩
theorem Fl.cmpS_false (c : Ordering) : Fl.cmpS false c = c := rfl
/-- The scaled root and its error. -/
theorem Fl.sqrt_scaled (a x : Nat) (a0 : 0 < Fl.rg a) (hx : x = (1020 + Fl.par a) * Fl.B + Fl.nM (Fl.rg a)) : ∃ q off, Ieee.double.sqrt x = some q ∧ q = Ieee.double.nearest false (Fl.sM a) (-56) ∧ q < 2 * Fl.W ∧ Fl.rg q < Fl.I ∧ 0 < Fl.rg q ∧ Ieee.double.fma (Fl.ng q) q x = some off ∧ FloatKind.f64.format.order off 0 = some (Fl.cmpR (Fl.sM a) (-56) (Fl.rg q)) := by
  obtain ⟨xI, hxr, hxs, x0, hmx, hex, hnM, hnE⟩ := Fl.sqrt_arg a x a0 hx
  clear hx
  have hpar := Fl.par_le a
  have hpx : Fl.par x = Fl.par a := by
    have : Fl.par x = (Fl.nE (Fl.rg x) % 2).toNat := rfl
    rw [this, hnE]; omega
  have hsM : Fl.sM x = Fl.sM a := by unfold Fl.sM Fl.sN; rw [hnM, hpx]
  have hpR : Fl.pR x = -56 := by unfold Fl.pR; rw [hnE, hpx]; omega
  have hsq : Ieee.double.sqrt x = some (Ieee.double.nearest false (Fl.sM a) (-56)) := by
    rw [Fl.sqrt_near x (by rw [hxr]; exact xI) x0 hxs]; unfold Fl.nearR; rw [hsM, hpR]
  obtain ⟨g0, g1, g2⟩ := Fl.sM_range a a0
  obtain ⟨q1, q2, q3⟩ := Fl.small_fin false (Fl.sM a) (-56) 56 g0 g1 (by decide) (by decide)
  obtain ⟨K, hK⟩ : ∃ K : Nat, K = 1018 := ⟨_, rfl⟩
  have hK2 : ((K : Nat) : Int) - ((0 : Nat) : Int) = -56 + 1074 := by omega
  obtain ⟨rr, w1, w2⟩ := Fl.nearest_rnd false (Fl.sM a) (-56) K 0 hK2
  have hql : Ieee.double.nearest false (Fl.sM a) (-56) < 2 * Fl.W := by
    rw [Fl.nearest_units _ _ _ (by decide)]; exact Fl.rnd_lt _ _
  have hrg : Fl.rg (Ieee.double.nearest false (Fl.sM a) (-56)) = min rr Fl.I := by rw [w1, Fl.rg_wd _ _ (Fl.min_I_lt rr)]
  obtain ⟨_, hrr⟩ := Fl.of_min hrg q1
  rw [← hrr] at w2
  generalize hQ : Ieee.double.nearest false (Fl.sM a) (-56) = r at *
  have hl := Fl.near_lead (Fl.sM a) (Fl.rg r) K 0 (-56) g0 hK2 w2 q2
  rw [g2] at hl
  clear w2 w1 hrr hrg g1 hsq
  have hsq : Ieee.double.sqrt x = some r := by
    rw [Fl.sqrt_near x (by rw [hxr]; exact xI) x0 hxs]; unfold Fl.nearR; rw [hsM, hpR, hQ]
  have hBr : ¬ Fl.rg r < Fl.B := by
    intro h
    have : Fl.nE (Fl.rg r) ≤ 0 := by unfold Fl.nE; rw [if_pos h]; omega
    omega
  have hexr : ((Fl.ex (Fl.rg r) : Nat) : Int) = Fl.nE (Fl.rg r) := by unfold Fl.nE; rw [if_neg hBr]
  obtain ⟨e, he⟩ : ∃ e, Fl.ex (Fl.rg r) = e + 1020 := ⟨Fl.ex (Fl.rg r) - 1020, by omega⟩
  have p1 : Fl.pl (Fl.ng r) = (e : Int) - 54 := by unfold Fl.pl; rw [Fl.rg_ng r hql, he]; omega
  have p2 : Fl.pl r = (e : Int) - 54 := by unfold Fl.pl; rw [he]; omega
  have hfma := Fl.fma_fin (Fl.ng r) r x (by rw [Fl.rg_ng r hql]; exact q1) q1 (by rw [hxr]; exact xI) (by rw [p1, p2]; omega)
  refine ⟨r, _, hsq, rfl, hql, q1, q2, hfma, ?_⟩
  rw [Fl.ord0 _ (by rw [Fl.rg_rnd]; exact (Fl.rnd_rr false _).2), Fl.key_rnd]
  refine congrArg some ?_
  obtain ⟨J, hJ⟩ : ∃ J : Nat, J = 964 := ⟨_, rfl⟩
  have hcmp := Fl.root_cmp a (Fl.rg r) e J hJ (by rw [he]; omega)
  rw [← hcmp]
  unfold Fl.fmaT
  rw [Fl.rg_ng r hql, p1, p2, Fl.sg_ng r hql, q3]
  have hva : Fl.vl x = (if false then -((Fl.nM (Fl.rg a) * 2 ^ (J + 56 + Fl.par a) : Nat) : Int) else ((Fl.nM (Fl.rg a) * 2 ^ (J + 56 + Fl.par a) : Nat) : Int)) := by
    unfold Fl.vl Fl.rv; rw [hxs, hxr, hmx, hex, show 1020 + Fl.par a = J + 56 + Fl.par a by omega]
  rw [hva, show ((e : Int) - 54 + ((e : Int) - 54) + 1074).toNat = 2 * e + (J + 2) by omega]
  have := Fl.cmp_signed2 false (Fl.mant (Fl.rg r) * Fl.mant (Fl.rg r) * 2 ^ (2 * e + (J + 2))) (Fl.nM (Fl.rg a) * 2 ^ (J + 56 + Fl.par a))
  rw [show (!false ^^ false) = !false from rfl]
  rw [Fl.cmpS_false] at this
  exact this

theorem sqrt_not (a : Nat) (up : Bool) (w : World) (ha : a < 2 * Fl.W) (h : ¬ (Fl.rg a < Fl.I ∧ 0 < Fl.rg a ∧ Fl.sg a = false)) :
    Calls Try.prog 28 #[.float .f64 a, .bool up] w (FlPost (Ieee.double.sqrt a) w) := by
  by_cases hf : Fl.rg a < Fl.I
  · have ho : FloatKind.f64.format.order a 0 = some .lt ∨ FloatKind.f64.format.order a 0 = some .eq := by
      by_cases h0 : Fl.rg a = 0
      · exact .inr (Fl.cmp0_eq a h0)
      · left
        refine Fl.cmp0_lt a (by omega) (by omega) ?_
        cases hs : Fl.sg a
        · exact absurd ⟨hf, by omega, hs⟩ h
        · rfl
    clear h
    rcases ho with ho | ho
    all_goals
      go_enter Try.func28, Try.ntmps28
      go_wp2_with fail
      refine (msqrt_any a _).mono ?_
      rintro e w1 ⟨s, rfl, hs, hd⟩
      have HS := Lib.hid hs
      have HD := Lib.hid hd
      clear hs hd
      go_wp2_with fail
      refine (finite_yes a _ ha hf).mono ?_
      rintro e w' ⟨rfl, rfl⟩
      go_wp2
      go_ret
      exact ⟨s, rfl, HS.out, HD.out⟩
  · clear h
    go_enter Try.func28, Try.ntmps28
    go_wp2_with fail
    refine (msqrt_any a _).mono ?_
    rintro e w1 ⟨s, rfl, hs, hd⟩
    have HS := Lib.hid hs
    have HD := Lib.hid hd
    clear hs hd
    go_wp2_with fail
    refine (finite_no a _ hf).mono ?_
    rintro e w2 ⟨rfl, hd⟩
    have HD2 := Lib.hid hd
    clear hd
    go_wp2
    go_ret
    exact ⟨s, rfl, HS.out, HD.out.trans HD2.out⟩

end Go.Proofs.Ytgockebgcbmgoaa

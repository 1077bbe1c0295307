/-
  The walk of edge's Div.
-/
import Derived.Test.YtgockebgcbmgoaaMulb
import Derived.Test.YtgockebgcbmgoaaQuot
set_option linter.unusedVariables false
set_option linter.unusedSimpArgs false
namespace Go.Proofs.Ytgockebgcbmgoaa
open Go.RowKit

/-- The quotient of finite floats that are not 0, to a side. -/
def Fl.divF (a b : Nat) (up : Bool) : Nat :=
  if Fl.rg (Fl.nearQ a b) = Fl.I then Fl.greatW (Fl.nearQ a b) up
  else Fl.sideW (Fl.nearQ a b) (Fl.cmpS (Fl.sg a ^^ Fl.sg b) (Fl.cmpR (Fl.dM a b) (Fl.pD a b) (Fl.rg (Fl.nearQ a b)))) (Fl.next (Fl.nearQ a b) up) up
/-- What Div tells. -/
def Fl.divS (a b : Nat) (up : Bool) : Option Nat := if Fl.rg a < Fl.I ∧ Fl.rg b < Fl.I ∧ 0 < Fl.rg a ∧ 0 < Fl.rg b then some (Fl.divF a b up) else Ieee.double.div a b

theorem Fl.order_ng0 (x : Nat) (hx : x < 2 * Fl.W) (h : Fl.rg x ≤ Fl.I) (c : Ordering) (hc : FloatKind.f64.format.order x 0 = some c) : FloatKind.f64.format.order (Fl.ng x) 0 = some c.swap := by
  rw [Fl.ord0 x h] at hc
  rw [Fl.ord0 (Fl.ng x) (by rw [Fl.rg_ng x hx]; exact h)]
  have hk : Fl.key (Fl.ng x) = -Fl.key x := by
    unfold Fl.key; rw [Fl.sg_ng x hx, Fl.rg_ng x hx]; cases Fl.sg x <;> simp
  have hc' : compare (Fl.key x) 0 = c := Option.some.inj hc
  rw [hk, ← hc', Fl.compare_int, Fl.compare_int]
  congr 1
  rcases Int.lt_trichotomy (Fl.key x) 0 with h1 | h1 | h1
  · rw [if_pos h1, if_neg (by omega), if_neg (by omega)]; rfl
  · rw [h1]; rfl
  · rw [if_pos (by omega), if_neg (by omega), if_neg (by omega)]; rfl
theorem nearQ_lt (a b : Nat) : Fl.nearQ a b < 2 * Fl.W := by
  obtain ⟨r, h, _⟩ := Fl.nearest_word (Fl.sg a ^^ Fl.sg b) (Fl.dM a b) (Fl.pD a b)
  unfold Fl.nearQ; rw [h]; exact Fl.wd_lt _ _ (Fl.min_I_lt r)
theorem nearQ_rg (a b : Nat) : Fl.rg (Fl.nearQ a b) ≤ Fl.I := by
  obtain ⟨r, h, _⟩ := Fl.nearest_word (Fl.sg a ^^ Fl.sg b) (Fl.dM a b) (Fl.pD a b)
  unfold Fl.nearQ; rw [h, Fl.rg_wd _ _ (Fl.min_I_lt r)]; exact Nat.min_le_right _ _

theorem Fl.frx_norm (x : Nat) (h0 : 0 < Fl.rg x) : Fl.nM (Fl.rg (Fl.frx x)) = Fl.nM (Fl.rg x) ∧ Fl.nE (Fl.rg (Fl.frx x)) = 1021 ∧ 0 < Fl.rg (Fl.frx x) := by
  obtain ⟨s1, s2, s3, s4, s5, s6⟩ := Fl.frx_facts x h0
  obtain ⟨m1, m2⟩ := Fl.nM_range (Fl.rg x) h0
  have hnB : ¬ Fl.rg (Fl.frx x) < Fl.B := by rw [s2]; unfold Fl.B at *; omega
  refine ⟨?_, ?_, ?_⟩
  · unfold Fl.nM at *; rw [if_neg hnB, s4]
  · unfold Fl.nE; rw [if_neg hnB, s5]; rfl
  · have : 0 < Fl.B := by decide
    omega
theorem Fl.cmp_signed2 (s : Bool) (q v : Nat) : compare ((if !s then -1 else 1) * (q : Int) + (if s then -(v : Int) else (v : Int))) 0 = Fl.cmpS s (compare v q) := by
  unfold Fl.cmpS
  rw [Fl.compare_int, Fl.compare_nat]
  cases s
  · simp only [Bool.false_eq_true, if_false, Bool.not_false, if_true]
    rcases Nat.lt_trichotomy v q with h | h | h
    · rw [if_pos (by omega), if_pos h]
    · rw [if_neg (by omega), if_pos (by omega), if_neg (by omega), if_pos h]
    · rw [if_neg (by omega), if_neg (by omega), if_neg (by omega), if_neg (by omega)]
  · simp only [Bool.false_eq_true, if_false, Bool.not_true, if_true]
    rcases Nat.lt_trichotomy v q with h | h | h
    · rw [if_neg (by omega), if_neg (by omega), if_pos h]; rfl
    · rw [if_neg (by omega), if_pos (by omega), if_neg (by omega), if_pos h]; rfl
    · rw [if_pos (by omega), if_neg (by omega), if_neg (by omega)]; rfl

/-- The scaled quotient and its error. -/
theorem Fl.div_scaled (a b : Nat) (a0 : 0 < Fl.rg a) (b0 : 0 < Fl.rg b) : ∃ r off, Ieee.double.div (Fl.frx a) (Fl.frx b) = some r ∧ r = Ieee.double.nearest (Fl.sg a ^^ Fl.sg b) (Fl.dM a b) (-55) ∧ r < 2 * Fl.W ∧ Fl.rg r < Fl.I ∧ 0 < Fl.rg r ∧ Ieee.double.fma (Fl.ng r) (Fl.frx b) (Fl.frx a) = some off ∧ off < 2 * Fl.W ∧ Fl.rg off ≤ Fl.I ∧ FloatKind.f64.format.order off 0 = some (Fl.cmpS (Fl.sg a) (Fl.cmpR (Fl.dM a b) (-55) (Fl.rg r))) := by
  obtain ⟨s1, s2, s3, s4, s5, s6⟩ := Fl.frx_facts a a0
  obtain ⟨t1, t2, t3, t4, t5, t6⟩ := Fl.frx_facts b b0
  obtain ⟨u1, u2, u3⟩ := Fl.frx_norm a a0
  obtain ⟨v1, v2, v3⟩ := Fl.frx_norm b b0
  have hdM : Fl.dM (Fl.frx a) (Fl.frx b) = Fl.dM a b := by unfold Fl.dM; rw [u1, v1]
  have hpD : Fl.pD (Fl.frx a) (Fl.frx b) = -55 := by unfold Fl.pD; rw [u2, v2]; rfl
  have hr : Ieee.double.div (Fl.frx a) (Fl.frx b) = some (Ieee.double.nearest (Fl.sg a ^^ Fl.sg b) (Fl.dM a b) (-55)) := by
    rw [Fl.div_near _ _ s3 t3 u3 v3]; unfold Fl.nearQ; rw [hdM, hpD, s1, t1]
  obtain ⟨g0, g1, g2, g3⟩ := Fl.dM_range a b a0 b0
  obtain ⟨q1, q2, q3⟩ := Fl.small_fin (Fl.sg a ^^ Fl.sg b) (Fl.dM a b) (-55) 56 g0 g1 (by decide) (by decide)
  obtain ⟨rr, w1, w2⟩ := Fl.nearest_rnd (Fl.sg a ^^ Fl.sg b) (Fl.dM a b) (-55) 1019 0 rfl
  have hql : Ieee.double.nearest (Fl.sg a ^^ Fl.sg b) (Fl.dM a b) (-55) < 2 * Fl.W := by
    rw [Fl.nearest_units _ _ _ (by decide)]; exact Fl.rnd_lt _ _
  have hrg : Fl.rg (Ieee.double.nearest (Fl.sg a ^^ Fl.sg b) (Fl.dM a b) (-55)) = min rr Fl.I := by rw [w1, Fl.rg_wd _ _ (Fl.min_I_lt rr)]
  obtain ⟨_, hrr⟩ := Fl.of_min hrg q1
  rw [← hrr] at w2
  generalize hQ : Ieee.double.nearest (Fl.sg a ^^ Fl.sg b) (Fl.dM a b) (-55) = r at *
  have hl := Fl.near_lead (Fl.dM a b) (Fl.rg r) 1019 0 (-55) g0 rfl w2 q2
  have hnr := Fl.nE_range (Fl.rg r) q2 q1
  have hBr : ¬ Fl.rg r < Fl.B := by
    intro h
    have : Fl.nE (Fl.rg r) ≤ 0 := by unfold Fl.nE; rw [if_pos h]; omega
    omega
  have hex : ((Fl.ex (Fl.rg r) : Nat) : Int) = Fl.nE (Fl.rg r) := by unfold Fl.nE; rw [if_neg hBr]
  obtain ⟨e, he⟩ : ∃ e, Fl.ex (Fl.rg r) = e + 1020 := ⟨Fl.ex (Fl.rg r) - 1020, by omega⟩
  have p2 : Fl.pl (Fl.frx b) = -53 := by unfold Fl.pl; rw [t5]; rfl
  have p1 : Fl.pl (Fl.ng r) = (e : Int) - 54 := by unfold Fl.pl; rw [Fl.rg_ng r hql, he]; omega
  have hfma := Fl.fma_fin (Fl.ng r) (Fl.frx b) (Fl.frx a) (by rw [Fl.rg_ng r hql]; exact q1) t3 s3 (by rw [p1, p2]; omega)
  refine ⟨r, _, hr, rfl, hql, q1, q2, hfma, Fl.rnd_lt _ _, by rw [Fl.rg_rnd]; exact (Fl.rnd_rr false _).2, ?_⟩
  rw [Fl.ord0 _ (by rw [Fl.rg_rnd]; exact (Fl.rnd_rr false _).2), Fl.key_rnd]
  congr 1
  obtain ⟨J, hJ⟩ : ∃ J : Nat, J = 967 := ⟨_, rfl⟩
  have hcmp := Fl.div_cmp a b (Fl.rg r) b0 e J hJ (by rw [he]; omega)
  rw [← hcmp]
  unfold Fl.fmaT
  rw [Fl.rg_ng r hql, t4, p1, p2, Fl.sg_ng r hql, q3, t1]
  have hx1 : (!(Fl.sg a ^^ Fl.sg b) ^^ Fl.sg b) = !Fl.sg a := by cases Fl.sg a <;> cases Fl.sg b <;> rfl
  have hva : Fl.vl (Fl.frx a) = (if Fl.sg a then -((Fl.nM (Fl.rg a) * 2 ^ (J + 54) : Nat) : Int) else ((Fl.nM (Fl.rg a) * 2 ^ (J + 54) : Nat) : Int)) := by
    unfold Fl.vl Fl.rv; rw [s1, s4, s5, show 1021 = J + 54 by omega]
  rw [hx1, hva, show ((e : Int) - 54 + -53 + 1074).toNat = e + J by omega]
  exact Fl.cmp_signed2 _ _ _

theorem div_not (a b : Nat) (up : Bool) (w : World) (ha : a < 2 * Fl.W) (hb : b < 2 * Fl.W) (h : ¬ (Fl.rg a < Fl.I ∧ Fl.rg b < Fl.I)) :
    Calls Try.prog 26 #[.float .f64 a, .float .f64 b, .bool up] w (FlPost (Ieee.double.div a b) w) := by
  obtain ⟨s, w1, hr, hs, hw1⟩ := run_float_any .quo 22 a b w (by simp)
  have HD : Hid (Dr w w1) := by rcases hw1 with rfl | rfl; exact Dr.refl _; exact Dr.drew _
  have HS : Hid (Fl.Is (Ieee.double.div a b) s) := hs
  clear hs hw1
  by_cases hfa : Fl.rg a < Fl.I
  · have hfb : ¬ Fl.rg b < Fl.I := fun h2 => h ⟨hfa, h2⟩
    clear h
    go_enter Try.func26, Try.ntmps26
    go_wp2_with fail
    refine (finite_yes a _ ha hfa).mono ?_
    rintro e w' ⟨rfl, rfl⟩
    go_wp2_with fail
    refine (finite_no b _ hfb).mono ?_
    rintro e w' ⟨rfl, hd⟩
    have HD2 := Lib.hid hd
    clear hd
    go_wp2
    go_ret
    exact ⟨s, rfl, HS.out, HD.out.trans HD2.out⟩
  · clear h
    go_enter Try.func26, Try.ntmps26
    go_wp2_with fail
    refine (finite_no a _ hfa).mono ?_
    rintro e w' ⟨rfl, hd⟩
    have HD2 := Lib.hid hd
    clear hd
    go_wp2
    go_ret
    exact ⟨s, rfl, HS.out, HD.out.trans HD2.out⟩
theorem div_zero (a b : Nat) (up : Bool) (w : World) (ha : a < 2 * Fl.W) (hb : b < 2 * Fl.W) (fa : Fl.rg a < Fl.I) (fb : Fl.rg b < Fl.I) (h : ¬ (0 < Fl.rg a ∧ 0 < Fl.rg b)) :
    Calls Try.prog 26 #[.float .f64 a, .float .f64 b, .bool up] w (FlPost (Ieee.double.div a b) w) := by
  obtain ⟨s, w1, hr, hs, hw1⟩ := run_float_any .quo 22 a b w (by simp)
  have HD : Hid (Dr w w1) := by rcases hw1 with rfl | rfl; exact Dr.refl _; exact Dr.drew _
  have HS : Hid (Fl.Is (Ieee.double.div a b) s) := hs
  clear hs hw1
  by_cases a0 : Fl.rg a = 0
  · have h2 := Fl.cmp0_eq a a0
    clear h a0
    go_enter Try.func26, Try.ntmps26
    go_wp2_with fail
    refine (finite_yes a _ ha fa).mono ?_
    rintro e w' ⟨rfl, rfl⟩
    go_wp2_with fail
    refine (finite_yes b _ hb fb).mono ?_
    rintro e w' ⟨rfl, rfl⟩
    go_wp2
    go_ret
    exact ⟨s, rfl, HS.out, HD.out⟩
  · have b0 : Fl.rg b = 0 := by omega
    have h2 := ord0_not a fa a0
    have h3 := Fl.cmp0_eq b b0
    clear h a0 b0
    go_enter Try.func26, Try.ntmps26
    go_wp2_with fail
    refine (finite_yes a _ ha fa).mono ?_
    rintro e w' ⟨rfl, rfl⟩
    go_wp2_with fail
    refine (finite_yes b _ hb fb).mono ?_
    rintro e w' ⟨rfl, rfl⟩
    go_wp2
    go_ret
    exact ⟨s, rfl, HS.out, HD.out⟩
theorem div_go (a b p q off off2 nq : Nat) (up : Bool) (w : World) (ha : a < 2 * Fl.W) (hb : b < 2 * Fl.W) (fa : Fl.rg a < Fl.I) (fb : Fl.rg b < Fl.I) (a0 : 0 < Fl.rg a) (b0 : 0 < Fl.rg b) (x y : Nat) (i k : Int) (i1 : -2000 ≤ i) (i2 : i ≤ 2000) (k1 : -2000 ≤ k) (k2 : k ≤ 2000)
    (he : ∀ w, Calls Try.prog 51 #[.float .f64 a, .float .f64 b] w fun e w' => e = .returned (.tuple #[.float .f64 x, .float .f64 y, .int .i64 i, .int .i64 k]) ∧ w = w')
    (h1 : ∀ w, (binOp .quo 22 (.float .f64 a) (.float .f64 b)).run Try.prog w = .ok (.float .f64 p) w)
    (h2 : ∀ w, (binOp .quo 22 (.float .f64 x) (.float .f64 y)).run Try.prog w = .ok (.float .f64 q) w)
    (hn : ∀ w, (Op.unary .neg (.float .f64 q)).run Try.prog w = .ok (.float .f64 nq) w)
    (hf : ∀ w, (callFunc 53 #[.float .f64 nq, .float .f64 y, .float .f64 x]).run Try.prog w = .ok (.value (.float .f64 off)) w)
    (sb : Bool) (hy : FloatKind.f64.format.order y 0 = some (if sb then .lt else .gt))
    (ho : ∀ w, (Op.unary .neg (.float .f64 off)).run Try.prog w = .ok (.float .f64 off2) w)
    (s : Nat) (hs : ∀ w, Calls Try.prog 52 #[.float .f64 p, .float .f64 q, .float .f64 (if sb then off2 else off), .int .i64 (i - k), .bool up] w fun e w' => e = .returned (.float .f64 s) ∧ Dr w w') :
    Calls Try.prog 26 #[.float .f64 a, .float .f64 b, .bool up] w fun e w' => e = .returned (.float .f64 s) ∧ Dr w w' := by
  have o1 := ord0_not a fa (by omega)
  have o2 := ord0_not b fb (by omega)
  have HE := Lib.hid he
  clear he a0 b0
  cases sb
  all_goals
    simp only [Bool.false_eq_true, if_false, if_true] at hy hs
    have HS := Lib.hid hs
    clear hs
    go_enter Try.func26, Try.ntmps26
    go_wp2_with fail
    refine (finite_yes a _ ha fa).mono ?_
    rintro e w' ⟨rfl, rfl⟩
    go_wp2_with fail
    refine (finite_yes b _ hb fb).mono ?_
    rintro e w' ⟨rfl, rfl⟩
    go_wp2_with fail
    refine (HE.out _).mono ?_
    rintro e w' ⟨rfl, rfl⟩
    go_wp2_with fail
    refine (HS.out _).mono ?_
    rintro e w' ⟨rfl, hd⟩
    have HD := Lib.hid hd
    clear hd
    go_wp2
    go_ret
    exact ⟨rfl, HD.out⟩
theorem div_fine (a b : Nat) (up : Bool) (w : World) (ha : a < 2 * Fl.W) (hb : b < 2 * Fl.W) (fa : Fl.rg a < Fl.I) (fb : Fl.rg b < Fl.I) (a0 : 0 < Fl.rg a) (b0 : 0 < Fl.rg b) :
    Calls Try.prog 26 #[.float .f64 a, .float .f64 b, .bool up] w fun e w' => e = .returned (.float .f64 (Fl.divF a b up)) ∧ Dr w w' := by
  obtain ⟨q, off, e1, e2, e3, e4, e5, e6, e7, e8, e9⟩ := Fl.div_scaled a b a0 b0
  have r1 := Fl.nE_range (Fl.rg a) a0 fa
  have r2 := Fl.nE_range (Fl.rg b) b0 fb
  have hnl := nearQ_lt a b
  obtain ⟨g0, g1, g2, g3⟩ := Fl.dM_range a b a0 b0
  have hP : Fl.pD a b - (Fl.fri a - Fl.fri b) = -55 := by unfold Fl.pD Fl.fri; omega
  obtain ⟨t1, t2, t3, t4, t5, t6⟩ := Fl.frx_facts b b0
  obtain ⟨v1, v2, v3⟩ := Fl.frx_norm b b0
  have hy : FloatKind.f64.format.order (Fl.frx b) 0 = some (if Fl.sg b then .lt else .gt) := by
    have := Fl.key_pos_of (Fl.sg b) (Fl.rg (Fl.frx b)) v3 (Nat.le_of_lt t3)
    have hw := Fl.wd_sg_rg (Fl.frx b) t6
    rw [t1] at hw
    rw [hw] at this
    exact this
  have ho2 : FloatKind.f64.format.order (if Fl.sg b then Fl.ng off else off) 0 = some (Fl.cmpS (Fl.sg a ^^ Fl.sg b) (Fl.cmpR (Fl.dM a b) (-55) (Fl.rg q))) := by
    cases hsb : Fl.sg b
    · rw [if_neg (by simp), e9, Bool.xor_false]
    · rw [if_pos rfl, Fl.order_ng0 off e7 e8 _ e9]
      congr 1
      unfold Fl.cmpS
      cases Fl.sg a <;> simp
  have hs : ∀ w, Calls Try.prog 52 #[.float .f64 (Fl.nearQ a b), .float .f64 q, .float .f64 (if Fl.sg b then Fl.ng off else off), .int .i64 (Fl.fri a - Fl.fri b), .bool up] w fun e w' => e = .returned (.float .f64 (Fl.divF a b up)) ∧ Dr w w' := by
    intro w
    unfold Fl.divF
    by_cases hI : Fl.rg (Fl.nearQ a b) = Fl.I
    · rw [if_pos hI]
      exact settle_great _ _ _ _ _ w hnl hI
    · rw [if_neg hI]
      have hle := nearQ_rg a b
      refine (settle_side (Fl.nearQ a b) q (if Fl.sg b then Fl.ng off else off) (Fl.fri a - Fl.fri b) up w (Fl.sg a ^^ Fl.sg b) (Fl.dM a b) (Fl.pD a b) g0 (by unfold Fl.fri; omega) (by unfold Fl.fri; omega) rfl (by omega) (by rw [hP]; exact e2) e4 e5 (by omega) (by omega) (by rw [hP]; exact ho2)).mono ?_
      rintro e w' ⟨h1, h2⟩
      exact ⟨h1, h2 ▸ Dr.refl _⟩
  exact div_go a b (Fl.nearQ a b) q off (Fl.ng off) (Fl.ng q) up w ha hb fa fb a0 b0 (Fl.frx a) (Fl.frx b) (Fl.fri a) (Fl.fri b) (by unfold Fl.fri; omega) (by unfold Fl.fri; omega) (by unfold Fl.fri; omega) (by unfold Fl.fri; omega)
    (fun w => even_fin a b w ha hb fa fb a0 b0) (fun w => run_float_arith w .quo _ .f64 _ _ _ (Fl.div_near a b fa fb a0 b0)) (fun w => run_float_arith w .quo _ .f64 _ _ _ e1) (fun w => run_neg q e3 w) (fun w => run_fma _ _ _ _ e6 w) (Fl.sg b) hy (fun w => run_neg off e7 w) _ hs
/-- Div. -/
theorem div_any (a b : Nat) (up : Bool) (w : World) (ha : a < 2 * Fl.W) (hb : b < 2 * Fl.W) : Calls Try.prog 26 #[.float .f64 a, .float .f64 b, .bool up] w (FlPost (Fl.divS a b up) w) := by
  unfold Fl.divS
  by_cases h : Fl.rg a < Fl.I ∧ Fl.rg b < Fl.I
  · by_cases h0 : 0 < Fl.rg a ∧ 0 < Fl.rg b
    · rw [if_pos ⟨h.1, h.2, h0.1, h0.2⟩]
      exact (div_fine a b up w ha hb h.1 h.2 h0.1 h0.2).mono fun e w' ⟨h1, h2⟩ => ⟨_, h1, rfl, h2⟩
    · rw [if_neg (fun hh => h0 ⟨hh.2.2.1, hh.2.2.2⟩)]
      exact div_zero a b up w ha hb h.1 h.2 h0
  · rw [if_neg (fun hh => h ⟨hh.1, hh.2.1⟩)]
    exact div_not a b up w ha hb h
end Go.Proofs.Ytgockebgcbmgoaa

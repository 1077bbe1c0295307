/-
  The walk of edge's Div.
-/
import Derived.Test.YtanpcieipgdnkaaMulb
import Derived.Test.YtanpcieipgdnkaaQuot
set_option linter.unusedVariables false
set_option linter.unusedSimpArgs false
namespace Go.Proofs.Ytanpcieipgdnkaa
open Go.RowKit

/-- The quotient of finite floats that are not 0, to a side. -/
def Fl.divF (a b : Nat) (up : Bool) : Nat :=
  if Fl.rg (Fl.nearQ a b) = Fl.I then Fl.greatW (Fl.nearQ a b) up
  else Fl.sideW (Fl.nearQ a b) (Fl.cmpS (Fl.sg a ^^ Fl.sg b) (Fl.cmpR (Fl.dM a b) (Fl.pD a b) (Fl.rg (Fl.nearQ a b)))) (Fl.next (Fl.nearQ a b) up) up
/-- What Div tells. -/
def Fl.divS (a b : Nat) (up : Bool) : Option Nat := if Fl.rg a < Fl.I ∧ Fl.rg b < Fl.I ∧ 0 < Fl.rg a ∧ 0 < Fl.rg b then some (Fl.divF a b up) else Ieee.double.div a b

theorem Fl.order_ng0 (x : Nat) (hx : x < 2 * Fl.W) (h : Fl.rg x ≤ Fl.I) (c : Ordering) (hc : FloatKind.f64.format.order x 0 = some c) : FloatKind.f64.format.order (Fl.ng x) 0 = some c.swap := by
  rw [Fl.ord0 x h] at hc
  rw [Fl.ord0 (Fl.ng x) (by rw [Fl.rg_ng x hx]; exact h)]
  have hk : Fl.key (Fl.ng x) = -Fl.key x := by
    unfold Fl.key; rw [Fl.sg_ng x hx, Fl.rg_ng x hx]; cases Fl.sg x <;> simp
  have hc' : compare (Fl.key x) 0 = c := Option.some.inj hc
  rw [hk, ← hc', Fl.compare_int, Fl.compare_int]
  congr 1
  rcases Int.lt_trichotomy (Fl.key x) 0 with h1 | h1 | h1
  · rw [if_pos h1, if_neg (by omega), if_neg (by omega)]; rfl
  · rw [h1]; rfl
  · rw [if_pos (by omega), if_neg (by omega), if_neg (by omega)]; rfl
theorem nearQ_lt (a b : Nat) : Fl.nearQ a b < 2 * Fl.W := by
  obtain ⟨r, h, _⟩ := Fl.nearest_word (Fl.sg a ^^ Fl.sg b) (Fl.dM a b) (Fl.pD a b)
  unfold Fl.nearQ; rw [h]; exact Fl.wd_lt _ _ (Fl.min_I_lt r)
theorem nearQ_rg (a b : Nat) : Fl.rg (Fl.nearQ a b) ≤ Fl.I := by
  obtain ⟨r, h, _⟩ := Fl.nearest_word (Fl.sg a ^^ Fl.sg b) (Fl.dM a b) (Fl.pD a b)
  unfold Fl.nearQ; rw [h, Fl.rg_wd _ _ (Fl.min_I_lt r)]; exact Nat.min_le_right _ _

theorem Fl.frx_norm (x : Nat) (h0 : 0 < Fl.rg x) : Fl.nM (Fl.rg (Fl.frx x)) = Fl.nM (Fl.rg x) ∧ Fl.nE (Fl.rg (Fl.frx x)) = 1021 ∧ 0 < Fl.rg (Fl.frx x) := by
  obtain ⟨s1, s2, s3, s4, s5, s6⟩ := Fl.frx_facts x h0
  obtain ⟨m1, m2⟩ := Fl.nM_range (Fl.rg x) h0
  have hnB : ¬ Fl.rg (Fl.frx x) < Fl.B := by rw [s2]; unfold Fl.B at *; omega
  refine ⟨?_, ?_, ?_⟩
  · unfold Fl.nM at *; rw [if_neg hnB, s4]
  · unfold Fl.nE; rw [if_neg hnB, s5]; rfl
  · have : 0 < Fl.B := by decide
    omega
theorem Fl.cmp_signed2 (s : Bool) (q v : Nat) : compare ((if !s then -1 else 1) * (q : Int) + (if s then -(v : Int) else (v : Int))) 0 = Fl.cmpS s (compare v q) := by
  unfold Fl.cmpS
  rw [Fl.compare_int, Fl.compare_nat]
  cases s
  · simp only [Bool.false_eq_true, if_false, Bool.not_false, if_true]
    rcases Nat.lt_trichotomy v q with h | h | h
    · rw [if_pos (by omega), if_pos h]
    · rw [if_neg (by omega), if_pos (by omega), if_neg (by omega), if_pos h]
    · rw [if_neg (by omega), if_neg (by omega), if_neg (by omega), if_neg (by omega)]
  · simp only [Bool.false_eq_true, if_false, Bool.not_true, if_true]
    rcases Nat.lt_trichotomy v q with h | h | h
    · rw [if_neg (by omega), if_neg (by omega), if_pos h]; rfl
    · rw [if_neg (by omega), if_pos (by omega), if_neg (by omega), if_pos h]; rfl
    · rw [if_pos (by omega), if_neg (by omega), if_neg (by omega)]; rfl

/-- The scaled quotient and its error. -/
theorem Fl.div_scaled (a b : Nat) (a0 : 0 < Fl.rg a) (b0 : 0 < Fl.rg b) : ∃ r off, Ieee.double.div (Fl.frx a) (Fl.frx b) = some r ∧ r = Ieee.double.nearest (Fl.sg a ^^ Fl.sg b) (Fl.dM a b) (-55) ∧ r < 2 * Fl.W ∧ Fl.rg r < Fl.I ∧ 0 < Fl.rg r ∧ Ieee.double.fma (Fl.ng r) (Fl.frx b) (Fl.frx a) = some off ∧ off < 2 * Fl.W ∧ Fl.rg off ≤ Fl.I ∧ FloatKind.f64.format.order off 0 = some (Fl.cmpS (Fl.sg a) (Fl.cmpR (Fl.dM a b) (-55) (Fl.rg r))) := by
  obtain ⟨s1, s2, s3, s4, s5, s6⟩ := Fl.frx_facts a a0
  obtain ⟨t1, t2, t3, t4, t5, t6⟩ := Fl.frx_facts b b0
  obtain ⟨u1, u2, u3⟩ := Fl.frx_norm a a0
  obtain ⟨v1, v2, v3⟩ := Fl.frx_norm b b0
  have hdM : Fl.dM (Fl.frx a) (Fl.frx b) = Fl.dM a b := by unfold Fl.dM; rw [u1, v1]
  have hpD : Fl.pD (Fl.frx a) (Fl.frx b) = -55 := by unfold Fl.pD; rw [u2, v2]; rfl
  have hr : Ieee.double.div (Fl.frx a) (Fl.frx b) = some (Ieee.double.nearest (Fl.sg a ^^ Fl.sg b) (Fl.dM a b) (-55)) := by
    rw [Fl.div_near _ _ s3 t3 u3 v3]; unfold Fl.nearQ; rw [hdM, hpD, s1, t1]
  obtain ⟨g0, g1, g2, g3⟩ := Fl.dM_range a b a0 b0
  obtain ⟨q1, q2, q3⟩ := Fl.small_fin (Fl.sg a ^^ Fl.sg b) (Fl.dM a b) (-55) 56 g0 g1 (by decide) (by decide)
  obtain ⟨rr, w1, w2⟩ := Fl.nearest_rnd (Fl.sg a ^^ Fl.sg b) (Fl.dM a b) (-55) 1019 0 rfl
  have hql : Ieee.double.nearest (Fl.sg a ^^ Fl.sg b) (Fl.dM a b) (-55) < 2 * Fl.W := by
    rw [Fl.nearest_units _ _ _ (by decide)]; exact Fl.rnd_lt _ _
  have hrg : Fl.rg (Ieee.double.nearest (Fl.sg a ^^ Fl.sg b) (Fl.dM a b) (-55)) = min rr Fl.I := by rw [w1, Fl.rg_wd _ _ (Fl.min_I_lt rr)]
  obtain ⟨_, hrr⟩ := Fl.of_min hrg q1
  rw [← hrr] at w2
  generalize hQ : Ieee.double.nearest (Fl.sg a ^^ Fl.sg b) (Fl.dM a b) (-55) = r at *
  have hl := Fl.near_lead (Fl.dM a b) (Fl.rg r) 1019 0 (-55) g0 rfl w2 q2
  have hnr := Fl.nE_range (Fl.rg r) q2 q1
  have hBr : ¬ Fl.rg r < Fl.B := by
    intro h
    have : Fl.nE (Fl.rg r) ≤ 0 := by unfold Fl.nE; rw [if_pos h]; omega
    omega
  have hex : ((Fl.ex (Fl.rg r) : Nat) : Int) = Fl.nE (Fl.rg r) := by unfold Fl.nE; rw [if_neg hBr]
  obtain ⟨e, he⟩ : ∃ e, Fl.ex (Fl.rg r) = e + 1020 := ⟨Fl.ex (Fl.rg r) - 1020, by omega⟩
  have p2 : Fl.pl (Fl.frx b) = -53 := by unfold Fl.pl; rw [t5]; rfl
  have p1 : Fl.pl (Fl.ng r) = (e : Int) - 54 := by unfold Fl.pl; rw [Fl.rg_ng r hql, he]; omega
  have hfma := Fl.fma_fin (Fl.ng r) (Fl.frx b) (Fl.frx a) (by rw [Fl.rg_ng r hql]; exact q1) t3 s3 (by rw [p1, p2]; omega)
  refine ⟨r, _, hr, rfl, hql, q1, q2, hfma, Fl.rnd_lt _ _, by rw [Fl.rg_rnd]; exact (Fl.rnd_rr false _).2, ?_⟩
  rw [Fl.ord0 _ (by rw [Fl.rg_rnd]; exact (Fl.rnd_rr false _).2), Fl.key_rnd]
  congr 1
  obtain ⟨J, hJ⟩ : ∃ J : Nat, J = 967 := ⟨_, rfl⟩
  have hcmp := Fl.div_cmp a b (Fl.rg r) b0 e J hJ (by rw [he]; omega)
  rw [← hcmp]
  unfold Fl.fmaT
  rw [Fl.rg_ng r hql, t4, p1, p2, Fl.sg_ng r hql, q3, t1]
  have hx1 : (!(Fl.sg a ^^ Fl.sg b) ^^ Fl.sg b) = !Fl.sg a := by cases Fl.sg a <;> cases Fl.sg b <;> rfl
  have hva : Fl.vl (Fl.frx a) = (if Fl.sg a then -((Fl.nM (Fl.rg a) * 2 ^ (J + 54) : Nat) : Int) else ((Fl.nM (Fl.rg a) * 2 ^ (J + 54) : Nat) : Int)) := by
    unfold Fl.vl Fl.rv; rw [s1, s4, s5, show 1021 = J + 54 by omega]
  rw [hx1, hva, show ((e : Int) - 54 + -53 + 1074).toNat = e + J by omega]
  exact Fl.cmp_signed2 _ _ _

end Go.Proofs.Ytanpcieipgdnkaa

/-
  The walk of edge's Sqrt.
  Plain facts on square roots of doubles.
  The walk of EdgeNear: it answers true.
  The walk of EdgeSteps: it answers true.
  The walk of rosettelaw02's awake: it answers true.
  Plain facts: what Add, Mul and Div tell with all signs turned, and in the other order; one way tells Go's own.
  The walk of edge's Div.
-/
import Derived.Test.YtclnmheplecknaaW13
import Derived.RowKit3
set_option linter.unusedVariables false
set_option linter.unusedSimpArgs false
namespace Go.Proofs.Ytclnmheplecknaa
open Go.RowKit

/-- The quotient of finite floats that are not 0, to a side. -/
def Fl.divF (a b : Nat) (up : Bool) : Nat :=
  if Fl.rg (Fl.nearQ a b) = Fl.I then Fl.greatW (Fl.nearQ a b) up
  else Fl.sideW (Fl.nearQ a b) (Fl.cmpS (Fl.sg a ^^ Fl.sg b) (Fl.cmpR (Fl.dM a b) (Fl.pD a b) (Fl.rg (Fl.nearQ a b)))) (Fl.next (Fl.nearQ a b) up) up
/-- What Div tells. -/
def Fl.divS (a b : Nat) (up : Bool) : Option Nat := if Fl.rg a < Fl.I ∧ Fl.rg b < Fl.I ∧ 0 < Fl.rg a ∧ 0 < Fl.rg b then some (Fl.divF a b up) else Ieee.double.div a b

theorem Fl.order_ng0 (x : Nat) (hx : x < 2 * Fl.W) (h : Fl.rg x ≤ Fl.I) (c : Ordering) (hc : FloatKind.f64.format.order x 0 = some c) : FloatKind.f64.format.order (Fl.ng x) 0 = some c.swap := by
  rw [Fl.ord0 x h] at hc
  rw [Fl.ord0 (Fl.ng x) (by rw [Fl.rg_ng x hx]; exact h)]
  have hk : Fl.key (Fl.ng x) = -Fl.key x := by
    unfold Fl.key; rw [Fl.sg_ng x hx, Fl.rg_ng x hx]; cases Fl.sg x <;> simp
  have hc' : compare (Fl.key x) 0 = c := Option.some.inj hc
  rw [hk, ← hc', Fl.compare_int, Fl.compare_int]
  congr 1
  rcases Int.lt_trichotomy (Fl.key x) 0 with h1 | h1 | h1
  · rw [if_pos h1, if_neg (by omega), if_neg (by omega)]; rfl
  · rw [h1]; rfl
  · rw [if_pos (by omega), if_neg (by omega), if_neg (by omega)]; rfl
theorem nearQ_lt (a b : Nat) : Fl.nearQ a b < 2 * Fl.W := by
  obtain ⟨r, h, _⟩ := Fl.nearest_word (Fl.sg a ^^ Fl.sg b) (Fl.dM a b) (Fl.pD a b)
  unfold Fl.nearQ; rw [h]; exact Fl.wd_lt _ _ (Fl.min_I_lt r)
theorem nearQ_rg (a b : Nat) : Fl.rg (Fl.nearQ a b) ≤ Fl.I := by
  obtain ⟨r, h, _⟩ := Fl.nearest_word (Fl.sg a ^^ Fl.sg b) (Fl.dM a b) (Fl.pD a b)
  unfold Fl.nearQ; rw [h, Fl.rg_wd _ _ (Fl.min_I_lt r)]; exact Nat.min_le_right _ _

theorem Fl.frx_norm (x : Nat) (h0 : 0 < Fl.rg x) : Fl.nM (Fl.rg (Fl.frx x)) = Fl.nM (Fl.rg x) ∧ Fl.nE (Fl.rg (Fl.frx x)) = 1021 ∧ 0 < Fl.rg (Fl.frx x) := by
  obtain ⟨s1, s2, s3, s4, s5, s6⟩ := Fl.frx_facts x h0
  obtain ⟨m1, m2⟩ := Fl.nM_range (Fl.rg x) h0
  have hnB : ¬ Fl.rg (Fl.frx x) < Fl.B := by rw [s2]; unfold Fl.B at *; omega
  refine ⟨?_, ?_, ?_⟩
  · unfold Fl.nM at *; rw [if_neg hnB, s4]
  · unfold Fl.nE; rw [if_neg hnB, s5]; rfl
  · have : 0 < Fl.B := by decide
    omega
theorem Fl.cmp_signed2 (s : Bool) (q v : Nat) : compare ((if !s then -1 else 1) * (q : Int) + (if s then -(v : Int) else (v : Int))) 0 = Fl.cmpS s (compare v q) := by
  unfold Fl.cmpS
  rw [Fl.compare_int, Fl.compare_nat]
  cases s
  · simp only [Bool.false_eq_true, if_false, Bool.not_false, if_true]
    rcases Nat.lt_trichotomy v q with h | h | h
    · rw [if_pos (by omega), if_pos h]
    · rw [if_neg (by omega), if_pos (by omega), if_neg (by omega), if_pos h]
    · rw [if_neg (by omega), if_neg (by omega), if_neg (by omega), if_neg (by omega)]
  · simp only [Bool.false_eq_true, if_false, Bool.not_true, if_true]
    rcases Nat.lt_trichotomy v q with h | h | h
    · rw [if_neg (by omega), if_neg (by omega), if_pos h]; rfl
    · rw [if_neg (by omega), if_pos (by omega), if_neg (by omega), if_pos h]; rfl
    · rw [if_pos (by omega), if_neg (by omega), if_neg (by omega)]; rfl

/-- The scaled quotient and its error. -/
theorem Fl.div_scaled (a b : Nat) (a0 : 0 < Fl.rg a) (b0 : 0 < Fl.rg b) : ∃ r off, Ieee.double.div (Fl.frx a) (Fl.frx b) = some r ∧ r = Ieee.double.nearest (Fl.sg a ^^ Fl.sg b) (Fl.dM a b) (-55) ∧ r < 2 * Fl.W ∧ Fl.rg r < Fl.I ∧ 0 < Fl.rg r ∧ Ieee.double.fma (Fl.ng r) (Fl.frx b) (Fl.frx a) = some off ∧ off < 2 * Fl.W ∧ Fl.rg off ≤ Fl.I ∧ FloatKind.f64.format.order off 0 = some (Fl.cmpS (Fl.sg a) (Fl.cmpR (Fl.dM a b) (-55) (Fl.rg r))) := by
  obtain ⟨s1, s2, s3, s4, s5, s6⟩ := Fl.frx_facts a a0
  obtain ⟨t1, t2, t3, t4, t5, t6⟩ := Fl.frx_facts b b0
  obtain ⟨u1, u2, u3⟩ := Fl.frx_norm a a0
  obtain ⟨v1, v2, v3⟩ := Fl.frx_norm b b0
  have hdM : Fl.dM (Fl.frx a) (Fl.frx b) = Fl.dM a b := by unfold Fl.dM; rw [u1, v1]
  have hpD : Fl.pD (Fl.frx a) (Fl.frx b) = -55 := by unfold Fl.pD; rw [u2, v2]; rfl
  have hr : Ieee.double.div (Fl.frx a) (Fl.frx b) = some (Ieee.double.nearest (Fl.sg a ^^ Fl.sg b) (Fl.dM a b) (-55)) := by
    rw [Fl.div_near _ _ s3 t3 u3 v3]; unfold Fl.nearQ; rw [hdM, hpD, s1, t1]
  obtain ⟨g0, g1, g2, g3⟩ := Fl.dM_range a b a0 b0
  obtain ⟨q1, q2, q3⟩ := Fl.small_fin (Fl.sg a ^^ Fl.sg b) (Fl.dM a b) (-55) 56 g0 g1 (by decide) (by decide)
  obtain ⟨rr, w1, w2⟩ := Fl.nearest_rnd (Fl.sg a ^^ Fl.sg b) (Fl.dM a b) (-55) 1019 0 rfl
  have hql : Ieee.double.nearest (Fl.sg a ^^ Fl.sg b) (Fl.dM a b) (-55) < 2 * Fl.W := by
    rw [Fl.nearest_units _ _ _ (by decide)]; exact Fl.rnd_lt _ _
  have hrg : Fl.rg (Ieee.double.nearest (Fl.sg a ^^ Fl.sg b) (Fl.dM a b) (-55)) = min rr Fl.I := by rw [w1, Fl.rg_wd _ _ (Fl.min_I_lt rr)]
  obtain ⟨_, hrr⟩ := Fl.of_min hrg q1
  rw [← hrr] at w2
  generalize hQ : Ieee.double.nearest (Fl.sg a ^^ Fl.sg b) (Fl.dM a b) (-55) = r at *
  have hl := Fl.near_lead (Fl.dM a b) (Fl.rg r) 1019 0 (-55) g0 rfl w2 q2
  have hnr := Fl.nE_range (Fl.rg r) q2 q1
  have hBr : ¬ Fl.rg r < Fl.B := by
    intro h
    have : Fl.nE (Fl.rg r) ≤ 0 := by unfold Fl.nE; rw [if_pos h]; omega
    omega
  have hex : ((Fl.ex (Fl.rg r) : Nat) : Int) = Fl.nE (Fl.rg r) := by unfold Fl.nE; rw [if_neg hBr]
  obtain ⟨e, he⟩ : ∃ e, Fl.ex (Fl.rg r) = e + 1020 := ⟨Fl.ex (Fl.rg r) - 1020, by omega⟩
  have p2 : Fl.pl (Fl.frx b) = -53 := by unfold Fl.pl; rw [t5]; rfl
  have p1 : Fl.pl (Fl.ng r) = (e : Int) - 54 := by unfold Fl.pl; rw [Fl.rg_ng r hql, he]; omega
  have hfma := Fl.fma_fin (Fl.ng r) (Fl.frx b) (Fl.frx a) (by rw [Fl.rg_ng r hql]; exact q1) t3 s3 (by rw [p1, p2]; omega)
  refine ⟨r, _, hr, rfl, hql, q1, q2, hfma, Fl.rnd_lt _ _, by rw [Fl.rg_rnd]; exact (Fl.rnd_rr false _).2, ?_⟩
  rw [Fl.ord0 _ (by rw [Fl.rg_rnd]; exact (Fl.rnd_rr false _).2), Fl.key_rnd]
  congr 1
  obtain ⟨J, hJ⟩ : ∃ J : Nat, J = 967 := ⟨_, rfl⟩
  have hcmp := Fl.div_cmp a b (Fl.rg r) b0 e J hJ (by rw [he]; omega)
  rw [← hcmp]
  unfold Fl.fmaT
  rw [Fl.rg_ng r hql, t4, p1, p2, Fl.sg_ng r hql, q3, t1]
  have hx1 : (!(Fl.sg a ^^ Fl.sg b) ^^ Fl.sg b) = !Fl.sg a := by cases Fl.sg a <;> cases Fl.sg b <;> rfl
  have hva : Fl.vl (Fl.frx a) = (if Fl.sg a then -((Fl.nM (Fl.rg a) * 2 ^ (J + 54) : Nat) : Int) else ((Fl.nM (Fl.rg a) * 2 ^ (J + 54) : Nat) : Int)) := by
    unfold Fl.vl Fl.rv; rw [s1, s4, s5, show 1021 = J + 54 by omega]
  rw [hx1, hva, show ((e : Int) - 54 + -53 + 1074).toNat = e + J by omega]
  exact Fl.cmp_signed2 _ _ _

end Go.Proofs.Ytclnmheplecknaa

namespace Go.Proofs.Ytclnmheplecknaa
namespace Fl
open Ieee

theorem read_ng (w : Nat) (h : w < 2 * W) : double.read (ng w) = (double.read w).opposite := by
  rcases Nat.lt_trichotomy (rg w) I with h1 | h1 | h1
  · rw [read_fin w h1, read_fin (ng w) (by rw [rg_ng w h]; exact h1), rg_ng w h, sg_ng w h]; rfl
  · rw [read_inf w h1, read_inf (ng w) (by rw [rg_ng w h]; exact h1), sg_ng w h]; rfl
  · rw [read_nan w h1, read_nan (ng w) (by rw [rg_ng w h]; exact h1), rg_ng w h, sg_ng w h]; rfl
theorem nearest_ng (s : Bool) (m : Nat) (p : Int) : double.nearest (!s) m p = ng (double.nearest s m p) := by
  obtain ⟨r, e1, f1⟩ := nearest_word (!s) m p
  obtain ⟨q, e2, f2⟩ := nearest_word s m p
  have h : r = q := (f1 (-(p + 1074)).toNat _ (by omega) rfl).eq (f2 (-(p + 1074)).toNat _ (by omega) rfl)
  rw [e1, e2, h, ng_wd _ _ (min_I_lt q)]
theorem rnd_ng (s : Bool) (n : Nat) : rnd (!s) n = ng (rnd s n) := nearest_ng s n (-1074)
theorem write_opp (d : Datum) (h : d.isNaN = false) : double.write d.opposite = ng (double.write d) := by
  cases d with
  | number s m p => exact nearest_ng s m p
  | infinity s =>
    unfold Datum.opposite Format.write
    dsimp only
    rw [dI, word_eq, word_eq, ng_wd _ _ I_lt_W]
  | nan s t => cases h
theorem product_opp (a b : Datum) : a.opposite.product b = (a.product b).map Datum.opposite := by
  cases a <;> cases b <;> simp only [Datum.opposite, Datum.product, Option.map_none, Option.map_some, Bool.not_xor]
  all_goals (try split) <;> simp [Datum.opposite, Bool.not_xor]
theorem product_num (a b d : Datum) (h : a.product b = some d) : d.isNaN = false := by
  cases a <;> cases b <;> simp only [Datum.product] at h
  all_goals first | cases h; done | (cases h; rfl) | (split at h <;> cases h <;> rfl)
theorem quotient_opp (n : Nat) (a b : Datum) : a.opposite.quotient n b = (a.quotient n b).map Datum.opposite := by
  cases a <;> cases b <;> simp only [Datum.opposite, Datum.quotient, Option.map_none, Option.map_some, Bool.not_xor]
  all_goals (try split) <;> (try split) <;> simp [Datum.opposite, Bool.not_xor]
theorem quotient_num (n : Nat) (a b d : Datum) (h : a.quotient n b = some d) : d.isNaN = false := by
  cases a <;> cases b <;> simp only [Datum.quotient] at h
  all_goals first | cases h; done | (cases h; rfl) | (split at h <;> (try split at h) <;> cases h <;> rfl)
theorem mul_ng (a b : Nat) (ha : a < 2 * W) : double.mul (ng a) b = (double.mul a b).map ng := by
  unfold Format.mul
  rw [read_ng a ha, product_opp]
  cases h : (double.read a).product (double.read b) with
  | none => rfl
  | some d => simp only [Option.map_some]; rw [write_opp d (product_num _ _ d h)]
theorem div_ng (a b : Nat) (ha : a < 2 * W) : double.div (ng a) b = (double.div a b).map ng := by
  unfold Format.div
  rw [read_ng a ha, quotient_opp]
  cases h : (double.read a).quotient (double.fractionBits + 2) (double.read b) with
  | none => rfl
  | some d => simp only [Option.map_some]; rw [write_opp d (quotient_num _ _ _ d h)]
theorem product_comm (a b : Datum) : a.product b = b.product a := by
  cases a <;> cases b <;> simp only [Datum.product]
  all_goals first
    | rw [Bool.xor_comm, Nat.mul_comm, Int.add_comm]
    | rw [Bool.xor_comm]
theorem mul_comm' (a b : Nat) : double.mul a b = double.mul b a := by unfold Format.mul; rw [product_comm]
theorem sum_comm (a b : Datum) : a.sum b = b.sum a := by
  cases a <;> cases b <;> simp only [Datum.sum]
  all_goals first
    | rw [Int.min_comm, Int.add_comm, Bool.and_comm]
    | (rename_i s t; cases s <;> cases t <;> simp)
theorem add_comm' (a b : Nat) : double.add a b = double.add b a := by unfold Format.add; rw [sum_comm]
/-- A sum with an operand that is not finite. -/
theorem add_ng_not (a b : Nat) (ha : a < 2 * W) (hb : b < 2 * W) (h : ¬ (rg a < I ∧ rg b < I)) : double.add (ng a) (ng b) = (double.add a b).map ng := by
  have key : ∀ x y : Datum, (∀ s m p t n q, ¬ (x = .number s m p ∧ y = .number t n q)) → (x.opposite.sum y.opposite).map double.write = ((x.sum y).map double.write).map ng := by
    intro x y hxy
    cases x <;> cases y <;> simp only [Datum.opposite, Datum.sum, Option.map_none, Option.map_some]
    · rename_i s m p t n q; exact absurd ⟨rfl, rfl⟩ (hxy s m p t n q)
    · rename_i t; have := write_opp (.infinity t) rfl; unfold Datum.opposite at this; rw [this]
    · rename_i t _ _ _; have := write_opp (.infinity t) rfl; unfold Datum.opposite at this; rw [this]
    · rename_i s t
      have := write_opp (.infinity s) rfl
      unfold Datum.opposite at this
      cases s <;> cases t <;> simp_all
  unfold Format.add
  rw [read_ng a ha, read_ng b hb]
  apply key
  intro s m p t n q ⟨h1, h2⟩
  apply h
  constructor
  · rcases Nat.lt_trichotomy (rg a) I with h3 | h3 | h3
    · exact h3
    · rw [read_inf a h3] at h1; cases h1
    · rw [read_nan a h3] at h1; cases h1
  · rcases Nat.lt_trichotomy (rg b) I with h3 | h3 | h3
    · exact h3
    · rw [read_inf b h3] at h2; cases h2
    · rw [read_nan b h3] at h2; cases h2

/-! ### the steps to a side, turned -/
theorem greatW_ng (x : Nat) (up : Bool) (hx : x < 2 * W) : greatW (ng x) (!up) = ng (greatW x up) := by
  unfold greatW
  rw [sg_ng x hx]
  have hm : (9218868437227405311 : Nat) < W := by decide
  by_cases h : up = !sg x
  · rw [if_pos h, if_pos (by rw [h])]
  · rw [if_neg h, if_neg (fun h2 => h (by simpa using h2)), ng_wd _ _ hm]
theorem next_turn (x : Nat) (up : Bool) (hx : x < 2 * W) : next (ng x) (!up) = ng (next x up) := by
  cases up
  · have := next_ng x hx
    rw [← this, ng_ng _ (next_lt _ _ (ng_lt x hx))]; rfl
  · have := next_ng (ng x) (ng_lt x hx)
    rw [ng_ng x hx] at this
    exact this.symm
theorem sideW_ng (x : Nat) (c : Ordering) (up : Bool) (hx : x < 2 * W) : sideW (ng x) c.swap (next (ng x) (!up)) (!up) = ng (sideW x c (next x up) up) := by
  rw [next_turn x up hx]
  unfold sideW
  cases c <;> cases up <;> simp
theorem cmpS_not (s : Bool) (c : Ordering) : cmpS (!s) c = (cmpS s c).swap := by unfold cmpS; cases s <;> simp
theorem compare_ng (a b : Int) : compare (-a) (-b) = (compare a b).swap := by
  rw [compare_int, compare_int]
  rcases Int.lt_trichotomy a b with h | h | h
  · rw [if_neg (by omega), if_neg (by omega), if_pos h]; rfl
  · subst h; simp
  · rw [if_pos (by omega), if_neg (by omega), if_neg (by omega)]; rfl

theorem nearS_ng (a b : Nat) (ha : a < 2 * W) (hb : b < 2 * W) (h : vl a + vl b ≠ 0) : nearS (ng a) (ng b) = ng (nearS a b) := by
  unfold nearS
  rw [vl_ng a ha, vl_ng b hb, show -vl a + -vl b = -(vl a + vl b) by omega, Int.natAbs_neg, ← rnd_ng]
  congr 1
  unfold sgn2
  rw [if_neg (by omega), if_neg h, ← decide_not]
  congr 1
  apply propext
  omega
theorem rg_nearS_ng (a b : Nat) (ha : a < 2 * W) (hb : b < 2 * W) : rg (nearS (ng a) (ng b)) = rg (nearS a b) := by
  unfold nearS
  rw [vl_ng a ha, vl_ng b hb, show -vl a + -vl b = -(vl a + vl b) by omega, Int.natAbs_neg, rg_rnd, rg_rnd]
theorem addF_ng (a b : Nat) (up : Bool) (ha : a < 2 * W) (hb : b < 2 * W) : addF (ng a) (ng b) (!up) = ng (addF a b up) := by
  have hr := rg_nearS_ng a b ha hb
  have hnl := nearS_lt a b
  unfold addF
  rw [hr]
  by_cases h0 : rg (nearS a b) = 0
  · have h1 : ¬ rg (nearS a b) = I := by rw [h0]; decide
    rw [if_neg h1, if_neg h1, if_pos h0, if_pos h0, rg_ng a ha, sg_ng a ha, sg_ng b hb]
    by_cases hz : rg a = 0 ∧ sg a = sg b
    · rw [if_pos hz, if_pos ⟨hz.1, by rw [hz.2]⟩]
    · rw [if_neg hz, if_neg (fun h2 => hz ⟨h2.1, by simpa using h2.2⟩)]
      cases up <;> decide
  · have hn : vl a + vl b ≠ 0 := by
      intro h
      apply h0
      unfold nearS
      rw [h, rg_rnd]; exact rr_zero
    rw [nearS_ng a b ha hb hn]
    by_cases h1 : rg (nearS a b) = I
    · rw [if_pos h1, if_pos h1, greatW_ng _ _ hnl]
    · rw [if_neg h1, if_neg h1, if_neg h0, if_neg h0, vl_ng a ha, vl_ng b hb, vl_ng _ hnl, show -vl a + -vl b = -(vl a + vl b) by omega, compare_ng, sideW_ng _ _ _ hnl]
theorem addS_ng (a b : Nat) (up : Bool) (ha : a < 2 * W) (hb : b < 2 * W) : addS (ng a) (ng b) (!up) = (addS a b up).map ng := by
  unfold addS
  rw [rg_ng a ha, rg_ng b hb]
  by_cases h : rg a < I ∧ rg b < I
  · rw [if_pos h, if_pos h, addF_ng a b up ha hb]; rfl
  · rw [if_neg h, if_neg h, add_ng_not a b ha hb h]
theorem addF_comm (a b : Nat) (up : Bool) (ha : a < 2 * W) (hb : b < 2 * W) : addF a b up = addF b a up := by
  unfold addF
  rw [nearS_comm a b, Int.add_comm (vl a)]
  by_cases h1 : rg (nearS b a) = I
  · rw [if_pos h1, if_pos h1]
  · rw [if_neg h1, if_neg h1]
    by_cases h0 : rg (nearS b a) = 0
    · rw [if_pos h0, if_pos h0]
      have hab := (nearS_zero b a h0).2
      by_cases hz : rg a = 0 ∧ sg a = sg b
      · rw [if_pos hz, if_pos ⟨by omega, hz.2.symm⟩]
        exact word_ext ha hb hz.2 hab
      · have hz2 : ¬ (rg b = 0 ∧ sg b = sg a) := fun h2 => hz ⟨by omega, h2.2.symm⟩
        rw [if_neg hz, if_neg hz2]
    · rw [if_neg h0, if_neg h0]
theorem addS_comm (a b : Nat) (up : Bool) (ha : a < 2 * W) (hb : b < 2 * W) : addS a b up = addS b a up := by
  unfold addS
  by_cases h : rg a < I ∧ rg b < I
  · rw [if_pos h, if_pos h.symm, addF_comm a b up ha hb]
  · rw [if_neg h, if_neg (fun h2 => h h2.symm), add_comm']

theorem nearM_ng (a b : Nat) (ha : a < 2 * W) : nearM (ng a) b = ng (nearM a b) ∧ mM (ng a) b = mM a b ∧ pM (ng a) b = pM a b := by
  have h1 : mM (ng a) b = mM a b := by unfold mM; rw [rg_ng a ha]
  have h2 : pM (ng a) b = pM a b := by unfold pM; rw [rg_ng a ha]
  refine ⟨?_, h1, h2⟩
  unfold nearM
  rw [h1, h2, sg_ng a ha, Bool.not_xor, nearest_ng]
theorem mulF_ng (a b : Nat) (up : Bool) (ha : a < 2 * W) : mulF (ng a) b (!up) = ng (mulF a b up) := by
  obtain ⟨h1, h2, h3⟩ := nearM_ng a b ha
  have hl := nearM_lt a b
  unfold mulF
  rw [h1, h2, h3, rg_ng _ hl, sg_ng a ha, Bool.not_xor, cmpS_not]
  by_cases h : rg (nearM a b) = I
  · rw [if_pos h, if_pos h, greatW_ng _ _ hl]
  · rw [if_neg h, if_neg h, sideW_ng _ _ _ hl]
theorem mulS_ng (a b : Nat) (up : Bool) (ha : a < 2 * W) : mulS (ng a) b (!up) = (mulS a b up).map ng := by
  unfold mulS
  rw [rg_ng a ha]
  by_cases h : rg a < I ∧ rg b < I ∧ 0 < rg a ∧ 0 < rg b
  · rw [if_pos h, if_pos h, mulF_ng a b up ha]; rfl
  · rw [if_neg h, if_neg h, mul_ng a b ha]
theorem mulS_comm (a b : Nat) (up : Bool) : mulS a b up = mulS b a up := by
  unfold mulS
  have e1 : mM a b = mM b a := Nat.mul_comm _ _
  have e2 : pM a b = pM b a := Int.add_comm _ _
  have e3 : nearM a b = nearM b a := by unfold nearM; rw [e1, e2, Bool.xor_comm]
  have e4 : mulF a b up = mulF b a up := by unfold mulF; rw [e3, e1, e2, Bool.xor_comm]
  by_cases h : rg a < I ∧ rg b < I ∧ 0 < rg a ∧ 0 < rg b
  · rw [if_pos h, if_pos ⟨h.2.1, h.1, h.2.2.2, h.2.2.1⟩, e4]
  · rw [if_neg h, if_neg (fun h2 => h ⟨h2.2.1, h2.1, h2.2.2.2, h2.2.2.1⟩), mul_comm']
theorem nearQ_ng (a b : Nat) (ha : a < 2 * W) : nearQ (ng a) b = ng (nearQ a b) ∧ dM (ng a) b = dM a b ∧ pD (ng a) b = pD a b := by
  have h1 : dM (ng a) b = dM a b := by unfold dM; rw [rg_ng a ha]
  have h2 : pD (ng a) b = pD a b := by unfold pD; rw [rg_ng a ha]
  refine ⟨?_, h1, h2⟩
  unfold nearQ
  rw [h1, h2, sg_ng a ha, Bool.not_xor, nearest_ng]
theorem divF_ng (a b : Nat) (up : Bool) (ha : a < 2 * W) : divF (ng a) b (!up) = ng (divF a b up) := by
  obtain ⟨h1, h2, h3⟩ := nearQ_ng a b ha
  have hl := nearQ_lt a b
  unfold divF
  rw [h1, h2, h3, rg_ng _ hl, sg_ng a ha, Bool.not_xor, cmpS_not]
  by_cases h : rg (nearQ a b) = I
  · rw [if_pos h, if_pos h, greatW_ng _ _ hl]
  · rw [if_neg h, if_neg h, sideW_ng _ _ _ hl]
theorem divS_ng (a b : Nat) (up : Bool) (ha : a < 2 * W) : divS (ng a) b (!up) = (divS a b up).map ng := by
  unfold divS
  rw [rg_ng a ha]
  by_cases h : rg a < I ∧ rg b < I ∧ 0 < rg a ∧ 0 < rg b
  · rw [if_pos h, if_pos h, divF_ng a b up ha]; rfl
  · rw [if_neg h, if_neg h, div_ng a b ha]

/-! ### results -/
theorem Is_same {o : Option Nat} {a b : Nat} (h1 : Is o a) (h2 : Is o b) : Same a b := by
  cases o with
  | none => exact .inr ⟨h1.1, h2.1⟩
  | some r => left; have e1 : a = r := h1; have e2 : b = r := h2; rw [e1, e2]
theorem Is_ng {o : Option Nat} {a : Nat} (h : Is o a) : Is (o.map ng) (ng a) := by
  cases o with
  | none => exact ⟨by rw [rg_ng a h.2]; exact h.1, ng_lt a h.2⟩
  | some r => have e1 : a = r := h; rw [e1]; rfl
theorem Like_of_same {a b : Nat} (h : Same a b) : Like a b := by
  rcases h with rfl | h
  · rcases Nat.lt_or_ge I (rg a) with h | h
    · exact .inr ⟨h, h⟩
    · exact .inl ⟨h, h, rfl⟩
  · exact .inr h
theorem sideW_one (near : Nat) (c : Ordering) (n1 n2 : Nat) : sideW near c n1 true = near ∨ sideW near c n2 false = near := by
  unfold sideW; cases c <;> simp
theorem greatW_one (x : Nat) : greatW x true = x ∨ greatW x false = x := by
  unfold greatW; cases sg x <;> simp
theorem Like_zero {a b : Nat} (h1 : rg a = 0) (h2 : rg b = 0) : Like a b := by
  left
  refine ⟨by rw [h1]; exact Nat.zero_le _, by rw [h2]; exact Nat.zero_le _, ?_⟩
  unfold key; rw [h1, h2]; simp
/-- One way tells Go's own sum. -/
theorem add_one_way (a b : Nat) (up : Bool) (s x y : Nat) (hs : Is (double.add a b) s) (hx : Is (addS a b up) x) (hy : Is (addS a b (!up)) y) : Like s x ∨ Like s y := by
  unfold addS at hx hy
  by_cases h : rg a < I ∧ rg b < I
  · rw [if_pos h] at hx hy
    rw [add_fin a b h.1 h.2] at hs
    have hs' : s = nearS a b := hs
    have hx' : x = addF a b up := hx
    have hy' : y = addF a b (!up) := hy
    subst hs' hx' hy'
    unfold addF
    by_cases hI : rg (nearS a b) = I
    · rw [if_pos hI, if_pos hI]
      have := greatW_one (nearS a b)
      cases up
      · rcases this with h | h
        · right; rw [show (!false) = true from rfl, h]; exact Like_of_same (.inl rfl)
        · left; rw [h]; exact Like_of_same (.inl rfl)
      · rcases this with h | h
        · left; rw [h]; exact Like_of_same (.inl rfl)
        · right; rw [show (!true) = false from rfl, h]; exact Like_of_same (.inl rfl)
    · rw [if_neg hI, if_neg hI]
      by_cases h0 : rg (nearS a b) = 0
      · left
        rw [if_pos h0]
        refine Like_zero h0 ?_
        split
        · rename_i hz; exact hz.1
        · cases up <;> decide
      · rw [if_neg h0, if_neg h0]
        have := sideW_one (nearS a b) (compare (vl a + vl b) (vl (nearS a b))) (next (nearS a b) true) (next (nearS a b) false)
        cases up
        · rcases this with h | h
          · right; rw [show (!false) = true from rfl, h]; exact Like_of_same (.inl rfl)
          · left; rw [h]; exact Like_of_same (.inl rfl)
        · rcases this with h | h
          · left; rw [h]; exact Like_of_same (.inl rfl)
          · right; rw [show (!true) = false from rfl, h]; exact Like_of_same (.inl rfl)
  · rw [if_neg h] at hx
    exact .inl (Like_of_same (Is_same hs hx))
theorem mul_one_way (a b : Nat) (up : Bool) (s x y : Nat) (hs : Is (double.mul a b) s) (hx : Is (mulS a b up) x) (hy : Is (mulS a b (!up)) y) : Like s x ∨ Like s y := by
  unfold mulS at hx hy
  by_cases h : rg a < I ∧ rg b < I ∧ 0 < rg a ∧ 0 < rg b
  · rw [if_pos h] at hx hy
    rw [mul_near a b h.1 h.2.1 h.2.2.1 h.2.2.2] at hs
    have hs' : s = nearM a b := hs
    have hx' : x = mulF a b up := hx
    have hy' : y = mulF a b (!up) := hy
    subst hs' hx' hy'
    unfold mulF
    by_cases hI : rg (nearM a b) = I
    · rw [if_pos hI, if_pos hI]
      have := greatW_one (nearM a b)
      cases up
      · rcases this with h | h
        · right; rw [show (!false) = true from rfl, h]; exact Like_of_same (.inl rfl)
        · left; rw [h]; exact Like_of_same (.inl rfl)
      · rcases this with h | h
        · left; rw [h]; exact Like_of_same (.inl rfl)
        · right; rw [show (!true) = false from rfl, h]; exact Like_of_same (.inl rfl)
    · rw [if_neg hI, if_neg hI]
      have := sideW_one (nearM a b) (cmpS (sg a ^^ sg b) (cmpR (mM a b) (pM a b) (rg (nearM a b)))) (next (nearM a b) true) (next (nearM a b) false)
      cases up
      · rcases this with h | h
        · right; rw [show (!false) = true from rfl, h]; exact Like_of_same (.inl rfl)
        · left; rw [h]; exact Like_of_same (.inl rfl)
      · rcases this with h | h
        · left; rw [h]; exact Like_of_same (.inl rfl)
        · right; rw [show (!true) = false from rfl, h]; exact Like_of_same (.inl rfl)
  · rw [if_neg h] at hx
    exact .inl (Like_of_same (Is_same hs hx))
end Fl
end Go.Proofs.Ytclnmheplecknaa

namespace Go.Proofs.Ytclnmheplecknaa
open Go.RowKit

theorem add_up (w : World) : Calls Try.prog 115 #[.float .f64 4607182418800017408, .float .f64 4336966441157787648, .bool true] w fun e w' => e = .returned (.float .f64 4607182418800017409) ∧ Dr w w' := by
  refine (add_any _ _ _ w (by decide) (by decide)).mono ?_
  rintro e w' ⟨s, rfl, hs, hd⟩
  have h1 : Fl.addS 4607182418800017408 4336966441157787648 true = some 4607182418800017409 := by decide +kernel
  rw [h1] at hs
  have : s = 4607182418800017409 := hs
  rw [this]
  exact ⟨rfl, hd⟩
theorem add_down (w : World) : Calls Try.prog 115 #[.float .f64 4607182418800017408, .float .f64 4336966441157787648, .bool false] w fun e w' => e = .returned (.float .f64 4607182418800017408) ∧ Dr w w' := by
  refine (add_any _ _ _ w (by decide) (by decide)).mono ?_
  rintro e w' ⟨s, rfl, hs, hd⟩
  have h1 : Fl.addS 4607182418800017408 4336966441157787648 false = some 4607182418800017408 := by decide +kernel
  rw [h1] at hs
  have : s = 4607182418800017408 := hs
  rw [this]
  exact ⟨rfl, hd⟩
theorem next_1 (w : World) : Calls Try.prog 156 #[.float .f64 4607182418800017408, .bool false] w fun e w' => e = .returned (.float .f64 4607182418800017407) ∧ w = w' := by
  refine (next_any _ _ w (by decide)).mono ?_
  rintro e w' ⟨rfl, rfl⟩
  have h1 : Fl.next 4607182418800017408 false = 4607182418800017407 := by decide +kernel
  rw [h1]
  exact ⟨rfl, rfl⟩

end Go.Proofs.Ytclnmheplecknaa

namespace Go.Proofs.Ytclnmheplecknaa
open Go.RowKit

theorem Dr.grown {w w' : World} (h : Dr w w') : Grown w w' := by
  obtain ⟨n, rfl⟩ := h
  exact Grown.refl w
theorem wf_float {a : Nat} (h : (Lit.float .f64 a).wf = true) : a < 2 * Fl.W := by
  simp only [Lit.wf, decide_eq_true_eq] at h
  unfold Fl.W; omega

end Go.Proofs.Ytclnmheplecknaa

namespace Go.Proofs.Ytclnmheplecknaa
open Go.RowKit

theorem Fl.rg_key (w : Nat) : Fl.rg w = (Fl.key w).natAbs := by unfold Fl.key; split <;> omega
theorem Fl.key_wd (s : Bool) (r : Nat) (h : r < Fl.W) : Fl.key (Fl.wd s r) = if s then -(r : Int) else (r : Int) := by
  unfold Fl.key; rw [Fl.sg_wd s r h, Fl.rg_wd s r h]
/-- A step: one rung. -/
theorem Fl.key_next (x : Nat) (up : Bool) (hx : x < 2 * Fl.W) (h : Fl.rg x ≤ Fl.I) (hs : ¬ (Fl.rg x = Fl.I ∧ up = !Fl.sg x)) : Fl.key (Fl.next x up) = Fl.key x + (if up then 1 else -1) ∧ Fl.rg (Fl.next x up) ≤ Fl.I := by
  have hIW : Fl.I + 1 < Fl.W := by decide
  have key : Fl.key (Fl.next x up) = Fl.key x + (if up then 1 else -1) := by
    unfold Fl.next
    rw [if_neg (by omega), if_neg hs]
    have hw := Fl.wd_sg_rg x hx
    by_cases h0 : Fl.rg x = 0
    · rw [if_pos h0]
      have : Fl.key x = 0 := by unfold Fl.key; rw [h0]; simp
      rw [this]
      cases up <;> decide
    · rw [if_neg h0]
      cases hsg : Fl.sg x
      · rw [hsg] at hw
        have hxr : x = Fl.rg x := hw.symm
        have hk : Fl.key x = Fl.rg x := by unfold Fl.key; rw [hsg]; rfl
        cases up
        · rw [if_neg (by simp), hk]
          have : x - 1 = Fl.wd false (Fl.rg x - 1) := by unfold Fl.wd; simp; omega
          rw [this, Fl.key_wd _ _ (by omega)]; simp; omega
        · rw [if_pos (by simp), hk]
          have : x + 1 = Fl.wd false (Fl.rg x + 1) := by unfold Fl.wd; simp; omega
          rw [this, Fl.key_wd _ _ (by omega)]; simp
      · rw [hsg] at hw
        have hxr : x = Fl.W + Fl.rg x := hw.symm
        have hk : Fl.key x = -(Fl.rg x : Int) := by unfold Fl.key; rw [hsg]; rfl
        cases up
        · rw [if_pos (by simp), hk]
          have : x + 1 = Fl.wd true (Fl.rg x + 1) := by unfold Fl.wd; simp; omega
          rw [this, Fl.key_wd _ _ (by omega)]; simp; omega
        · rw [if_neg (by simp), hk]
          have : x - 1 = Fl.wd true (Fl.rg x - 1) := by unfold Fl.wd; simp; omega
          rw [this, Fl.key_wd _ _ (by omega)]; simp; omega
  refine ⟨key, ?_⟩
  rw [Fl.rg_key, key]
  have hk : Fl.key x = if Fl.sg x then -(Fl.rg x : Int) else (Fl.rg x : Int) := rfl
  cases hsg : Fl.sg x <;> rw [hsg] at hk hs <;> simp only [Bool.false_eq_true, if_false, if_true] at hk
  · cases up
    · simp only [Bool.false_eq_true, if_false]
      have : Fl.I ≠ 0 := by decide
      omega
    · simp only [if_true]
      have : Fl.rg x ≠ Fl.I := fun h2 => hs ⟨h2, rfl⟩
      omega
  · cases up
    · simp only [Bool.false_eq_true, if_false]
      have : Fl.rg x ≠ Fl.I := fun h2 => hs ⟨h2, rfl⟩
      omega
    · simp only [if_true]
      have : Fl.I ≠ 0 := by decide
      omega
/-- A step that moves, and the step back. -/
theorem Fl.step_back (x : Nat) (up : Bool) (hx : x < 2 * Fl.W) (h : Fl.rg x ≤ Fl.I) (hs : ¬ (Fl.rg x = Fl.I ∧ up = !Fl.sg x)) :
    FloatKind.f64.format.order (Fl.next x up) x = some (if up then .gt else .lt) ∧ Fl.Like (Fl.next (Fl.next x up) (!up)) x := by
  obtain ⟨h1, h2⟩ := Fl.key_next x up hx h hs
  constructor
  · rw [show FloatKind.f64.format.order (Fl.next x up) x = _ from Fl.order_key _ _ h2 h, h1, Fl.compare_int]
    cases up
    · simp only [Bool.false_eq_true, if_false]; rw [if_pos (by omega)]
    · simp only [if_true]; rw [if_neg (by omega), if_neg (by omega)]
  · have hs2 : ¬ (Fl.rg (Fl.next x up) = Fl.I ∧ (!up) = !Fl.sg (Fl.next x up)) := by
      rintro ⟨h3, h4⟩
      have h5 : Fl.sg (Fl.next x up) = up := by simpa using h4.symm
      have h6 : Fl.key (Fl.next x up) = if up then -(Fl.I : Int) else (Fl.I : Int) := by unfold Fl.key; rw [h5, h3]
      rw [h1] at h6
      have h7 : -(Fl.I : Int) ≤ Fl.key x ∧ Fl.key x ≤ Fl.I := by unfold Fl.key; split <;> omega
      cases up
      · simp only [Bool.false_eq_true, if_false] at h6; omega
      · simp only [if_true] at h6; omega
    obtain ⟨h3, h4⟩ := Fl.key_next (Fl.next x up) (!up) (Fl.next_lt x up hx) h2 hs2
    left
    refine ⟨h4, h, ?_⟩
    rw [h3, h1]
    cases up
    · simp only [Bool.false_eq_true, if_false, Bool.not_false, if_true]; omega
    · simp only [Bool.false_eq_true, if_false, Bool.not_true, if_true]; omega

/-! ### the nearest whole number -/
theorem Fl.whI_int (s : Bool) (k : Nat) (hk : k ≤ 9007199254740992) : Fl.isW (floatOfInt .f64 (Fl.sgi s k)) = true ∧ Fl.whI (floatOfInt .f64 (Fl.sgi s k)) = Fl.sgi s k ∧ floatOfInt .f64 (Fl.sgi s k) < 2 * Fl.W ∧ Fl.rg (floatOfInt .f64 (Fl.sgi s k)) < Fl.I ∧ Fl.vl (floatOfInt .f64 (Fl.sgi s k)) = if s then -((k * Fl.U : Nat) : Int) else ((k * Fl.U : Nat) : Int) := by
  rw [Fl.ofInt_sgi]
  obtain ⟨h1, h2⟩ := Fl.whole_rr k hk
  have hr := Fl.rg_rnd (s && decide (0 < k)) (k * Fl.U)
  have hw : Fl.wh (Fl.rnd (s && decide (0 < k)) (k * Fl.U)) = k := by
    unfold Fl.wh; rw [hr, h1]; exact Nat.mul_div_cancel _ Fl.U_pos
  have hc : Fl.rg (Fl.rnd (s && decide (0 < k)) (k * Fl.U)) ≤ Fl.c53 := by
    rw [hr, ← Fl.rv_le_iff, h1, Fl.rv_c53]; exact Nat.mul_le_mul_right _ hk
  have hy := isW_yes _ ⟨hc, by rw [hw, hr, h1]⟩
  refine ⟨hy, ?_, Fl.rnd_lt _ _, by rw [hr]; exact h2, ?_⟩
  · unfold Fl.whI; rw [hy, hw, Fl.sg_rnd]
    unfold Fl.sgi
    by_cases h : 0 < k
    · rw [decide_eq_true h, Bool.and_true]; rfl
    · have : k = 0 := by omega
      subst this; cases s <;> simp
  · unfold Fl.vl
    rw [hr, h1, Fl.sg_rnd]
    by_cases h : 0 < k
    · rw [decide_eq_true h, Bool.and_true]
    · have : k = 0 := by omega
      subst this; cases s <;> simp
theorem Fl.dist_nk_rep (x : Nat) (h : Fl.rg x ≤ Fl.c53) : Fl.rv (Fl.rr (Fl.dist (Fl.rv (Fl.rg x)) (Fl.nk x))) = Fl.dist (Fl.rv (Fl.rg x)) (Fl.nk x) ∧ Fl.rr (Fl.dist (Fl.rv (Fl.rg x)) (Fl.nk x)) < Fl.I := by
  have hc := Fl.c53_lt
  have hn := Fl.nk_near x
  by_cases hd : Fl.dist (Fl.rv (Fl.rg x)) (Fl.nk x) = 0
  · rw [hd, Fl.rr_zero, Fl.rv_zero]; exact ⟨rfl, by decide⟩
  · have hle : Fl.dist (Fl.rv (Fl.rg x)) (Fl.nk x) ≤ Fl.rv (Fl.rg x) := by
      rcases Nat.eq_zero_or_pos (Fl.nk x) with h0 | h0
      · unfold Fl.dist; rw [h0, Nat.zero_mul]; omega
      · obtain ⟨m, hm⟩ : ∃ m, Fl.nk x = m + 1 := ⟨Fl.nk x - 1, by omega⟩
        have h1 := hn.1
        have h3 := hn.2.2.1
        unfold Fl.dist
        rw [hm] at h1 h3 ⊢
        have e1 : (2 * (m + 1) + 1) * Fl.U = 2 * (m * Fl.U) + 3 * Fl.U := by
          rw [show 2 * (m + 1) + 1 = 2 * m + 3 by omega, Nat.add_mul, Nat.mul_assoc]
        have e2 : 2 * (m + 1) * Fl.U = 2 * (m * Fl.U) + 2 * Fl.U := by
          rw [show 2 * (m + 1) = 2 * m + 2 by omega, Nat.add_mul, Nat.mul_assoc]
        have e3 : (m + 1) * Fl.U = m * Fl.U + Fl.U := by rw [Nat.add_mul, Nat.one_mul]
        rw [e1] at h1; rw [e2] at h3; rw [e3]
        generalize m * Fl.U = q at *
        generalize Fl.U = u at *
        generalize Fl.rv (Fl.rg x) = p at *
        omega
    by_cases he : Fl.ex (Fl.rg x) ≤ 1074
    · exact Fl.dist_rep (Fl.rg x) (Fl.nk x) (by omega) hle he
    · exfalso
      have hx : Fl.rg x = Fl.c53 := by unfold Fl.ex Fl.B Fl.c53 at *; omega
      apply hd
      have hk : Fl.nk x = 9007199254740992 := by
        apply Fl.nk_is
        all_goals rw [hx, Fl.rv_c53]; generalize Fl.U = u at *; omega
      unfold Fl.dist
      rw [hx, Fl.rv_c53, hk]; omega
theorem Fl.dist_half (x : Nat) : 2 * Fl.dist (Fl.rv (Fl.rg x)) (Fl.nk x) ≤ Fl.U := by
  have hn := Fl.nk_near x
  have h1 := hn.1
  have h3 := hn.2.2.1
  unfold Fl.dist
  have e1 : (2 * Fl.nk x + 1) * Fl.U = 2 * (Fl.nk x * Fl.U) + Fl.U := by rw [Nat.add_mul, Nat.one_mul, Nat.mul_assoc]
  have e2 : 2 * Fl.nk x * Fl.U = 2 * (Fl.nk x * Fl.U) := Nat.mul_assoc _ _ _
  rw [e1] at h1; rw [e2] at h3
  generalize Fl.nk x * Fl.U = q at *
  generalize Fl.U = u at *
  generalize Fl.rv (Fl.rg x) = p at *
  omega
theorem Fl.isW_iff (x : Nat) (h : Fl.rg x ≤ Fl.c53) : Fl.isW x = decide (Fl.dist (Fl.rv (Fl.rg x)) (Fl.nk x) = 0) := by
  by_cases he : Fl.wh x * Fl.U = Fl.rv (Fl.rg x)
  · rw [isW_yes x ⟨h, he⟩]
    have hd : Fl.dist (Fl.rv (Fl.rg x)) (Fl.wh x) = 0 := by unfold Fl.dist; rw [he]; omega
    have : Fl.nk x = Fl.wh x := Fl.nk_lo x (.inl (by rw [hd]; have := Fl.U_pos; omega))
    rw [this, hd]; rfl
  · rw [isW_no x (fun h2 => he h2.2)]
    symm
    apply decide_eq_false
    intro hd
    apply he
    have hq : Fl.nk x * Fl.U = Fl.rv (Fl.rg x) := by unfold Fl.dist at hd; omega
    have : Fl.wh x = Fl.nk x := by unfold Fl.wh; rw [← hq]; exact Nat.mul_div_cancel _ Fl.U_pos
    rw [this, hq]
theorem Fl.whI_nk (x : Nat) (h : Fl.isW x = true) : Fl.whI x = Fl.sgi (Fl.sg x) (Fl.nk x) := by
  have hc : Fl.rg x ≤ Fl.c53 ∧ Fl.wh x * Fl.U = Fl.rv (Fl.rg x) := of_decide_eq_true h
  have hd : Fl.dist (Fl.rv (Fl.rg x)) (Fl.wh x) = 0 := by unfold Fl.dist; rw [hc.2]; omega
  have : Fl.nk x = Fl.wh x := Fl.nk_lo x (.inl (by rw [hd]; have := Fl.U_pos; omega))
  unfold Fl.whI; rw [h, this]; rfl

theorem Fl.key_of_vl (x y : Nat) (h : Fl.vl x = Fl.vl y) : Fl.key x = Fl.key y := by
  rw [Fl.vl_key, Fl.vl_key] at h; exact Fl.V_inj h
/-- The whole number and the distance come to x, one way or the other. -/
theorem Fl.near_back (x : Nat) (hx : x < 2 * Fl.W) (h : Fl.rg x ≤ Fl.c53) : ∃ s1 s2, floatBits .add .f64 (floatOfInt .f64 (Fl.sgi (Fl.sg x) (Fl.nk x))) (Fl.rr (Fl.dist (Fl.rv (Fl.rg x)) (Fl.nk x))) = some s1 ∧ floatBits .sub .f64 (floatOfInt .f64 (Fl.sgi (Fl.sg x) (Fl.nk x))) (Fl.rr (Fl.dist (Fl.rv (Fl.rg x)) (Fl.nk x))) = some s2 ∧ (∃ o, FloatKind.f64.format.order s1 x = some o ∧ (o = .eq ∨ FloatKind.f64.format.order s2 x = some .eq)) := by
  have hc := Fl.c53_lt
  have hIW := Fl.I_lt_W
  obtain ⟨_, _, f1, f2, f3⟩ := Fl.whI_int (Fl.sg x) (Fl.nk x) (Fl.nk_le x h)
  obtain ⟨d1, d2⟩ := Fl.dist_nk_rep x h
  generalize hf : floatOfInt .f64 (Fl.sgi (Fl.sg x) (Fl.nk x)) = f at *
  generalize hd : Fl.rr (Fl.dist (Fl.rv (Fl.rg x)) (Fl.nk x)) = d at *
  have hrd : Fl.rg d = d := Nat.mod_eq_of_lt (by omega)
  have hsd : Fl.sg d = false := by unfold Fl.sg; rw [Nat.div_eq_of_lt (by omega)]; rfl
  have hvd : Fl.vl d = (Fl.dist (Fl.rv (Fl.rg x)) (Fl.nk x) : Int) := by unfold Fl.vl; rw [hsd, hrd, d1]; rfl
  have hdl : d < 2 * Fl.W := by omega
  have a1 := Fl.add_fin f d f2 (by rw [hrd]; exact d2)
  have a2 : Ieee.double.sub f d = _ := (Fl.sub_any f d hdl).trans (Fl.add_fin f (Fl.ng d) f2 (by rw [Fl.rg_ng d hdl, hrd]; exact d2))
  rw [Fl.vl_ng d hdl] at a2
  refine ⟨_, _, a1, a2, ?_⟩
  have hvx : (Fl.vl x).natAbs = Fl.rv (Fl.rg x) := Fl.vl_abs x
  have hx2 : Fl.vl x = if Fl.sg x then -(Fl.rv (Fl.rg x) : Int) else (Fl.rv (Fl.rg x) : Int) := rfl
  have hmain : Fl.vl f + Fl.vl d = Fl.vl x ∨ Fl.vl f + -Fl.vl d = Fl.vl x := by
    rw [f3, hvd, hx2]
    unfold Fl.dist
    generalize Fl.nk x * Fl.U = q at *
    generalize Fl.rv (Fl.rg x) = p at *
    cases Fl.sg x
    · simp only [Bool.false_eq_true, if_false]; omega
    · simp only [if_true]; omega
  have hon : ∀ (p q : Bool) (n : Int), n = Fl.vl x → FloatKind.f64.format.order (Fl.rnd (Fl.sgn2 p q n) n.natAbs) x = some .eq := by
    intro p q n hn
    obtain ⟨v1, v2⟩ := Fl.vl_exact p q n (Fl.rg x) (by rw [hn, hvx]) (by omega)
    exact Fl.order_eq _ _ (by omega) (by omega) (Fl.key_of_vl _ _ (by rw [v1, hn]))
  rcases hmain with hm | hm
  · exact ⟨.eq, hon _ _ _ hm, .inl rfl⟩
  · refine ⟨_, Fl.order_key _ _ ?_ (by omega), .inr (hon _ _ _ hm)⟩
    rw [Fl.rg_rnd]; exact (Fl.rnd_rr false _).2
end Go.Proofs.Ytclnmheplecknaa

namespace Go.Proofs.Ytclnmheplecknaa
namespace Fl
open Ieee

theorem rootFrom_spec (n : Nat) : ∀ (todo root : Nat), root * root ≤ n → n < (root + 2 ^ todo) * (root + 2 ^ todo) → Datum.rootFrom n todo root * Datum.rootFrom n todo root ≤ n ∧ n < (Datum.rootFrom n todo root + 1) * (Datum.rootFrom n todo root + 1)
  | 0, root, h1, h2 => by
    unfold Datum.rootFrom
    exact ⟨h1, by simpa using h2⟩
  | todo + 1, root, h1, h2 => by
    unfold Datum.rootFrom
    dsimp only
    rw [Nat.one_shiftLeft]
    by_cases h : (root + 2 ^ todo) * (root + 2 ^ todo) ≤ n
    · rw [if_pos h]
      refine rootFrom_spec n todo _ h ?_
      have : root + 2 ^ todo + 2 ^ todo = root + 2 ^ (todo + 1) := by rw [Nat.pow_succ]; omega
      rw [this]; exact h2
    · rw [if_neg h]
      exact rootFrom_spec n todo _ h1 (by omega)
def isq (n : Nat) : Nat := Datum.rootFrom n (n.log2 / 2 + 1) 0
theorem isq_spec (n : Nat) : isq n * isq n ≤ n ∧ n < (isq n + 1) * (isq n + 1) := by
  refine rootFrom_spec n _ 0 (by omega) ?_
  rw [Nat.zero_add, ← Nat.pow_add]
  exact Nat.lt_of_lt_of_le Nat.lt_log2_self (Nat.pow_le_pow_right (by omega) (by omega))

/-- A root's digits, with one more that tells whether something is left. -/
def stickR (n : Nat) : Nat := 2 * isq n + (isq n * isq n != n).toNat
theorem stickR_cmp (n h : Nat) : compare (stickR n) (2 * h) = compare n (h * h) := by
  obtain ⟨h1, h2⟩ := isq_spec n
  unfold stickR
  generalize isq n = w at *
  have hb : (w * w != n).toNat ≤ 1 := by cases (w * w != n) <;> simp
  rw [compare_nat, compare_nat]
  rcases Nat.lt_trichotomy w h with h3 | h3 | h3
  · have : (w + 1) * (w + 1) ≤ h * h := Nat.mul_le_mul h3 h3
    rw [if_pos (by omega), if_pos (by omega)]
  · subst h3
    by_cases he : w * w = n
    · rw [he, show (n != n) = false by simp, Bool.toNat_false, if_neg (by omega), if_pos (by omega), if_neg (by omega), if_pos rfl]
    · rw [bne_iff_ne.2 he, Bool.toNat_true, if_neg (by omega), if_neg (by omega), if_neg (by omega), if_neg (by omega)]
  · have : (h + 1) * (h + 1) ≤ w * w := Nat.mul_le_mul h3 h3
    have e : (h + 1) * (h + 1) = h * h + 2 * h + 1 := by grind
    rw [if_neg (by omega), if_neg (by omega), if_neg (by omega), if_neg (by omega)]

/-- Whether the place is odd. -/
def par (a : Nat) : Nat := (nE (rg a) % 2).toNat
def sN (a : Nat) : Nat := nM (rg a) * 2 ^ (56 + par a)
def sM (a : Nat) : Nat := stickR (sN a)
def pR (a : Nat) : Int := (nE (rg a) - par a) / 2 - 566
def nearR (a : Nat) : Nat := double.nearest false (sM a) (pR a)
theorem par_le (a : Nat) : par a ≤ 1 := by unfold par; omega
theorem sqrt_near (a : Nat) (fa : rg a < I) (a0 : 0 < rg a) (hs : sg a = false) : double.sqrt a = some (nearR a) := by
  obtain ⟨c, c1, c2, c3, c4, c5⟩ := norm_up (rg a) a0
  unfold Format.sqrt
  rw [read_fin a fa, dF]
  unfold Datum.root
  dsimp only
  rw [if_neg c5, hs, if_neg (by simp)]
  simp only [Option.map_some, Format.write]
  have h1 : 2 * (52 + 2) - (mant (rg a)).log2 = 56 + c := by omega
  rw [h1]
  have h2 : ((-1074 + ((ex (rg a) : Nat) : Int) - ((56 + c : Nat) : Int)) % 2).toNat = par a := by unfold par; omega
  rw [h2, Nat.shiftLeft_eq]
  have h3 : mant (rg a) * 2 ^ (56 + c + par a) = sN a := by
    unfold sN
    rw [c2, Nat.mul_assoc, ← Nat.pow_add]
    congr 2; omega
  rw [h3]
  show some (double.nearest false (stickR (sN a)) _) = _
  unfold nearR sM
  congr 2
  unfold pR
  omega
theorem sM_range (a : Nat) (a0 : 0 < rg a) : sM a ≠ 0 ∧ sM a < 2 ^ 56 ∧ (sM a).log2 = 55 := by
  obtain ⟨m1, m2⟩ := nM_range (rg a) a0
  rw [B_eq] at *
  have hp := par_le a
  obtain ⟨h1, h2⟩ := isq_spec (sN a)
  have n1 : 2 ^ 54 * 2 ^ 54 ≤ sN a := by
    unfold sN
    calc 2 ^ 54 * 2 ^ 54 = 2 ^ 52 * 2 ^ 56 := by decide
      _ ≤ nM (rg a) * 2 ^ (56 + par a) := Nat.mul_le_mul m1 (Nat.pow_le_pow_right (by decide) (by omega))
  have n2 : sN a < 2 ^ 55 * 2 ^ 55 := by
    unfold sN
    calc nM (rg a) * 2 ^ (56 + par a) < 2 * 2 ^ 52 * 2 ^ (56 + par a) := Nat.mul_lt_mul_of_pos_right m2 (Nat.two_pow_pos _)
      _ ≤ 2 * 2 ^ 52 * 2 ^ 57 := Nat.mul_le_mul_left _ (Nat.pow_le_pow_right (by decide) (by omega))
      _ = 2 ^ 55 * 2 ^ 55 := by decide
  have w1 : 2 ^ 54 ≤ isq (sN a) := by
    rcases Nat.lt_or_ge (isq (sN a)) (2 ^ 54) with h | h
    · have : (isq (sN a) + 1) * (isq (sN a) + 1) ≤ 2 ^ 54 * 2 ^ 54 := Nat.mul_le_mul h h
      omega
    · exact h
  have w2 : isq (sN a) < 2 ^ 55 := by
    rcases Nat.lt_or_ge (isq (sN a)) (2 ^ 55) with h | h
    · exact h
    · have : 2 ^ 55 * 2 ^ 55 ≤ isq (sN a) * isq (sN a) := Nat.mul_le_mul h h
      omega
  have hb : (isq (sN a) * isq (sN a) != sN a).toNat ≤ 1 := by cases (isq (sN a) * isq (sN a) != sN a) <;> simp
  have e1 : 2 ^ 55 ≤ sM a := by unfold sM stickR; omega
  have e2 : sM a < 2 ^ 56 := by unfold sM stickR; omega
  have e0 : sM a ≠ 0 := by omega
  have l1 := (Nat.le_log2 e0).2 e1
  have l2 := (Nat.log2_lt e0).2 e2
  exact ⟨e0, e2, by omega⟩

theorem ra1 (m e J : Nat) : m * 2 ^ (e + (J + 56)) = 2 * (2 * m * 2 ^ e) * 2 ^ (J + 54) := by
  rw [Nat.pow_add 2 e, show J + 56 = 2 + (J + 54) by omega, Nat.pow_add 2 2]
  generalize (2 : Nat) ^ (J + 54) = A
  grind
theorem ra2 (M q J : Nat) : M * 2 ^ (J + 56 + q) = M * 2 ^ (56 + q) * 2 ^ J := by
  rw [show J + 56 + q = (56 + q) + J by omega, Nat.pow_add 2 (56 + q), Nat.mul_assoc]
theorem ra3 (m e J : Nat) : m * m * 2 ^ (2 * e + (J + 2)) = 2 * m * 2 ^ e * (2 * m * 2 ^ e) * 2 ^ J := by
  rw [show 2 * e + (J + 2) = e + e + 2 + J by omega, Nat.pow_add 2 (e + e + 2), Nat.pow_add 2 (e + e), Nat.pow_add 2 e]
  generalize (2 : Nat) ^ J = A
  grind
/-- The exact root against a float, by the fused multiplication. -/
theorem root_cmp (a r : Nat) (e J : Nat) (hJ : J = 964) (he : ex r = e + (J + 56)) : compare (nM (rg a) * 2 ^ (J + 56 + par a)) (mant r * mant r * 2 ^ (2 * e + (J + 2))) = cmpR (sM a) (-56) r := by
  have hs := stickR_cmp (sN a) (2 * mant r * 2 ^ e)
  unfold cmpR rv sM
  rw [he, show (-56 + 1074 : Int).toNat = J + 54 by omega, show (-(-56 + 1074) : Int).toNat = 0 from rfl, Nat.pow_zero, Nat.mul_one, ra1 (mant r) e J, ra2 (nM (rg a)) (par a) J, ra3 (mant r) e J, compare_mul _ _ _ (Nat.two_pow_pos _), compare_mul _ _ _ (Nat.two_pow_pos _), hs]
  rfl
/-- Half of a fraction. -/
theorem half_frx (x : Nat) (h0 : 0 < rg x) (hs : sg x = false) : double.div (frx x) 4611686018427387904 = some (1020 * B + nM (rg x)) := by
  obtain ⟨s1, s2, s3, s4, s5, s6⟩ := frx_facts x h0
  obtain ⟨m1, m2⟩ := nM_range (rg x) h0
  have hnB : ¬ rg (frx x) < B := by rw [s2]; unfold B at *; omega
  have u1 : nM (rg (frx x)) = nM (rg x) := by
    have : nM (rg (frx x)) = mant (rg (frx x)) := by unfold nM; rw [if_neg hnB]
    rw [this, s4]
  have u2 : nE (rg (frx x)) = 1021 := by unfold nE; rw [if_neg hnB, s5]; rfl
  have u3 : 0 < rg (frx x) := by have : 0 < B := by decide
                                 omega
  rw [div_near (frx x) 4611686018427387904 s3 (by decide) u3 (by decide)]
  have hN : nM (rg 4611686018427387904) = B := by decide
  have hE : nE (rg 4611686018427387904) = 1023 := by decide
  have hd : dM (frx x) 4611686018427387904 = nM (rg x) * 2 ^ 3 := by
    unfold dM
    rw [u1, hN, show nM (rg x) * 2 ^ 54 = nM (rg x) * 4 * B by rw [Nat.mul_assoc]; rfl]
    have hBp : 0 < B := by decide
    unfold stick
    rw [Nat.mul_div_cancel _ hBp, Nat.mul_mod_left]
    simp; omega
  have hp : pD (frx x) 4611686018427387904 = -57 := by unfold pD; rw [u2, hE]; rfl
  unfold nearQ
  rw [hd, hp, s1, hs, show sg 4611686018427387904 = false from by decide]
  have hc := nearest_congr (false ^^ false) (nM (rg x) * 2 ^ 3) (nM (rg x)) (-57) (-1074 + ((1020 : Nat) : Int)) 0 3 (by rw [Nat.pow_zero, Nat.mul_one]) (by decide)
  rw [hc]
  have he := (nearest_exact (false ^^ false) (nM (rg x)) 1020 m1 m2 (by decide)).1
  rw [he]; rfl
end Fl
end Go.Proofs.Ytclnmheplecknaa

namespace Go.Proofs.Ytclnmheplecknaa
open Go.RowKit

/-- The root of a finite float above 0, to a side. -/
def Fl.sqrtF (a : Nat) (up : Bool) : Nat := Fl.sideW (Fl.nearR a) (Fl.cmpR (Fl.sM a) (Fl.pR a) (Fl.rg (Fl.nearR a))) (Fl.next (Fl.nearR a) up) up
/-- What Sqrt tells. -/
def Fl.sqrtS (a : Nat) (up : Bool) : Option Nat := if Fl.rg a < Fl.I ∧ 0 < Fl.rg a ∧ Fl.sg a = false then some (Fl.sqrtF a up) else Ieee.double.sqrt a

theorem run_sqrt_any (x : Nat) (w : World) : ∃ s w1, (callFunc 149 #[.float .f64 x]).run Try.prog w = .ok (.value (.float .f64 s)) w1 ∧ Fl.Is (Ieee.double.sqrt x) s ∧ (w1 = w ∨ w1 = w.drew) := by
  have hx : Extern.MathSqrt.sqrt #[.float .f64 x] = (match FloatKind.f64.format.sqrt x with | some r => pure (.float .f64 r) | none => do pure (.float .f64 (← choose (.nanBits .f64 x x)))) := rfl
  rw [run_callFunc_extern (e := Extern.MathSqrt.sqrt) Try.func149 (by kernel_rfl) (by kernel_rfl) (by kernel_rfl) (by kernel_rfl), hx]
  cases h : FloatKind.f64.format.sqrt x with
  | some r =>
    have h' : Ieee.double.sqrt x = some r := h
    exact ⟨r, w, rfl, by rw [h']; rfl, .inl rfl⟩
  | none =>
    have h' : Ieee.double.sqrt x = none := h
    refine ⟨_, w.drew, ?_, by rw [h']; exact Fl.nan_draw (w.tape w.drawn (.nanBits .f64 x x)), .inr rfl⟩
    simp [Question.forced, Question.cut, Result.andThen]
theorem msqrt_any (x : Nat) (w : World) : Calls Try.prog 116 #[.float .f64 x] w (FlPost (Ieee.double.sqrt x) w) := by
  obtain ⟨s, w1, hr, hs, hw1⟩ := run_sqrt_any x w
  have HD : Hid (Dr w w1) := by rcases hw1 with rfl | rfl; exact Dr.refl _; exact Dr.drew _
  have HS : Hid (Fl.Is (Ieee.double.sqrt x) s) := hs
  clear hs hw1
  go_enter Try.func116, Try.ntmps116
  go_wp2
  go_ret
  exact ⟨s, rfl, HS.out, HD.out⟩

theorem nearR_lt (a : Nat) : Fl.nearR a < 2 * Fl.W := by
  obtain ⟨r, h, _⟩ := Fl.nearest_word false (Fl.sM a) (Fl.pR a)
  unfold Fl.nearR; rw [h]; exact Fl.wd_lt _ _ (Fl.min_I_lt r)

/-- What is below 2^1024, in a wide range, is nearest to a float below infinity. -/
theorem Fl.mid_fin (s : Bool) (mag : Nat) (p : Int) (k : Nat) (h0 : mag ≠ 0) (h : mag < 2 ^ k) (hp : p + k ≤ 1000) (hp2 : -1074 ≤ p) : Fl.rg (Ieee.double.nearest s mag p) < Fl.I ∧ 0 < Fl.rg (Ieee.double.nearest s mag p) := by
  rw [Fl.nearest_units s mag p hp2, Fl.rg_rnd]
  have hpos : 0 < mag * 2 ^ (p + 1074).toNat := Nat.mul_pos (Nat.pos_of_ne_zero h0) (Nat.two_pow_pos _)
  refine ⟨?_, Fl.rr_pos _ hpos⟩
  obtain ⟨q, q1, q2⟩ := Fl.rnd_spec false (mag * 2 ^ (p + 1074).toNat)
  have hrr : Fl.rr (mag * 2 ^ (p + 1074).toNat) = min q Fl.I := q1
  have hE := Fl.E_eq
  have hr := Fl.rv_of (Fl.E + 948) Fl.B (by unfold Fl.B; omega) (.inr (Nat.le_refl _))
  have hc : (Fl.E + 948) * Fl.B + Fl.B = 2023 * Fl.B := by rw [hE, ← Nat.succ_mul]
  rw [hc] at hr
  have hq : q ≤ 2023 * Fl.B := by
    have hex := Fl.Rnd.exact (2023 * Fl.B) 0
    refine q2.mono hex ?_
    rw [hr, Nat.pow_zero, Nat.mul_one, Nat.mul_one, Nat.mul_one]
    have h1 : mag * 2 ^ (p + 1074).toNat ≤ 2 ^ k * 2 ^ (p + 1074).toNat := Nat.mul_le_mul_right _ (Nat.le_of_lt h)
    refine Nat.le_trans h1 ?_
    rw [Fl.B_eq, ← Nat.pow_add, ← Nat.pow_add]
    refine Fl.pow_le ?_
    generalize Fl.E = e at *
    clear hc hr hex q1 q2 hrr
    omega
  rw [hrr]
  exact Nat.lt_of_le_of_lt (Nat.min_le_left _ _) (Nat.lt_of_le_of_lt hq (by decide))

/-- The scaled operand: the fraction, or half of it. -/
theorem Fl.sqrt_arg (a x : Nat) (a0 : 0 < Fl.rg a) (hx : x = (1020 + Fl.par a) * Fl.B + Fl.nM (Fl.rg a)) : x < Fl.I ∧ Fl.rg x = x ∧ Fl.sg x = false ∧ 0 < Fl.rg x ∧ Fl.mant x = Fl.nM (Fl.rg a) ∧ Fl.ex x = 1020 + Fl.par a ∧ Fl.nM (Fl.rg x) = Fl.nM (Fl.rg a) ∧ Fl.nE (Fl.rg x) = 1020 + Fl.par a := by
  obtain ⟨m1, m2⟩ := Fl.nM_range (Fl.rg a) a0
  have hpar := Fl.par_le a
  have hBp : 0 < Fl.B := by decide
  have hp45 : 1020 + Fl.par a ≤ 2045 := by clear hx m1 m2; omega
  have xI : x < Fl.I := by rw [hx]; exact Fl.rung_lt _ _ hp45 m2
  have xW : x < Fl.W := Nat.lt_trans xI Fl.I_lt_W
  have hxr : Fl.rg x = x := Nat.mod_eq_of_lt xW
  have hxs : Fl.sg x = false := by unfold Fl.sg; rw [Nat.div_eq_of_lt xW]; rfl
  have x0 : 0 < Fl.rg x := by rw [hxr, hx]; exact Nat.lt_of_lt_of_le (Nat.lt_of_lt_of_le hBp m1) (Nat.le_add_left _ _)
  have hmx : Fl.mant x = Fl.nM (Fl.rg a) := by rw [hx]; exact Fl.mant_of _ _ m2 (.inr m1)
  have hex : Fl.ex x = 1020 + Fl.par a := by rw [hx]; exact Fl.ex_of _ _ m2 (.inr m1)
  have hnB : ¬ Fl.rg x < Fl.B := by
    rw [hxr, hx]
    exact Nat.not_lt.2 (Nat.le_trans m1 (Nat.le_add_left _ _))
  have hnM : Fl.nM (Fl.rg x) = Fl.nM (Fl.rg a) := by
    have : Fl.nM (Fl.rg x) = Fl.mant (Fl.rg x) := by
      conv => lhs; unfold Fl.nM
      rw [if_neg hnB]
    rw [this, hxr, hmx]
  have hnE : Fl.nE (Fl.rg x) = 1020 + Fl.par a := by unfold Fl.nE; rw [if_neg hnB, hxr, hex]; rfl
  exact ⟨xI, hxr, hxs, x0, hmx, hex, hnM, hnE⟩
theorem Fl.cmpS_false (c : Ordering) : Fl.cmpS false c = c := rfl
/-- The scaled root and its error. -/
theorem Fl.sqrt_scaled (a x : Nat) (a0 : 0 < Fl.rg a) (hx : x = (1020 + Fl.par a) * Fl.B + Fl.nM (Fl.rg a)) : ∃ q off, Ieee.double.sqrt x = some q ∧ q = Ieee.double.nearest false (Fl.sM a) (-56) ∧ q < 2 * Fl.W ∧ Fl.rg q < Fl.I ∧ 0 < Fl.rg q ∧ Ieee.double.fma (Fl.ng q) q x = some off ∧ FloatKind.f64.format.order off 0 = some (Fl.cmpR (Fl.sM a) (-56) (Fl.rg q)) := by
  obtain ⟨xI, hxr, hxs, x0, hmx, hex, hnM, hnE⟩ := Fl.sqrt_arg a x a0 hx
  clear hx
  have hpar := Fl.par_le a
  have hpx : Fl.par x = Fl.par a := by
    have : Fl.par x = (Fl.nE (Fl.rg x) % 2).toNat := rfl
    rw [this, hnE]; omega
  have hsM : Fl.sM x = Fl.sM a := by unfold Fl.sM Fl.sN; rw [hnM, hpx]
  have hpR : Fl.pR x = -56 := by unfold Fl.pR; rw [hnE, hpx]; omega
  have hsq : Ieee.double.sqrt x = some (Ieee.double.nearest false (Fl.sM a) (-56)) := by
    rw [Fl.sqrt_near x (by rw [hxr]; exact xI) x0 hxs]; unfold Fl.nearR; rw [hsM, hpR]
  obtain ⟨g0, g1, g2⟩ := Fl.sM_range a a0
  obtain ⟨q1, q2, q3⟩ := Fl.small_fin false (Fl.sM a) (-56) 56 g0 g1 (by decide) (by decide)
  obtain ⟨K, hK⟩ : ∃ K : Nat, K = 1018 := ⟨_, rfl⟩
  have hK2 : ((K : Nat) : Int) - ((0 : Nat) : Int) = -56 + 1074 := by omega
  obtain ⟨rr, w1, w2⟩ := Fl.nearest_rnd false (Fl.sM a) (-56) K 0 hK2
  have hql : Ieee.double.nearest false (Fl.sM a) (-56) < 2 * Fl.W := by
    rw [Fl.nearest_units _ _ _ (by decide)]; exact Fl.rnd_lt _ _
  have hrg : Fl.rg (Ieee.double.nearest false (Fl.sM a) (-56)) = min rr Fl.I := by rw [w1, Fl.rg_wd _ _ (Fl.min_I_lt rr)]
  obtain ⟨_, hrr⟩ := Fl.of_min hrg q1
  rw [← hrr] at w2
  generalize hQ : Ieee.double.nearest false (Fl.sM a) (-56) = r at *
  have hl := Fl.near_lead (Fl.sM a) (Fl.rg r) K 0 (-56) g0 hK2 w2 q2
  rw [g2] at hl
  clear w2 w1 hrr hrg g1 hsq
  have hsq : Ieee.double.sqrt x = some r := by
    rw [Fl.sqrt_near x (by rw [hxr]; exact xI) x0 hxs]; unfold Fl.nearR; rw [hsM, hpR, hQ]
  have hBr : ¬ Fl.rg r < Fl.B := by
    intro h
    have : Fl.nE (Fl.rg r) ≤ 0 := by unfold Fl.nE; rw [if_pos h]; omega
    omega
  have hexr : ((Fl.ex (Fl.rg r) : Nat) : Int) = Fl.nE (Fl.rg r) := by unfold Fl.nE; rw [if_neg hBr]
  obtain ⟨e, he⟩ : ∃ e, Fl.ex (Fl.rg r) = e + 1020 := ⟨Fl.ex (Fl.rg r) - 1020, by omega⟩
  have p1 : Fl.pl (Fl.ng r) = (e : Int) - 54 := by unfold Fl.pl; rw [Fl.rg_ng r hql, he]; omega
  have p2 : Fl.pl r = (e : Int) - 54 := by unfold Fl.pl; rw [he]; omega
  have hfma := Fl.fma_fin (Fl.ng r) r x (by rw [Fl.rg_ng r hql]; exact q1) q1 (by rw [hxr]; exact xI) (by rw [p1, p2]; omega)
  refine ⟨r, _, hsq, rfl, hql, q1, q2, hfma, ?_⟩
  rw [Fl.ord0 _ (by rw [Fl.rg_rnd]; exact (Fl.rnd_rr false _).2), Fl.key_rnd]
  refine congrArg some ?_
  obtain ⟨J, hJ⟩ : ∃ J : Nat, J = 964 := ⟨_, rfl⟩
  have hcmp := Fl.root_cmp a (Fl.rg r) e J hJ (by rw [he]; omega)
  rw [← hcmp]
  unfold Fl.fmaT
  rw [Fl.rg_ng r hql, p1, p2, Fl.sg_ng r hql, q3]
  have hva : Fl.vl x = (if false then -((Fl.nM (Fl.rg a) * 2 ^ (J + 56 + Fl.par a) : Nat) : Int) else ((Fl.nM (Fl.rg a) * 2 ^ (J + 56 + Fl.par a) : Nat) : Int)) := by
    unfold Fl.vl Fl.rv; rw [hxs, hxr, hmx, hex, show 1020 + Fl.par a = J + 56 + Fl.par a by omega]
  rw [hva, show ((e : Int) - 54 + ((e : Int) - 54) + 1074).toNat = 2 * e + (J + 2) by omega]
  have := Fl.cmp_signed2 false (Fl.mant (Fl.rg r) * Fl.mant (Fl.rg r) * 2 ^ (2 * e + (J + 2))) (Fl.nM (Fl.rg a) * 2 ^ (J + 56 + Fl.par a))
  rw [show (!false ^^ false) = !false from rfl]
  rw [Fl.cmpS_false] at this
  exact this

theorem sqrt_not (a : Nat) (up : Bool) (w : World) (ha : a < 2 * Fl.W) (h : ¬ (Fl.rg a < Fl.I ∧ 0 < Fl.rg a ∧ Fl.sg a = false)) :
    Calls Try.prog 81 #[.float .f64 a, .bool up] w (FlPost (Ieee.double.sqrt a) w) := by
  by_cases hf : Fl.rg a < Fl.I
  · have ho : FloatKind.f64.format.order a 0 = some .lt ∨ FloatKind.f64.format.order a 0 = some .eq := by
      by_cases h0 : Fl.rg a = 0
      · exact .inr (Fl.cmp0_eq a h0)
      · left
        refine Fl.cmp0_lt a (by omega) (by omega) ?_
        cases hs : Fl.sg a
        · exact absurd ⟨hf, by omega, hs⟩ h
        · rfl
    clear h
    rcases ho with ho | ho
    all_goals
      go_enter Try.func81, Try.ntmps81
      go_wp2_with fail
      refine (msqrt_any a _).mono ?_
      rintro e w1 ⟨s, rfl, hs, hd⟩
      have HS := Lib.hid hs
      have HD := Lib.hid hd
      clear hs hd
      go_wp2_with fail
      refine (finite_yes a _ ha hf).mono ?_
      rintro e w' ⟨rfl, rfl⟩
      go_wp2
      go_ret
      exact ⟨s, rfl, HS.out, HD.out⟩
  · clear h
    go_enter Try.func81, Try.ntmps81
    go_wp2_with fail
    refine (msqrt_any a _).mono ?_
    rintro e w1 ⟨s, rfl, hs, hd⟩
    have HS := Lib.hid hs
    have HD := Lib.hid hd
    clear hs hd
    go_wp2_with fail
    refine (finite_no a _ hf).mono ?_
    rintro e w2 ⟨rfl, hd⟩
    have HD2 := Lib.hid hd
    clear hd
    go_wp2
    go_ret
    exact ⟨s, rfl, HS.out, HD.out.trans HD2.out⟩

end Go.Proofs.Ytclnmheplecknaa

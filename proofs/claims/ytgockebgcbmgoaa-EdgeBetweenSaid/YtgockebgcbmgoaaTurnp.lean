/-
  Plain facts: what Add, Mul and Div tell with all signs turned, and in the other order; one way tells Go's own.
-/
import Derived.Test.YtgockebgcbmgoaaDiv
set_option linter.unusedVariables false
set_option linter.unusedSimpArgs false
namespace Go.Proofs.Ytgockebgcbmgoaa
namespace Fl
open Ieee

theorem read_ng (w : Nat) (h : w < 2 * W) : double.read (ng w) = (double.read w).opposite := by
  rcases Nat.lt_trichotomy (rg w) I with h1 | h1 | h1
  · rw [read_fin w h1, read_fin (ng w) (by rw [rg_ng w h]; exact h1), rg_ng w h, sg_ng w h]; rfl
  · rw [read_inf w h1, read_inf (ng w) (by rw [rg_ng w h]; exact h1), sg_ng w h]; rfl
  · rw [read_nan w h1, read_nan (ng w) (by rw [rg_ng w h]; exact h1), rg_ng w h, sg_ng w h]; rfl
theorem nearest_ng (s : Bool) (m : Nat) (p : Int) : double.nearest (!s) m p = ng (double.nearest s m p) := by
  obtain ⟨r, e1, f1⟩ := nearest_word (!s) m p
  obtain ⟨q, e2, f2⟩ := nearest_word s m p
  have h : r = q := (f1 (-(p + 1074)).toNat _ (by omega) rfl).eq (f2 (-(p + 1074)).toNat _ (by omega) rfl)
  rw [e1, e2, h, ng_wd _ _ (min_I_lt q)]
theorem rnd_ng (s : Bool) (n : Nat) : rnd (!s) n = ng (rnd s n) := nearest_ng s n (-1074)
theorem write_opp (d : Datum) (h : d.isNaN = false) : double.write d.opposite = ng (double.write d) := by
  cases d with
  | number s m p => exact nearest_ng s m p
  | infinity s =>
    unfold Datum.opposite Format.write
    dsimp only
    rw [dI, word_eq, word_eq, ng_wd _ _ I_lt_W]
  | nan s t => cases h
theorem product_opp (a b : Datum) : a.opposite.product b = (a.product b).map Datum.opposite := by
  cases a <;> cases b <;> simp only [Datum.opposite, Datum.product, Option.map_none, Option.map_some, Bool.not_xor]
  all_goals (try split) <;> simp [Datum.opposite, Bool.not_xor]
theorem product_num (a b d : Datum) (h : a.product b = some d) : d.isNaN = false := by
  cases a <;> cases b <;> simp only [Datum.product] at h
  all_goals first | cases h; done | (cases h; rfl) | (split at h <;> cases h <;> rfl)
theorem quotient_opp (n : Nat) (a b : Datum) : a.opposite.quotient n b = (a.quotient n b).map Datum.opposite := by
  cases a <;> cases b <;> simp only [Datum.opposite, Datum.quotient, Option.map_none, Option.map_some, Bool.not_xor]
  all_goals (try split) <;> (try split) <;> simp [Datum.opposite, Bool.not_xor]
theorem quotient_num (n : Nat) (a b d : Datum) (h : a.quotient n b = some d) : d.isNaN = false := by
  cases a <;> cases b <;> simp only [Datum.quotient] at h
  all_goals first | cases h; done | (cases h; rfl) | (split at h <;> (try split at h) <;> cases h <;> rfl)
theorem mul_ng (a b : Nat) (ha : a < 2 * W) : double.mul (ng a) b = (double.mul a b).map ng := by
  unfold Format.mul
  rw [read_ng a ha, product_opp]
  cases h : (double.read a).product (double.read b) with
  | none => rfl
  | some d => simp only [Option.map_some]; rw [write_opp d (product_num _ _ d h)]
theorem div_ng (a b : Nat) (ha : a < 2 * W) : double.div (ng a) b = (double.div a b).map ng := by
  unfold Format.div
  rw [read_ng a ha, quotient_opp]
  cases h : (double.read a).quotient (double.fractionBits + 2) (double.read b) with
  | none => rfl
  | some d => simp only [Option.map_some]; rw [write_opp d (quotient_num _ _ _ d h)]
theorem product_comm (a b : Datum) : a.product b = b.product a := by
  cases a <;> cases b <;> simp only [Datum.product]
  all_goals first
    | rw [Bool.xor_comm, Nat.mul_comm, Int.add_comm]
    | rw [Bool.xor_comm]
theorem mul_comm' (a b : Nat) : double.mul a b = double.mul b a := by unfold Format.mul; rw [product_comm]
theorem sum_comm (a b : Datum) : a.sum b = b.sum a := by
  cases a <;> cases b <;> simp only [Datum.sum]
  all_goals first
    | rw [Int.min_comm, Int.add_comm, Bool.and_comm]
    | (rename_i s t; cases s <;> cases t <;> simp)
theorem add_comm' (a b : Nat) : double.add a b = double.add b a := by unfold Format.add; rw [sum_comm]
/-- A sum with an operand that is not finite. -/
theorem add_ng_not (a b : Nat) (ha : a < 2 * W) (hb : b < 2 * W) (h : ¬ (rg a < I ∧ rg b < I)) : double.add (ng a) (ng b) = (double.add a b).map ng := by
  have key : ∀ x y : Datum, (∀ s m p t n q, ¬ (x = .number s m p ∧ y = .number t n q)) → (x.opposite.sum y.opposite).map double.write = ((x.sum y).map double.write).map ng := by
    intro x y hxy
    cases x <;> cases y <;> simp only [Datum.opposite, Datum.sum, Option.map_none, Option.map_some]
    · rename_i s m p t n q; exact absurd ⟨rfl, rfl⟩ (hxy s m p t n q)
    · rename_i t; have := write_opp (.infinity t) rfl; unfold Datum.opposite at this; rw [this]
    · rename_i t _ _ _; have := write_opp (.infinity t) rfl; unfold Datum.opposite at this; rw [this]
    · rename_i s t
      have := write_opp (.infinity s) rfl
      unfold Datum.opposite at this
      cases s <;> cases t <;> simp_all
  unfold Format.add
  rw [read_ng a ha, read_ng b hb]
  apply key
  intro s m p t n q ⟨h1, h2⟩
  apply h
  constructor
  · rcases Nat.lt_trichotomy (rg a) I with h3 | h3 | h3
    · exact h3
    · rw [read_inf a h3] at h1; cases h1
    · rw [read_nan a h3] at h1; cases h1
  · rcases Nat.lt_trichotomy (rg b) I with h3 | h3 | h3
    · exact h3
    · rw [read_inf b h3] at h2; cases h2
    · rw [read_nan b h3] at h2; cases h2

/-! ### the steps to a side, turned -/
theorem greatW_ng (x : Nat) (up : Bool) (hx : x < 2 * W) : greatW (ng x) (!up) = ng (greatW x up) := by
  unfold greatW
  rw [sg_ng x hx]
  have hm : (9218868437227405311 : Nat) < W := by decide
  by_cases h : up = !sg x
  · rw [if_pos h, if_pos (by rw [h])]
  · rw [if_neg h, if_neg (fun h2 => h (by simpa using h2)), ng_wd _ _ hm]
theorem next_turn (x : Nat) (up : Bool) (hx : x < 2 * W) : next (ng x) (!up) = ng (next x up) := by
  cases up
  · have := next_ng x hx
    rw [← this, ng_ng _ (next_lt _ _ (ng_lt x hx))]; rfl
  · have := next_ng (ng x) (ng_lt x hx)
    rw [ng_ng x hx] at this
    exact this.symm
theorem sideW_ng (x : Nat) (c : Ordering) (up : Bool) (hx : x < 2 * W) : sideW (ng x) c.swap (next (ng x) (!up)) (!up) = ng (sideW x c (next x up) up) := by
  rw [next_turn x up hx]
  unfold sideW
  cases c <;> cases up <;> simp
theorem cmpS_not (s : Bool) (c : Ordering) : cmpS (!s) c = (cmpS s c).swap := by unfold cmpS; cases s <;> simp
theorem compare_ng (a b : Int) : compare (-a) (-b) = (compare a b).swap := by
  rw [compare_int, compare_int]
  rcases Int.lt_trichotomy a b with h | h | h
  · rw [if_neg (by omega), if_neg (by omega), if_pos h]; rfl
  · subst h; simp
  · rw [if_pos (by omega), if_neg (by omega), if_neg (by omega)]; rfl

theorem nearS_ng (a b : Nat) (ha : a < 2 * W) (hb : b < 2 * W) (h : vl a + vl b ≠ 0) : nearS (ng a) (ng b) = ng (nearS a b) := by
  unfold nearS
  rw [vl_ng a ha, vl_ng b hb, show -vl a + -vl b = -(vl a + vl b) by omega, Int.natAbs_neg, ← rnd_ng]
  congr 1
  unfold sgn2
  rw [if_neg (by omega), if_neg h, ← decide_not]
  congr 1
  apply propext
  omega
theorem rg_nearS_ng (a b : Nat) (ha : a < 2 * W) (hb : b < 2 * W) : rg (nearS (ng a) (ng b)) = rg (nearS a b) := by
  unfold nearS
  rw [vl_ng a ha, vl_ng b hb, show -vl a + -vl b = -(vl a + vl b) by omega, Int.natAbs_neg, rg_rnd, rg_rnd]
theorem addF_ng (a b : Nat) (up : Bool) (ha : a < 2 * W) (hb : b < 2 * W) : addF (ng a) (ng b) (!up) = ng (addF a b up) := by
  have hr := rg_nearS_ng a b ha hb
  have hnl := nearS_lt a b
  unfold addF
  rw [hr]
  by_cases h0 : rg (nearS a b) = 0
  · have h1 : ¬ rg (nearS a b) = I := by rw [h0]; decide
    rw [if_neg h1, if_neg h1, if_pos h0, if_pos h0, rg_ng a ha, sg_ng a ha, sg_ng b hb]
    by_cases hz : rg a = 0 ∧ sg a = sg b
    · rw [if_pos hz, if_pos ⟨hz.1, by rw [hz.2]⟩]
    · rw [if_neg hz, if_neg (fun h2 => hz ⟨h2.1, by simpa using h2.2⟩)]
      cases up <;> decide
  · have hn : vl a + vl b ≠ 0 := by
      intro h
      apply h0
      unfold nearS
      rw [h, rg_rnd]; exact rr_zero
    rw [nearS_ng a b ha hb hn]
    by_cases h1 : rg (nearS a b) = I
    · rw [if_pos h1, if_pos h1, greatW_ng _ _ hnl]
    · rw [if_neg h1, if_neg h1, if_neg h0, if_neg h0, vl_ng a ha, vl_ng b hb, vl_ng _ hnl, show -vl a + -vl b = -(vl a + vl b) by omega, compare_ng, sideW_ng _ _ _ hnl]
theorem addS_ng (a b : Nat) (up : Bool) (ha : a < 2 * W) (hb : b < 2 * W) : addS (ng a) (ng b) (!up) = (addS a b up).map ng := by
  unfold addS
  rw [rg_ng a ha, rg_ng b hb]
  by_cases h : rg a < I ∧ rg b < I
  · rw [if_pos h, if_pos h, addF_ng a b up ha hb]; rfl
  · rw [if_neg h, if_neg h, add_ng_not a b ha hb h]
theorem addF_comm (a b : Nat) (up : Bool) (ha : a < 2 * W) (hb : b < 2 * W) : addF a b up = addF b a up := by
  unfold addF
  rw [nearS_comm a b, Int.add_comm (vl a)]
  by_cases h1 : rg (nearS b a) = I
  · rw [if_pos h1, if_pos h1]
  · rw [if_neg h1, if_neg h1]
    by_cases h0 : rg (nearS b a) = 0
    · rw [if_pos h0, if_pos h0]
      have hab := (nearS_zero b a h0).2
      by_cases hz : rg a = 0 ∧ sg a = sg b
      · rw [if_pos hz, if_pos ⟨by omega, hz.2.symm⟩]
        exact word_ext ha hb hz.2 hab
      · have hz2 : ¬ (rg b = 0 ∧ sg b = sg a) := fun h2 => hz ⟨by omega, h2.2.symm⟩
        rw [if_neg hz, if_neg hz2]
    · rw [if_neg h0, if_neg h0]
theorem addS_comm (a b : Nat) (up : Bool) (ha : a < 2 * W) (hb : b < 2 * W) : addS a b up = addS b a up := by
  unfold addS
  by_cases h : rg a < I ∧ rg b < I
  · rw [if_pos h, if_pos h.symm, addF_comm a b up ha hb]
  · rw [if_neg h, if_neg (fun h2 => h h2.symm), add_comm']

theorem nearM_ng (a b : Nat) (ha : a < 2 * W) : nearM (ng a) b = ng (nearM a b) ∧ mM (ng a) b = mM a b ∧ pM (ng a) b = pM a b := by
  have h1 : mM (ng a) b = mM a b := by unfold mM; rw [rg_ng a ha]
  have h2 : pM (ng a) b = pM a b := by unfold pM; rw [rg_ng a ha]
  refine ⟨?_, h1, h2⟩
  unfold nearM
  rw [h1, h2, sg_ng a ha, Bool.not_xor, nearest_ng]
theorem mulF_ng (a b : Nat) (up : Bool) (ha : a < 2 * W) : mulF (ng a) b (!up) = ng (mulF a b up) := by
  obtain ⟨h1, h2, h3⟩ := nearM_ng a b ha
  have hl := nearM_lt a b
  unfold mulF
  rw [h1, h2, h3, rg_ng _ hl, sg_ng a ha, Bool.not_xor, cmpS_not]
  by_cases h : rg (nearM a b) = I
  · rw [if_pos h, if_pos h, greatW_ng _ _ hl]
  · rw [if_neg h, if_neg h, sideW_ng _ _ _ hl]
theorem mulS_ng (a b : Nat) (up : Bool) (ha : a < 2 * W) : mulS (ng a) b (!up) = (mulS a b up).map ng := by
  unfold mulS
  rw [rg_ng a ha]
  by_cases h : rg a < I ∧ rg b < I ∧ 0 < rg a ∧ 0 < rg b
  · rw [if_pos h, if_pos h, mulF_ng a b up ha]; rfl
  · rw [if_neg h, if_neg h, mul_ng a b ha]
theorem mulS_comm (a b : Nat) (up : Bool) : mulS a b up = mulS b a up := by
  unfold mulS
  have e1 : mM a b = mM b a := Nat.mul_comm _ _
  have e2 : pM a b = pM b a := Int.add_comm _ _
  have e3 : nearM a b = nearM b a := by unfold nearM; rw [e1, e2, Bool.xor_comm]
  have e4 : mulF a b up = mulF b a up := by unfold mulF; rw [e3, e1, e2, Bool.xor_comm]
  by_cases h : rg a < I ∧ rg b < I ∧ 0 < rg a ∧ 0 < rg b
  · rw [if_pos h, if_pos ⟨h.2.1, h.1, h.2.2.2, h.2.2.1⟩, e4]
  · rw [if_neg h, if_neg (fun h2 => h ⟨h2.2.1, h2.1, h2.2.2.2, h2.2.2.1⟩), mul_comm']
theorem nearQ_ng (a b : Nat) (ha : a < 2 * W) : nearQ (ng a) b = ng (nearQ a b) ∧ dM (ng a) b = dM a b ∧ pD (ng a) b = pD a b := by
  have h1 : dM (ng a) b = dM a b := by unfold dM; rw [rg_ng a ha]
  have h2 : pD (ng a) b = pD a b := by unfold pD; rw [rg_ng a ha]
  refine ⟨?_, h1, h2⟩
  unfold nearQ
  rw [h1, h2, sg_ng a ha, Bool.not_xor, nearest_ng]
theorem divF_ng (a b : Nat) (up : Bool) (ha : a < 2 * W) : divF (ng a) b (!up) = ng (divF a b up) := by
  obtain ⟨h1, h2, h3⟩ := nearQ_ng a b ha
  have hl := nearQ_lt a b
  unfold divF
  rw [h1, h2, h3, rg_ng _ hl, sg_ng a ha, Bool.not_xor, cmpS_not]
  by_cases h : rg (nearQ a b) = I
  · rw [if_pos h, if_pos h, greatW_ng _ _ hl]
  · rw [if_neg h, if_neg h, sideW_ng _ _ _ hl]
theorem divS_ng (a b : Nat) (up : Bool) (ha : a < 2 * W) : divS (ng a) b (!up) = (divS a b up).map ng := by
  unfold divS
  rw [rg_ng a ha]
  by_cases h : rg a < I ∧ rg b < I ∧ 0 < rg a ∧ 0 < rg b
  · rw [if_pos h, if_pos h, divF_ng a b up ha]; rfl
  · rw [if_neg h, if_neg h, div_ng a b ha]

/-! ### results -/
theorem Is_same {o : Option Nat} {a b : Nat} (h1 : Is o a) (h2 : Is o b) : Same a b := by
  cases o with
  | none => exact .inr ⟨h1.1, h2.1⟩
  | some r => left; have e1 : a = r := h1; have e2 : b = r := h2; rw [e1, e2]
theorem Is_ng {o : Option Nat} {a : Nat} (h : Is o a) : Is (o.map ng) (ng a) := by
  cases o with
  | none => exact ⟨by rw [rg_ng a h.2]; exact h.1, ng_lt a h.2⟩
  | some r => have e1 : a = r := h; rw [e1]; rfl
theorem Like_of_same {a b : Nat} (h : Same a b) : Like a b := by
  rcases h with rfl | h
  · rcases Nat.lt_or_ge I (rg a) with h | h
    · exact .inr ⟨h, h⟩
    · exact .inl ⟨h, h, rfl⟩
  · exact .inr h
theorem sideW_one (near : Nat) (c : Ordering) (n1 n2 : Nat) : sideW near c n1 true = near ∨ sideW near c n2 false = near := by
  unfold sideW; cases c <;> simp
theorem greatW_one (x : Nat) : greatW x true = x ∨ greatW x false = x := by
  unfold greatW; cases sg x <;> simp
theorem Like_zero {a b : Nat} (h1 : rg a = 0) (h2 : rg b = 0) : Like a b := by
  left
  refine ⟨by rw [h1]; exact Nat.zero_le _, by rw [h2]; exact Nat.zero_le _, ?_⟩
  unfold key; rw [h1, h2]; simp
/-- One way tells Go's own sum. -/
theorem add_one_way (a b : Nat) (up : Bool) (s x y : Nat) (hs : Is (double.add a b) s) (hx : Is (addS a b up) x) (hy : Is (addS a b (!up)) y) : Like s x ∨ Like s y := by
  unfold addS at hx hy
  by_cases h : rg a < I ∧ rg b < I
  · rw [if_pos h] at hx hy
    rw [add_fin a b h.1 h.2] at hs
    have hs' : s = nearS a b := hs
    have hx' : x = addF a b up := hx
    have hy' : y = addF a b (!up) := hy
    subst hs' hx' hy'
    unfold addF
    by_cases hI : rg (nearS a b) = I
    · rw [if_pos hI, if_pos hI]
      have := greatW_one (nearS a b)
      cases up
      · rcases this with h | h
        · right; rw [show (!false) = true from rfl, h]; exact Like_of_same (.inl rfl)
        · left; rw [h]; exact Like_of_same (.inl rfl)
      · rcases this with h | h
        · left; rw [h]; exact Like_of_same (.inl rfl)
        · right; rw [show (!true) = false from rfl, h]; exact Like_of_same (.inl rfl)
    · rw [if_neg hI, if_neg hI]
      by_cases h0 : rg (nearS a b) = 0
      · left
        rw [if_pos h0]
        refine Like_zero h0 ?_
        split
        · rename_i hz; exact hz.1
        · cases up <;> decide
      · rw [if_neg h0, if_neg h0]
        have := sideW_one (nearS a b) (compare (vl a + vl b) (vl (nearS a b))) (next (nearS a b) true) (next (nearS a b) false)
        cases up
        · rcases this with h | h
          · right; rw [show (!false) = true from rfl, h]; exact Like_of_same (.inl rfl)
          · left; rw [h]; exact Like_of_same (.inl rfl)
        · rcases this with h | h
          · left; rw [h]; exact Like_of_same (.inl rfl)
          · right; rw [show (!true) = false from rfl, h]; exact Like_of_same (.inl rfl)
  · rw [if_neg h] at hx
    exact .inl (Like_of_same (Is_same hs hx))
theorem mul_one_way (a b : Nat) (up : Bool) (s x y : Nat) (hs : Is (double.mul a b) s) (hx : Is (mulS a b up) x) (hy : Is (mulS a b (!up)) y) : Like s x ∨ Like s y := by
  unfold mulS at hx hy
  by_cases h : rg a < I ∧ rg b < I ∧ 0 < rg a ∧ 0 < rg b
  · rw [if_pos h] at hx hy
    rw [mul_near a b h.1 h.2.1 h.2.2.1 h.2.2.2] at hs
    have hs' : s = nearM a b := hs
    have hx' : x = mulF a b up := hx
    have hy' : y = mulF a b (!up) := hy
    subst hs' hx' hy'
    unfold mulF
    by_cases hI : rg (nearM a b) = I
    · rw [if_pos hI, if_pos hI]
      have := greatW_one (nearM a b)
      cases up
      · rcases this with h | h
        · right; rw [show (!false) = true from rfl, h]; exact Like_of_same (.inl rfl)
        · left; rw [h]; exact Like_of_same (.inl rfl)
      · rcases this with h | h
        · left; rw [h]; exact Like_of_same (.inl rfl)
        · right; rw [show (!true) = false from rfl, h]; exact Like_of_same (.inl rfl)
    · rw [if_neg hI, if_neg hI]
      have := sideW_one (nearM a b) (cmpS (sg a ^^ sg b) (cmpR (mM a b) (pM a b) (rg (nearM a b)))) (next (nearM a b) true) (next (nearM a b) false)
      cases up
      · rcases this with h | h
        · right; rw [show (!false) = true from rfl, h]; exact Like_of_same (.inl rfl)
        · left; rw [h]; exact Like_of_same (.inl rfl)
      · rcases this with h | h
        · left; rw [h]; exact Like_of_same (.inl rfl)
        · right; rw [show (!true) = false from rfl, h]; exact Like_of_same (.inl rfl)
  · rw [if_neg h] at hx
    exact .inl (Like_of_same (Is_same hs hx))
end Fl
end Go.Proofs.Ytgockebgcbmgoaa

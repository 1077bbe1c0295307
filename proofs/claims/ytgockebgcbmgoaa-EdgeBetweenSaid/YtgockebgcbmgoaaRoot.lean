/-
  Plain facts on square roots of doubles.
-/
import Derived.Test.YtgockebgcbmgoaaQuot
set_option linter.unusedVariables false
set_option linter.unusedSimpArgs false
namespace Go.Proofs.Ytgockebgcbmgoaa
namespace Fl
open Ieee

theorem rootFrom_spec (n : Nat) : ∀ (todo root : Nat), root * root ≤ n → n < (root + 2 ^ todo) * (root + 2 ^ todo) → Datum.rootFrom n todo root * Datum.rootFrom n todo root ≤ n ∧ n < (Datum.rootFrom n todo root + 1) * (Datum.rootFrom n todo root + 1)
  | 0, root, h1, h2 => by
    unfold Datum.rootFrom
    exact ⟨h1, by simpa using h2⟩
  | todo + 1, root, h1, h2 => by
    unfold Datum.rootFrom
    dsimp only
    rw [Nat.one_shiftLeft]
    by_cases h : (root + 2 ^ todo) * (root + 2 ^ todo) ≤ n
    · rw [if_pos h]
      refine rootFrom_spec n todo _ h ?_
      have : root + 2 ^ todo + 2 ^ todo = root + 2 ^ (todo + 1) := by rw [Nat.pow_succ]; omega
      rw [this]; exact h2
    · rw [if_neg h]
      exact rootFrom_spec n todo _ h1 (by omega)
def isq (n : Nat) : Nat := Datum.rootFrom n (n.log2 / 2 + 1) 0
theorem isq_spec (n : Nat) : isq n * isq n ≤ n ∧ n < (isq n + 1) * (isq n + 1) := by
  refine rootFrom_spec n _ 0 (by omega) ?_
  rw [Nat.zero_add, ← Nat.pow_add]
  exact Nat.lt_of_lt_of_le Nat.lt_log2_self (Nat.pow_le_pow_right (by omega) (by omega))

/-- A root's digits, with one more that tells whether something is left. -/
def stickR (n : Nat) : Nat := 2 * isq n + (isq n * isq n != n).toNat
theorem stickR_cmp (n h : Nat) : compare (stickR n) (2 * h) = compare n (h * h) := by
  obtain ⟨h1, h2⟩ := isq_spec n
  unfold stickR
  generalize isq n = w at *
  have hb : (w * w != n).toNat ≤ 1 := by cases (w * w != n) <;> simp
  rw [compare_nat, compare_nat]
  rcases Nat.lt_trichotomy w h with h3 | h3 | h3
  · have : (w + 1) * (w + 1) ≤ h * h := Nat.mul_le_mul h3 h3
    rw [if_pos (by omega), if_pos (by omega)]
  · subst h3
    by_cases he : w * w = n
    · rw [he, show (n != n) = false by simp, Bool.toNat_false, if_neg (by omega), if_pos (by omega), if_neg (by omega), if_pos rfl]
    · rw [bne_iff_ne.2 he, Bool.toNat_true, if_neg (by omega), if_neg (by omega), if_neg (by omega), if_neg (by omega)]
  · have : (h + 1) * (h + 1) ≤ w * w := Nat.mul_le_mul h3 h3
    have e : (h + 1) * (h + 1) = h * h + 2 * h + 1 := by grind
    rw [if_neg (by omega), if_neg (by omega), if_neg (by omega), if_neg (by omega)]

/-- Whether the place is odd. -/
def par (a : Nat) : Nat := (nE (rg a) % 2).toNat
def sN (a : Nat) : Nat := nM (rg a) * 2 ^ (56 + par a)
def sM (a : Nat) : Nat := stickR (sN a)
def pR (a : Nat) : Int := (nE (rg a) - par a) / 2 - 566
def nearR (a : Nat) : Nat := double.nearest false (sM a) (pR a)
theorem par_le (a : Nat) : par a ≤ 1 := by unfold par; omega
theorem sqrt_near (a : Nat) (fa : rg a < I) (a0 : 0 < rg a) (hs : sg a = false) : double.sqrt a = some (nearR a) := by
  obtain ⟨c, c1, c2, c3, c4, c5⟩ := norm_up (rg a) a0
  unfold Format.sqrt
  rw [read_fin a fa, dF]
  unfold Datum.root
  dsimp only
  rw [if_neg c5, hs, if_neg (by simp)]
  simp only [Option.map_some, Format.write]
  have h1 : 2 * (52 + 2) - (mant (rg a)).log2 = 56 + c := by omega
  rw [h1]
  have h2 : ((-1074 + ((ex (rg a) : Nat) : Int) - ((56 + c : Nat) : Int)) % 2).toNat = par a := by unfold par; omega
  rw [h2, Nat.shiftLeft_eq]
  have h3 : mant (rg a) * 2 ^ (56 + c + par a) = sN a := by
    unfold sN
    rw [c2, Nat.mul_assoc, ← Nat.pow_add]
    congr 2; omega
  rw [h3]
  show some (double.nearest false (stickR (sN a)) _) = _
  unfold nearR sM
  congr 2
  unfold pR
  omega
theorem sM_range (a : Nat) (a0 : 0 < rg a) : sM a ≠ 0 ∧ sM a < 2 ^ 56 ∧ (sM a).log2 = 55 := by
  obtain ⟨m1, m2⟩ := nM_range (rg a) a0
  rw [B_eq] at *
  have hp := par_le a
  obtain ⟨h1, h2⟩ := isq_spec (sN a)
  have n1 : 2 ^ 54 * 2 ^ 54 ≤ sN a := by
    unfold sN
    calc 2 ^ 54 * 2 ^ 54 = 2 ^ 52 * 2 ^ 56 := by decide
      _ ≤ nM (rg a) * 2 ^ (56 + par a) := Nat.mul_le_mul m1 (Nat.pow_le_pow_right (by decide) (by omega))
  have n2 : sN a < 2 ^ 55 * 2 ^ 55 := by
    unfold sN
    calc nM (rg a) * 2 ^ (56 + par a) < 2 * 2 ^ 52 * 2 ^ (56 + par a) := Nat.mul_lt_mul_of_pos_right m2 (Nat.two_pow_pos _)
      _ ≤ 2 * 2 ^ 52 * 2 ^ 57 := Nat.mul_le_mul_left _ (Nat.pow_le_pow_right (by decide) (by omega))
      _ = 2 ^ 55 * 2 ^ 55 := by decide
  have w1 : 2 ^ 54 ≤ isq (sN a) := by
    rcases Nat.lt_or_ge (isq (sN a)) (2 ^ 54) with h | h
    · have : (isq (sN a) + 1) * (isq (sN a) + 1) ≤ 2 ^ 54 * 2 ^ 54 := Nat.mul_le_mul h h
      omega
    · exact h
  have w2 : isq (sN a) < 2 ^ 55 := by
    rcases Nat.lt_or_ge (isq (sN a)) (2 ^ 55) with h | h
    · exact h
    · have : 2 ^ 55 * 2 ^ 55 ≤ isq (sN a) * isq (sN a) := Nat.mul_le_mul h h
      omega
  have hb : (isq (sN a) * isq (sN a) != sN a).toNat ≤ 1 := by cases (isq (sN a) * isq (sN a) != sN a) <;> simp
  have e1 : 2 ^ 55 ≤ sM a := by unfold sM stickR; omega
  have e2 : sM a < 2 ^ 56 := by unfold sM stickR; omega
  have e0 : sM a ≠ 0 := by omega
  have l1 := (Nat.le_log2 e0).2 e1
  have l2 := (Nat.log2_lt e0).2 e2
  exact ⟨e0, e2, by omega⟩

theorem ra1 (m e J : Nat) : m * 2 ^ (e + (J + 56)) = 2 * (2 * m * 2 ^ e) * 2 ^ (J + 54) := by
  rw [Nat.pow_add 2 e, show J + 56 = 2 + (J + 54) by omega, Nat.pow_add 2 2]
  generalize (2 : Nat) ^ (J + 54) = A
  grind
theorem ra2 (M q J : Nat) : M * 2 ^ (J + 56 + q) = M * 2 ^ (56 + q) * 2 ^ J := by
  rw [show J + 56 + q = (56 + q) + J by omega, Nat.pow_add 2 (56 + q), Nat.mul_assoc]
theorem ra3 (m e J : Nat) : m * m * 2 ^ (2 * e + (J + 2)) = 2 * m * 2 ^ e * (2 * m * 2 ^ e) * 2 ^ J := by
  rw [show 2 * e + (J + 2) = e + e + 2 + J by omega, Nat.pow_add 2 (e + e + 2), Nat.pow_add 2 (e + e), Nat.pow_add 2 e]
  generalize (2 : Nat) ^ J = A
  grind
/-- The exact root against a float, by the fused multiplication. -/
theorem root_cmp (a r : Nat) (e J : Nat) (hJ : J = 964) (he : ex r = e + (J + 56)) : compare (nM (rg a) * 2 ^ (J + 56 + par a)) (mant r * mant r * 2 ^ (2 * e + (J + 2))) = cmpR (sM a) (-56) r := by
  have hs := stickR_cmp (sN a) (2 * mant r * 2 ^ e)
  unfold cmpR rv sM
  rw [he, show (-56 + 1074 : Int).toNat = J + 54 by omega, show (-(-56 + 1074) : Int).toNat = 0 from rfl, Nat.pow_zero, Nat.mul_one, ra1 (mant r) e J, ra2 (nM (rg a)) (par a) J, ra3 (mant r) e J, compare_mul _ _ _ (Nat.two_pow_pos _), compare_mul _ _ _ (Nat.two_pow_pos _), hs]
  rfl
/-- Half of a fraction. -/
theorem half_frx (x : Nat) (h0 : 0 < rg x) (hs : sg x = false) : double.div (frx x) 4611686018427387904 = some (1020 * B + nM (rg x)) := by
  obtain ⟨s1, s2, s3, s4, s5, s6⟩ := frx_facts x h0
  obtain ⟨m1, m2⟩ := nM_range (rg x) h0
  have hnB : ¬ rg (frx x) < B := by rw [s2]; unfold B at *; omega
  have u1 : nM (rg (frx x)) = nM (rg x) := by
    have : nM (rg (frx x)) = mant (rg (frx x)) := by unfold nM; rw [if_neg hnB]
    rw [this, s4]
  have u2 : nE (rg (frx x)) = 1021 := by unfold nE; rw [if_neg hnB, s5]; rfl
  have u3 : 0 < rg (frx x) := by have : 0 < B := by decide
                                 omega
  rw [div_near (frx x) 4611686018427387904 s3 (by decide) u3 (by decide)]
  have hN : nM (rg 4611686018427387904) = B := by decide
  have hE : nE (rg 4611686018427387904) = 1023 := by decide
  have hd : dM (frx x) 4611686018427387904 = nM (rg x) * 2 ^ 3 := by
    unfold dM
    rw [u1, hN, show nM (rg x) * 2 ^ 54 = nM (rg x) * 4 * B by rw [Nat.mul_assoc]; rfl]
    have hBp : 0 < B := by decide
    unfold stick
    rw [Nat.mul_div_cancel _ hBp, Nat.mul_mod_left]
    simp; omega
  have hp : pD (frx x) 4611686018427387904 = -57 := by unfold pD; rw [u2, hE]; rfl
  unfold nearQ
  rw [hd, hp, s1, hs, show sg 4611686018427387904 = false from by decide]
  have hc := nearest_congr (false ^^ false) (nM (rg x) * 2 ^ 3) (nM (rg x)) (-57) (-1074 + ((1020 : Nat) : Int)) 0 3 (by rw [Nat.pow_zero, Nat.mul_one]) (by decide)
  rw [hc]
  have he := (nearest_exact (false ^^ false) (nM (rg x)) 1020 m1 m2 (by decide)).1
  rw [he]; rfl
end Fl
end Go.Proofs.Ytgockebgcbmgoaa

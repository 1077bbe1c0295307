/-
  Plain facts on quotients of doubles.
-/
import Derived.Test.YtgockebgcbmgoaaSett
set_option linter.unusedVariables false
set_option linter.unusedSimpArgs false
namespace Go.Proofs.Ytgockebgcbmgoaa
namespace Fl
open Ieee

/-- The normal form is the digits moved up. -/
theorem norm_up (r : Nat) (h0 : 0 < r) : ∃ c : Nat, c ≤ 52 ∧ nM r = mant r * 2 ^ c ∧ nE r = (ex r : Nat) - (c : Int) ∧ (mant r).log2 + c = 52 ∧ mant r ≠ 0 := by
  unfold nM nE
  by_cases h : r < B
  · rw [if_pos h, if_pos h]
    obtain ⟨e1, e2⟩ := small_rung r h
    have hl := log2_B r h0 h
    rw [e1, e2]
    exact ⟨52 - r.log2, by omega, rfl, by omega, by omega, by omega⟩
  · rw [if_neg h, if_neg h]
    have m1 : 2 ^ 52 ≤ mant r := by rw [← B_eq]; unfold mant ex B at *; omega
    have m2 : mant r < 2 ^ 53 := by have := mant_lt r; rw [B_eq] at this; omega
    have m0 : mant r ≠ 0 := by omega
    have l1 := (Nat.le_log2 m0).2 m1
    have l2 := (Nat.log2_lt m0).2 m2
    exact ⟨0, by omega, by simp, by omega, by omega, m0⟩

/-- A quotient's digits, with one more that tells whether something is left. -/
def stick (D N : Nat) : Nat := 2 * (D / N) + (D % N != 0).toNat
theorem stick_scale (D N c : Nat) (hc : 0 < c) : stick (D * c) (N * c) = stick D N := by
  unfold stick
  rw [Nat.mul_div_mul_right _ _ hc, Nat.mul_mod_mul_right]
  congr 2
  by_cases h : D % N = 0
  · rw [h]; simp
  · have : D % N * c ≠ 0 := Nat.mul_ne_zero h (by omega)
    rw [bne_iff_ne.2 h, bne_iff_ne.2 this]
/-- What is left over decides beside an even number. -/
theorem stick_cmp (D N h : Nat) (hN : 0 < N) : compare (stick D N) (2 * h) = compare D (h * N) := by
  have hd := Nat.div_add_mod D N
  have hm := Nat.mod_lt D hN
  unfold stick
  generalize D / N = q at *
  generalize D % N = r at *
  have hq : N * q = q * N := Nat.mul_comm _ _
  rw [compare_nat, compare_nat]
  rcases Nat.lt_trichotomy q h with h1 | h1 | h1
  · have h2 : (q + 1) * N ≤ h * N := Nat.mul_le_mul_right _ h1
    rw [Nat.add_mul, Nat.one_mul] at h2
    have : (r != 0).toNat ≤ 1 := by cases (r != 0) <;> simp
    rw [if_pos (by omega), if_pos (by omega)]
  · subst h1
    by_cases h0 : r = 0
    · subst h0
      rw [show ((0 : Nat) != 0) = false from rfl, Bool.toNat_false, if_neg (by omega), if_pos (by omega), if_neg (by omega), if_pos (by omega)]
    · rw [bne_iff_ne.2 h0, Bool.toNat_true]
      rw [if_neg (by omega), if_neg (by omega), if_neg (by omega), if_neg (by omega)]
  · have h2 : (h + 1) * N ≤ q * N := Nat.mul_le_mul_right _ h1
    rw [Nat.add_mul, Nat.one_mul] at h2
    rw [if_neg (by omega), if_neg (by omega), if_neg (by omega), if_neg (by omega)]

def dM (a b : Nat) : Nat := stick (nM (rg a) * 2 ^ 54) (nM (rg b))
def pD (a b : Nat) : Int := nE (rg a) - nE (rg b) - 55
def nearQ (a b : Nat) : Nat := double.nearest (sg a ^^ sg b) (dM a b) (pD a b)
theorem div_near (a b : Nat) (fa : rg a < I) (fb : rg b < I) (a0 : 0 < rg a) (b0 : 0 < rg b) : double.div a b = some (nearQ a b) := by
  obtain ⟨c, c1, c2, c3, c4, c5⟩ := norm_up (rg a) a0
  obtain ⟨k, k1, k2, k3, k4, k5⟩ := norm_up (rg b) b0
  unfold Format.div
  rw [read_fin a fa, read_fin b fb, dF]
  unfold Datum.quotient
  dsimp only
  rw [if_neg k5]
  simp only [Option.map_some, Format.write]
  have hmore : 52 + 2 + (mant (rg b)).log2 - (mant (rg a)).log2 = 54 - k + c := by omega
  rw [hmore, Nat.shiftLeft_eq]
  have hmag : 2 * (mant (rg a) * 2 ^ (54 - k + c) / mant (rg b)) + (mant (rg a) * 2 ^ (54 - k + c) % mant (rg b) != 0).toNat = dM a b := by
    unfold dM
    rw [c2, k2]
    have e1 : mant (rg a) * 2 ^ c * 2 ^ 54 = mant (rg a) * 2 ^ (54 - k + c) * 2 ^ k := by
      rw [Nat.mul_assoc, Nat.mul_assoc, ← Nat.pow_add, ← Nat.pow_add]; congr 2; omega
    rw [e1, stick_scale _ _ _ (Nat.two_pow_pos k)]
    rfl
  rw [hmag]
  unfold nearQ
  congr 2
  unfold pD
  omega
/-- The digits of a quotient of normal forms. -/
theorem dM_range (a b : Nat) (a0 : 0 < rg a) (b0 : 0 < rg b) : dM a b ≠ 0 ∧ dM a b < 2 ^ 56 ∧ 54 ≤ (dM a b).log2 ∧ (dM a b).log2 ≤ 55 := by
  obtain ⟨m1, m2⟩ := nM_range (rg a) a0
  obtain ⟨k1, k2⟩ := nM_range (rg b) b0
  rw [B_eq] at *
  unfold dM
  generalize nM (rg a) = M at *
  generalize nM (rg b) = N at *
  have h1 : 2 ^ 53 ≤ M * 2 ^ 54 / N := by
    rw [Nat.le_div_iff_mul_le (by omega)]
    calc 2 ^ 53 * N ≤ 2 ^ 53 * (2 * 2 ^ 52) := Nat.mul_le_mul_left _ (by omega)
      _ ≤ 2 ^ 52 * 2 ^ 54 := by decide
      _ ≤ M * 2 ^ 54 := Nat.mul_le_mul_right _ m1
  have h2 : M * 2 ^ 54 / N < 2 ^ 55 := by
    rw [Nat.div_lt_iff_lt_mul (by omega)]
    calc M * 2 ^ 54 < 2 * 2 ^ 52 * 2 ^ 54 := Nat.mul_lt_mul_of_pos_right m2 (by decide)
      _ ≤ 2 ^ 55 * 2 ^ 52 := by decide
      _ ≤ 2 ^ 55 * N := Nat.mul_le_mul_left _ k1
  have h3 : 2 ^ 54 ≤ stick (M * 2 ^ 54) N := by unfold stick; omega
  have h4 : stick (M * 2 ^ 54) N < 2 ^ 56 := by
    unfold stick
    have : (M * 2 ^ 54 % N != 0).toNat ≤ 1 := by cases (M * 2 ^ 54 % N != 0) <;> simp
    omega
  have h0 : stick (M * 2 ^ 54) N ≠ 0 := by omega
  have := (Nat.log2_lt h0).2 h4
  exact ⟨h0, h4, (Nat.le_log2 h0).2 h3, by omega⟩

theorem qa1 (m e J : Nat) : m * 2 ^ (e + (J + 53)) = 2 * (m * 2 ^ e) * 2 ^ (J + 52) := by
  rw [Nat.pow_add 2 e, show J + 53 = 1 + (J + 52) by omega, Nat.pow_add 2 1]
  generalize (2 : Nat) ^ (J + 52) = A
  grind
theorem qa2 (M J : Nat) : M * 2 ^ (J + 54) = M * 2 ^ 54 * 2 ^ J := by
  rw [Nat.add_comm J, Nat.pow_add 2 54, Nat.mul_assoc]
theorem qa3 (m N e J : Nat) : m * N * 2 ^ (e + J) = m * 2 ^ e * N * 2 ^ J := by
  rw [Nat.pow_add]
  generalize (2 : Nat) ^ J = A
  grind
/-- The exact quotient against a float, by the fused multiplication. -/
theorem div_cmp (a b r : Nat) (b0 : 0 < rg b) (e J : Nat) (hJ : J = 967) (he : ex r = e + (J + 53)) : compare (nM (rg a) * 2 ^ (J + 54)) (mant r * nM (rg b) * 2 ^ (e + J)) = cmpR (dM a b) (-55) r := by
  obtain ⟨k1, k2⟩ := nM_range (rg b) b0
  have hN : 0 < nM (rg b) := Nat.lt_of_lt_of_le (by decide) k1
  have hs := stick_cmp (nM (rg a) * 2 ^ 54) (nM (rg b)) (mant r * 2 ^ e) hN
  unfold cmpR rv dM
  rw [he, show (-55 + 1074 : Int).toNat = J + 52 by omega, show (-(-55 + 1074) : Int).toNat = 0 from rfl, Nat.pow_zero, Nat.mul_one, qa1 (mant r) e J, qa2 (nM (rg a)) J, qa3 (mant r) (nM (rg b)) e J, compare_mul _ _ _ (Nat.two_pow_pos _), compare_mul _ _ _ (Nat.two_pow_pos _), hs]
end Fl
end Go.Proofs.Ytgockebgcbmgoaa

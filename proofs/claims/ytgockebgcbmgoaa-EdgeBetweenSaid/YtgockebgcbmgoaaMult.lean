/-
  Plain facts on products, scaled floats and their normal forms: Frexp's and Ldexp's numbers.
-/
import Derived.Test.YtgockebgcbmgoaaFast
set_option linter.unusedVariables false
set_option linter.unusedSimpArgs false
namespace Go.Proofs.Ytgockebgcbmgoaa
namespace Fl
open Ieee

/-- The place of a finite word's last digit. -/
def pl (w : Nat) : Int := -1074 + (ex (rg w) : Nat)
theorem mul_fin (x y : Nat) (hx : rg x < I) (hy : rg y < I) : double.mul x y = some (double.nearest (sg x ^^ sg y) (mant (rg x) * mant (rg y)) (pl x + pl y)) := by
  unfold Format.mul
  rw [read_fin x hx, read_fin y hy]
  rfl
/-- A float times a power of two, rounded once. -/
def scl (w : Nat) (k : Int) : Nat := double.nearest (sg w) (mant (rg w)) (pl w + k)

/-- The normal form of a rung above 0: 53 digits, and the place (in units). -/
def nM (r : Nat) : Nat := if r < B then r * 2 ^ (52 - r.log2) else mant r
def nE (r : Nat) : Int := if r < B then -((52 - r.log2 : Nat) : Int) else (ex r : Nat)
theorem log2_B (r : Nat) (h0 : 0 < r) (h : r < B) : r.log2 < 52 := by
  rw [Nat.log2_lt (by omega), ← B_eq]; exact h
theorem nM_range (r : Nat) (h0 : 0 < r) : B ≤ nM r ∧ nM r < 2 * B := by
  unfold nM
  by_cases h : r < B
  · rw [if_pos h]
    have hl := log2_B r h0 h
    have h1 := Nat.log2_self_le (show r ≠ 0 by omega)
    have h2 : r < 2 ^ (r.log2 + 1) := Nat.lt_log2_self
    generalize r.log2 = l at *
    have pp : 0 < 2 ^ (52 - l) := Nat.two_pow_pos _
    have e1 : B = 2 ^ l * 2 ^ (52 - l) := by rw [← Nat.pow_add, B_eq]; congr 1; omega
    have e2 : 2 * B = 2 ^ (l + 1) * 2 ^ (52 - l) := by rw [← Nat.pow_add, B_eq, ← Nat.pow_succ']; congr 1; omega
    rw [e2]
    refine ⟨?_, Nat.mul_lt_mul_of_pos_right h2 pp⟩
    rw [e1]; exact Nat.mul_le_mul_right _ h1
  · rw [if_neg h]
    refine ⟨?_, mant_lt r⟩
    unfold mant ex B at *; omega
theorem nE_range (r : Nat) (h0 : 0 < r) (h : r < I) : -52 ≤ nE r ∧ nE r ≤ 2045 := by
  unfold nE
  by_cases hb : r < B
  · rw [if_pos hb]; omega
  · rw [if_neg hb]; unfold ex B I at *; omega
theorem small_rung (r : Nat) (h : r < B) : ex r = 0 ∧ mant r = r := by
  unfold mant ex B at *; omega
/-- The normal form is the rung's number. -/
theorem norm_val (r : Nat) (h0 : 0 < r) : ∃ c1 c2 : Nat, mant r * 2 ^ c1 = nM r * 2 ^ c2 ∧ ((ex r : Nat) : Int) - c1 = nE r - c2 := by
  unfold nM nE
  by_cases h : r < B
  · rw [if_pos h, if_pos h]
    obtain ⟨e1, e2⟩ := small_rung r h
    exact ⟨52 - r.log2, 0, by rw [e2]; simp, by rw [e1]; omega⟩
  · rw [if_neg h, if_neg h]
    exact ⟨0, 0, rfl, rfl⟩
theorem nearest_norm (s : Bool) (r : Nat) (h0 : 0 < r) (k : Int) : double.nearest s (mant r) (k + (ex r : Nat)) = double.nearest s (nM r) (k + nE r) := by
  obtain ⟨c1, c2, h1, h2⟩ := norm_val r h0
  exact nearest_congr s _ _ _ _ c1 c2 h1 (by omega)
theorem scl_norm (w : Nat) (h0 : 0 < rg w) (k : Int) : scl w k = double.nearest (sg w) (nM (rg w)) (-1074 + k + nE (rg w)) := by
  have := nearest_norm (sg w) (rg w) h0 (-1074 + k)
  rw [← this]
  unfold scl pl
  congr 1
  omega

/-- Exactly a float, in the normal range. -/
theorem nearest_exact (s : Bool) (m e : Nat) (h : B ≤ m) (h2 : m < 2 * B) (he : e ≤ 2045) : double.nearest s m (-1074 + (e : Int)) = wd s (e * B + m) ∧ e * B + m < I ∧ ex (e * B + m) = e ∧ mant (e * B + m) = m := by
  have hI : e * B + m < I := by unfold B I at *; omega
  have hr := rv_of e m (by omega) (.inr h)
  refine ⟨?_, hI, ex_of e m h2 (.inr h), mant_of e m h2 (.inr h)⟩
  rw [nearest_units s m _ (by omega), show (-1074 + (e : Int) + 1074).toNat = e by omega, ← hr]
  exact rnd_exact s _ (Nat.le_of_lt hI)
theorem scl_exact (w : Nat) (h0 : 0 < rg w) (k : Int) (h1 : 0 ≤ nE (rg w) + k) (h2 : nE (rg w) + k ≤ 2045) :
    scl w k = wd (sg w) ((nE (rg w) + k).toNat * B + nM (rg w)) ∧ (nE (rg w) + k).toNat * B + nM (rg w) < I ∧ nE ((nE (rg w) + k).toNat * B + nM (rg w)) = nE (rg w) + k ∧ nM ((nE (rg w) + k).toNat * B + nM (rg w)) = nM (rg w) := by
  obtain ⟨m1, m2⟩ := nM_range (rg w) h0
  rw [scl_norm w h0]
  generalize nM (rg w) = m at *
  generalize nE (rg w) = e at *
  obtain ⟨n, hn⟩ := Int.eq_ofNat_of_zero_le h1
  rw [hn, Int.toNat_natCast, show -1074 + k + e = -1074 + (n : Int) by omega]
  obtain ⟨a1, a2, a3, a4⟩ := nearest_exact (sg w) m n m1 m2 (by omega)
  refine ⟨a1, a2, ?_, ?_⟩
  · unfold nE; rw [if_neg (by unfold B at *; omega), a3]
  · unfold nM; rw [if_neg (by unfold B at *; omega), a4]
/-- A rung by its normal form. -/
theorem norm_rung (r : Nat) (h : B ≤ r) : r = (nE r).toNat * B + nM r ∧ 0 ≤ nE r := by
  unfold nE nM
  rw [if_neg (by omega), if_neg (by omega)]
  exact ⟨by rw [Int.toNat_natCast]; exact ex_mant r, by omega⟩

/-! ### what normalize, Frexp and Ldexp tell -/
/-- A subnormal number times 2^52. -/
theorem up52 (x : Nat) (h0 : 0 < rg x) (h : rg x < B) : double.mul x 4841369599423283200 = some (wd (sg x) ((nE (rg x) + 52).toNat * B + nM (rg x))) ∧ (nE (rg x) + 52).toNat * B + nM (rg x) < I ∧ (nE (rg x) + 52).toNat < 52 := by
  have hc : rg 4841369599423283200 = 4841369599423283200 := by decide
  have hb : B < I := by decide
  obtain ⟨e1, e2⟩ := small_rung (rg x) h
  have hl := log2_B (rg x) h0 h
  have hE : nE (rg x) = -((52 - (rg x).log2 : Nat) : Int) := by unfold nE; rw [if_pos h]
  have hr := nE_range (rg x) h0 (by omega)
  obtain ⟨m1, m2⟩ := nM_range (rg x) h0
  rw [mul_fin x _ (by omega) (by rw [hc]; decide), show sg 4841369599423283200 = false from by decide, Bool.xor_false]
  have hp : pl x + pl 4841369599423283200 = -1074 + (0 : Int) := by
    unfold pl; rw [e1, hc, show ex 4841369599423283200 = 1074 from by decide]; rfl
  have hm : mant (rg 4841369599423283200) = B := by rw [hc]; decide
  rw [hp, hm, e2]
  have hcg := nearest_congr (sg x) (rg x * B) (nM (rg x)) (-1074 + (0 : Int)) (-1074 + (((nE (rg x) + 52).toNat : Nat) : Int)) 0 (nE (rg x) + 52).toNat (by
    rw [Nat.pow_zero, Nat.mul_one]
    unfold nM
    rw [if_pos h, Nat.mul_assoc, ← Nat.pow_add, B_eq]
    congr 2
    rw [hE]; omega) (by omega)
  rw [hcg]
  obtain ⟨a1, a2, a3, a4⟩ := nearest_exact (sg x) (nM (rg x)) (nE (rg x) + 52).toNat m1 m2 (by rw [hE]; omega)
  exact ⟨by rw [a1], a2, by rw [hE]; omega⟩

/-- Frexp's fraction and power. -/
def frx (x : Nat) : Nat := wd (sg x) (1021 * B + nM (rg x))
def fri (x : Nat) : Int := nE (rg x) - 1021
theorem frx_facts (x : Nat) (h0 : 0 < rg x) : sg (frx x) = sg x ∧ rg (frx x) = 1021 * B + nM (rg x) ∧ rg (frx x) < I ∧ mant (rg (frx x)) = nM (rg x) ∧ ex (rg (frx x)) = 1021 ∧ frx x < 2 * W := by
  obtain ⟨m1, m2⟩ := nM_range (rg x) h0
  have hlt : 1021 * B + nM (rg x) < I := by unfold B I at *; omega
  have hW : 1021 * B + nM (rg x) < W := Nat.lt_trans hlt I_lt_W
  unfold frx
  rw [sg_wd _ _ hW, rg_wd _ _ hW]
  exact ⟨rfl, rfl, hlt, mant_of 1021 _ m2 (.inr m1), ex_of 1021 _ m2 (.inr m1), wd_lt _ _ hW⟩

/-! ### the exponent field and the fraction field of a word -/
theorem field_exp (s : Bool) (r : Nat) (h : r < W) : wd s r / 4503599627370496 % 2048 = r / B := by
  unfold wd B W at *
  cases s <;> simp <;> omega
theorem one_mul (y : Nat) (hy : y < 2 * W) (h : rg y < I) : double.mul 4607182418800017408 y = some y := by
  have hc : rg 4607182418800017408 = 4607182418800017408 := by decide
  rw [mul_fin _ y (by rw [hc]; decide) h, show sg 4607182418800017408 = false from by decide, Bool.false_xor]
  have hp : pl 4607182418800017408 = -52 := by decide
  have hm : mant (rg 4607182418800017408) = 2 ^ 52 := by rw [hc]; decide
  rw [hp, hm]
  rw [nearest_congr (sg y) (2 ^ 52 * mant (rg y)) (mant (rg y)) (-52 + pl y) (pl y) 0 52 (by rw [Nat.pow_zero, Nat.mul_one, Nat.mul_comm]) (by omega)]
  unfold pl
  rw [nearest_units _ _ _ (by omega), show (-1074 + ((ex (rg y) : Nat) : Int) + 1074).toNat = ex (rg y) by omega]
  rw [show mant (rg y) * 2 ^ ex (rg y) = rv (rg y) from rfl, rnd_exact _ _ (Nat.le_of_lt h), wd_sg_rg y hy]
end Fl
end Go.Proofs.Ytgockebgcbmgoaa

/-
  Plain facts: what the steps tell is the float on that side of the exact number; so it grows with it.
-/
import Derived.Test.YtgockebgcbmgoaaTurnp
import Derived.Test.YtgockebgcbmgoaaNearw
import Derived.Test.YtgockebgcbmgoaaSqrtb
set_option linter.unusedVariables false
set_option linter.unusedSimpArgs false
namespace Go.Proofs.Ytgockebgcbmgoaa
namespace Fl
open Ieee

/-- k is the rung on that side of n / 2^d units. -/
def Dir (up : Bool) (n : Int) (d : Nat) (k : Int) : Prop :=
  if up then n ≤ V k * 2 ^ d ∧ V (k - 1) * 2 ^ d < n else V k * 2 ^ d ≤ n ∧ n < V (k + 1) * 2 ^ d
theorem Dir.mono {up1 up2 : Bool} {n m : Int} {d e : Nat} {k q : Int} (h1 : Dir up1 n d k) (h2 : Dir up2 m e q) (hu : up1 = false ∨ up2 = true) (h : n * 2 ^ e ≤ m * 2 ^ d) : k ≤ q := by
  have pd := pow_pos_int d
  have pe := pow_pos_int e
  unfold Dir at h1 h2
  generalize (2 : Int) ^ d = D at *
  generalize (2 : Int) ^ e = F at *
  have hDF : 0 < D * F := Int.mul_pos pd pe
  -- from a sharp one and a weak one
  have fin : ∀ a b : Int, V a * D ≤ n → m ≤ V b * F → a ≤ b := by
    intro a b ha hb
    have c1 : V a * D * F ≤ n * F := Int.mul_le_mul_of_nonneg_right ha (Int.le_of_lt pe)
    have c2 : m * D ≤ V b * F * D := Int.mul_le_mul_of_nonneg_right hb (Int.le_of_lt pd)
    have c3 : V a * (D * F) ≤ V b * (D * F) := by
      have e1 : V a * (D * F) = V a * D * F := by rw [Int.mul_assoc]
      have e2 : V b * (D * F) = V b * F * D := by rw [Int.mul_comm D F, Int.mul_assoc]
      rw [e1, e2]; omega
    exact V_le_iff.1 (Int.le_of_mul_le_mul_right c3 hDF)
  have finl : ∀ a b : Int, V a * D < n → m ≤ V b * F → a < b := by
    intro a b ha hb
    have c1 : V a * D * F < n * F := Int.mul_lt_mul_of_pos_right ha pe
    have c2 : m * D ≤ V b * F * D := Int.mul_le_mul_of_nonneg_right hb (Int.le_of_lt pd)
    have c3 : V a * (D * F) < V b * (D * F) := by
      have e1 : V a * (D * F) = V a * D * F := by rw [Int.mul_assoc]
      have e2 : V b * (D * F) = V b * F * D := by rw [Int.mul_comm D F, Int.mul_assoc]
      rw [e1, e2]; omega
    exact V_lt_iff.1 (Int.lt_of_mul_lt_mul_right c3 (Int.le_of_lt hDF))
  have finr : ∀ a b : Int, V a * D ≤ n → m < V b * F → a < b := by
    intro a b ha hb
    have c1 : V a * D * F ≤ n * F := Int.mul_le_mul_of_nonneg_right ha (Int.le_of_lt pe)
    have c2 : m * D < V b * F * D := Int.mul_lt_mul_of_pos_right hb pd
    have c3 : V a * (D * F) < V b * (D * F) := by
      have e1 : V a * (D * F) = V a * D * F := by rw [Int.mul_assoc]
      have e2 : V b * (D * F) = V b * F * D := by rw [Int.mul_comm D F, Int.mul_assoc]
      rw [e1, e2]; omega
    exact V_lt_iff.1 (Int.lt_of_mul_lt_mul_right c3 (Int.le_of_lt hDF))
  cases up1
  · rw [if_neg (by simp)] at h1
    cases up2
    · rw [if_neg (by simp)] at h2
      have := finr _ _ h1.1 h2.2; omega
    · rw [if_pos rfl] at h2
      exact fin _ _ h1.1 h2.1
  · rw [if_pos rfl] at h1
    rcases hu with hu | hu
    · cases hu
    · subst hu
      rw [if_pos rfl] at h2
      have := finl _ _ h1.2 h2.1; omega

/-- Cut off at the floats' ends. -/
def clamp (up : Bool) (k : Int) : Int := if up then max (-((I : Int) - 1)) (min I k) else max (-(I : Int)) (min ((I : Int) - 1) k)
theorem clamp_mono {up1 up2 : Bool} {k q : Int} (hu : up1 = false ∨ up2 = true) (h : k ≤ q) : clamp up1 k ≤ clamp up2 q := by
  have hI : (0 : Int) < (I : Int) := by decide
  unfold clamp
  generalize (I : Int) = i at *
  rcases hu with rfl | rfl
  · cases up2 <;> simp only [Bool.false_eq_true, if_false, if_true] <;> omega
  · cases up1 <;> simp only [Bool.false_eq_true, if_false, if_true] <;> omega
/-- w is the float on that side of n / 2^d units. -/
def DirW (up : Bool) (n : Int) (d w : Nat) : Prop := rg w ≤ I ∧ ∃ k, Dir up n d k ∧ key w = clamp up k
theorem DirW.mono {up1 up2 : Bool} {n m : Int} {d e w x : Nat} (h1 : DirW up1 n d w) (h2 : DirW up2 m e x) (hu : up1 = false ∨ up2 = true) (h : n * 2 ^ e ≤ m * 2 ^ d) : key w ≤ key x := by
  obtain ⟨_, k, a1, a2⟩ := h1
  obtain ⟨_, q, b1, b2⟩ := h2
  rw [a2, b2]
  exact clamp_mono hu (a1.mono b1 hu h)
theorem DirW.zero (up : Bool) (d w : Nat) (h : rg w = 0) : DirW up 0 d w := by
  refine ⟨by rw [h]; exact Nat.zero_le _, 0, ?_, ?_⟩
  · have pd := pow_pos_int d
    have e1 : V (0 + 1) = 1 := by decide
    have e2 : V (0 - 1) = -1 := by decide
    unfold Dir
    rw [V_zero, e1, e2]
    generalize (2 : Int) ^ d = D at *
    cases up
    · rw [if_neg (by simp)]; omega
    · rw [if_pos rfl]; omega
  · unfold key clamp; rw [h]
    have hI : (0 : Int) < (I : Int) := by decide
    generalize (I : Int) = i at *
    cases up <;> simp <;> omega
theorem DirW.scale {up : Bool} {n : Int} {d w : Nat} (h : DirW up n d w) (m : Int) (e c1 c2 : Nat) (h1 : n * 2 ^ c1 = m * 2 ^ c2) (h2 : d + c1 = e + c2) : DirW up m e w := by
  obtain ⟨a, k, b, c⟩ := h
  refine ⟨a, k, ?_, c⟩
  have p1 := pow_pos_int c1
  have p2 := pow_pos_int c2
  have key : ∀ v : Int, v * 2 ^ d * 2 ^ c1 = v * 2 ^ e * 2 ^ c2 := fun v => by
    rw [Int.mul_assoc, Int.mul_assoc, ← Int.pow_add, ← Int.pow_add, h2]
  unfold Dir at b ⊢
  cases up
  · rw [if_neg (by simp)] at b ⊢
    constructor
    · refine Int.le_of_mul_le_mul_right ?_ p2
      rw [← key, ← h1]; exact Int.mul_le_mul_of_nonneg_right b.1 (Int.le_of_lt p1)
    · refine Int.lt_of_mul_lt_mul_right ?_ (Int.le_of_lt p2)
      rw [← key, ← h1]; exact Int.mul_lt_mul_of_pos_right b.2 p1
  · rw [if_pos rfl] at b ⊢
    constructor
    · refine Int.le_of_mul_le_mul_right ?_ p2
      rw [← key, ← h1]; exact Int.mul_le_mul_of_nonneg_right b.1 (Int.le_of_lt p1)
    · refine Int.lt_of_mul_lt_mul_right ?_ (Int.le_of_lt p2)
      rw [← key, ← h1]; exact Int.mul_lt_mul_of_pos_right b.2 p1

/-- A size's sign. -/
def sgz (s : Bool) (n : Nat) : Int := if s then -(n : Int) else (n : Int)
theorem V_sgz (s : Bool) (r : Nat) : V (sgz s r) = sgz s (rv r) := by
  unfold sgz
  cases s
  · simp only [Bool.false_eq_true, if_false]; unfold V; rw [if_neg (by omega), Int.toNat_natCast]
  · simp only [if_true]; rw [V_neg]; unfold V; rw [if_neg (by omega), Int.toNat_natCast]
theorem Rnd.between {n d r : Nat} (h : Rnd n d r) : n < rv (r + 1) * 2 ^ d ∧ (0 < r → rv (r - 1) * 2 ^ d < n) := by
  have pd : 0 < 2 ^ d := Nat.two_pow_pos d
  have h1 := rv_lt_succ r
  constructor
  · have h2 := h.hi
    have h3 : rv r * 2 ^ d < rv (r + 1) * 2 ^ d := Nat.mul_lt_mul_of_pos_right h1 pd
    rw [Nat.add_mul] at h2
    omega
  · intro h0
    have h2 := h.lo h0
    have h3 : rv (r - 1) * 2 ^ d < rv r * 2 ^ d := Nat.mul_lt_mul_of_pos_right (rv_mono (by omega)) pd
    rw [Nat.add_mul] at h2
    omega
/-- The rung on a side of a size, by how the size stands to its nearest rung. -/
theorem dir_mag (s up : Bool) (n d r : Nat) (h : Rnd n d r) (h0 : 0 < n) : Dir up (sgz s n) d (sgz s r + (if (cmpS s (compare n (rv r * 2 ^ d)) = .gt ∧ up = true) then 1 else if (cmpS s (compare n (rv r * 2 ^ d)) = .lt ∧ up = false) then -1 else 0)) := by
  obtain ⟨b1, b2⟩ := h.between
  have pd : 0 < 2 ^ d := Nat.two_pow_pos d
  have hr0 : r = 0 → compare n (rv r * 2 ^ d) = .gt := by
    intro hr; subst hr; rw [rv_zero, Nat.zero_mul, compare_nat, if_neg (by omega), if_neg (by omega)]
  have castp : ((2 ^ d : Nat) : Int) = (2 : Int) ^ d := by simp
  have kp : ∀ v : Nat, sgz s v * 2 ^ d = sgz s (v * 2 ^ d) := fun v => by
    unfold sgz; rw [← castp]; cases s
    · simp
    · simp [Int.neg_mul]
  have kr : V (sgz s r) * 2 ^ d = sgz s (rv r * 2 ^ d) := by rw [V_sgz, kp]
  have ku : V (sgz s (r + 1)) * 2 ^ d = sgz s (rv (r + 1) * 2 ^ d) := by rw [V_sgz, kp]
  have kd : V (sgz s (r - 1)) * 2 ^ d = sgz s (rv (r - 1) * 2 ^ d) := by rw [V_sgz, kp]
  have up1 : sgz s (r + 1) = sgz s r + (if s then -1 else 1) := by unfold sgz; cases s <;> simp; omega
  have dn1 : 0 < r → sgz s (r - 1) = sgz s r - (if s then -1 else 1) := by intro h; unfold sgz; cases s <;> simp <;> omega
  -- r = 0: the rung below is the opposite of the one above
  have k1 : r = 0 → V (0 - 1) * 2 ^ d = -(2 : Int) ^ d ∧ V (0 + 1) * 2 ^ d = (2 : Int) ^ d := by
    intro _; rw [show V (0 - 1) = -1 by decide, show V (0 + 1) = 1 by decide]; omega
  have hc : compare n (rv r * 2 ^ d) = if n < rv r * 2 ^ d then .lt else if n = rv r * 2 ^ d then .eq else .gt := rfl
  have pz := pow_pos_int d
  unfold Dir
  rcases Nat.lt_trichotomy n (rv r * 2 ^ d) with hlt | heq | hgt
  · have hr : 0 < r := by
      rcases Nat.eq_zero_or_pos r with h | h
      · have := hr0 h; rw [hc, if_pos hlt] at this; cases this
      · exact h
    have hb := b2 hr
    have hcmp : compare n (rv r * 2 ^ d) = Ordering.lt := by rw [hc, if_pos hlt]
    rw [hcmp]
    have dd := dn1 hr
    cases s
    · simp only [Bool.false_eq_true, if_false] at up1 dd
      cases up
      · simp only [cmpS, Bool.false_eq_true, if_false, and_false, and_true, if_true]
        rw [show sgz false r + -1 = sgz false (r - 1) by omega, kd, show sgz false (r - 1) + 1 = sgz false r by omega, kr]
        unfold sgz; simp only [Bool.false_eq_true, if_false]; omega
      · simp only [cmpS, Bool.false_eq_true, if_false, and_false, and_true, if_true, reduceCtorEq, false_and]
        rw [show sgz false r + 0 = sgz false r by omega, kr, show sgz false r - 1 = sgz false (r - 1) by omega, kd]
        unfold sgz; simp only [Bool.false_eq_true, if_false]; omega
    · simp only [if_true] at up1 dd
      cases up
      · simp only [cmpS, Bool.false_eq_true, if_false, and_false, and_true, if_true, Ordering.swap_lt, reduceCtorEq, false_and]
        rw [show sgz true r + 0 = sgz true r by omega, kr, show sgz true r + 1 = sgz true (r - 1) by omega, kd]
        unfold sgz; simp only [if_true]; omega
      · simp only [cmpS, and_true, if_true, Ordering.swap_lt]
        rw [show sgz true r + 1 = sgz true (r - 1) by omega, kd, show sgz true (r - 1) - 1 = sgz true r by omega, kr]
        unfold sgz; simp only [if_true]; omega
  · have hcmp : compare n (rv r * 2 ^ d) = Ordering.eq := by rw [hc, if_neg (by omega), if_pos heq]
    rw [hcmp]
    have hr : 0 < r := by
      rcases Nat.eq_zero_or_pos r with h | h
      · have := hr0 h; rw [hc, if_neg (by omega), if_pos heq] at this; cases this
      · exact h
    have hb := b2 hr
    have dd := dn1 hr
    have hz : ∀ t : Bool, cmpS t .eq = .eq := fun t => by cases t <;> rfl
    rw [hz]
    simp only [reduceCtorEq, false_and, if_false]
    rw [show sgz s r + 0 = sgz s r by omega, kr]
    cases s
    · simp only [Bool.false_eq_true, if_false] at up1 dd
      rw [show sgz false r + 1 = sgz false (r + 1) by omega, ku, show sgz false r - 1 = sgz false (r - 1) by omega, kd]
      unfold sgz; simp only [Bool.false_eq_true, if_false]
      cases up <;> simp only [Bool.false_eq_true, if_false, if_true] <;> omega
    · simp only [if_true] at up1 dd
      rw [show sgz true r + 1 = sgz true (r - 1) by omega, kd, show sgz true r - 1 = sgz true (r + 1) by omega, ku]
      unfold sgz; simp only [if_true]
      cases up <;> simp only [Bool.false_eq_true, if_false, if_true] <;> omega
  · have hcmp : compare n (rv r * 2 ^ d) = Ordering.gt := by rw [hc, if_neg (by omega), if_neg (by omega)]
    rw [hcmp]
    cases s
    · simp only [Bool.false_eq_true, if_false] at up1
      cases up
      · simp only [cmpS, Bool.false_eq_true, if_false, and_false, and_true, if_true, reduceCtorEq, false_and]
        rw [show sgz false r + 0 = sgz false r by omega, kr, show sgz false r + 1 = sgz false (r + 1) by omega, ku]
        unfold sgz; simp only [Bool.false_eq_true, if_false]; omega
      · simp only [cmpS, Bool.false_eq_true, if_false, and_true, if_true]
        rw [show sgz false r + 1 = sgz false (r + 1) by omega, ku, show sgz false (r + 1) - 1 = sgz false r by omega, kr]
        unfold sgz; simp only [Bool.false_eq_true, if_false]; omega
    · simp only [if_true] at up1
      cases up
      · simp only [cmpS, Bool.false_eq_true, if_false, and_false, and_true, if_true, Ordering.swap_gt]
        rw [show sgz true r + -1 = sgz true (r + 1) by omega, ku, show sgz true (r + 1) + 1 = sgz true r by omega, kr]
        unfold sgz; simp only [if_true]; omega
      · simp only [cmpS, and_true, if_true, Ordering.swap_gt, reduceCtorEq, false_and, and_false, if_false, Bool.true_eq_false]
        rw [show sgz true r + 0 = sgz true r by omega, kr, show sgz true r - 1 = sgz true (r + 1) by omega, ku]
        unfold sgz; simp only [if_true]; omega
end Fl
end Go.Proofs.Ytgockebgcbmgoaa

/-
  Plain facts on IEEE doubles as the model has them (Ieee): a word's sign and rung, the value of a rung in units of 2^-1074, the nearest rung of a number, and that what is exactly a float is not rounded.
-/
import Ieee.Arith
import Derived.Laws.FloatBits
namespace Go.Proofs.Ytgockebgcbmgoaa
namespace Fl
open Ieee

/-- The rung of infinity. -/
def I : Nat := 9218868437227405312
/-- Rungs to a binade. -/
def B : Nat := 4503599627370496
def W : Nat := 9223372036854775808
theorem B_eq : B = 2 ^ 52 := by decide
theorem W_eq : W = 2 ^ 63 := by decide
theorem I_eq : I = 2047 * B := by decide
theorem dB : double.binade = B := by decide
theorem dI : double.infRung = I := by decide
theorem dW : double.signWeight = W := by decide
theorem dL : double.leastPlace = -1074 := by decide
theorem dF : double.fractionBits = 52 := by decide

/-! ### rungs -/
def ex (r : Nat) : Nat := r / B - 1
def mant (r : Nat) : Nat := r - ex r * B
/-- The value of a rung, in units of 2^-1074. -/
def rv (r : Nat) : Nat := mant r * 2 ^ ex r

theorem mant_lt (r : Nat) : mant r < 2 * B := by
  unfold mant ex B; omega
theorem ex_mant (r : Nat) : r = ex r * B + mant r := by
  unfold mant ex B; omega
theorem mant_ge (r : Nat) : ex r = 0 ∨ B ≤ mant r := by
  unfold mant ex B; omega

theorem ex_of (e m : Nat) (hm : m < 2 * B) (h : e = 0 ∨ B ≤ m) : ex (e * B + m) = e := by
  unfold ex B at *; omega
theorem mant_of (e m : Nat) (hm : m < 2 * B) (h : e = 0 ∨ B ≤ m) : mant (e * B + m) = m := by
  unfold mant; rw [ex_of e m hm h]; omega

theorem rv_of (e m : Nat) (hm : m ≤ 2 * B) (h : e = 0 ∨ B ≤ m) : rv (e * B + m) = m * 2 ^ e := by
  rcases Nat.lt_or_ge m (2 * B) with h1 | h1
  · unfold rv; rw [ex_of e m h1 h, mant_of e m h1 h]
  · have h2 : m = 2 * B := by omega
    subst h2
    have e1 : e * B + 2 * B = (e + 1) * B + B := by grind
    have hB : B < 2 * B := by unfold B; omega
    rw [e1]; unfold rv; rw [ex_of (e + 1) B hB (Or.inr (Nat.le_refl _)), mant_of (e + 1) B hB (Or.inr (Nat.le_refl _))]
    rw [Nat.pow_succ, Nat.mul_comm (2 ^ e) 2, ← Nat.mul_assoc, Nat.mul_comm B 2]

theorem rv_succ (r : Nat) : rv (r + 1) = rv r + 2 ^ ex r := by
  have h := rv_of (ex r) (mant r + 1) (by have := mant_lt r; omega) (by rcases mant_ge r with h | h; exact .inl h; exact .inr (by omega))
  rw [← Nat.add_assoc, ← ex_mant r] at h
  rw [h, Nat.succ_mul]; rfl

theorem rv_lt_succ (r : Nat) : rv r < rv (r + 1) := by
  have := rv_succ r; have : 0 < 2 ^ ex r := Nat.two_pow_pos _; omega

theorem rv_mono {a b : Nat} (h : a < b) : rv a < rv b := by
  induction b with
  | zero => omega
  | succ n ih =>
    have := rv_lt_succ n
    rcases Nat.lt_or_ge a n with h1 | h1
    · have := ih h1; omega
    · have : a = n := by omega
      subst this; omega

theorem rv_le {a b : Nat} (h : a ≤ b) : rv a ≤ rv b := by
  rcases Nat.lt_or_ge a b with h1 | h1
  · exact Nat.le_of_lt (rv_mono h1)
  · have : a = b := by omega
    subst this; exact Nat.le_refl _
theorem rv_lt_iff {a b : Nat} : rv a < rv b ↔ a < b :=
  ⟨fun h => by rcases Nat.lt_or_ge a b with h1 | h1; exact h1; have := rv_le h1; omega, rv_mono⟩
theorem rv_le_iff {a b : Nat} : rv a ≤ rv b ↔ a ≤ b :=
  ⟨fun h => by rcases Nat.lt_or_ge b a with h1 | h1; have := rv_mono h1; omega; exact h1, rv_le⟩
theorem rv_inj {a b : Nat} (h : rv a = rv b) : a = b := by
  have h1 := rv_le_iff.1 (Nat.le_of_eq h); have h2 := rv_le_iff.1 (Nat.le_of_eq h.symm); omega
theorem rv_zero : rv 0 = 0 := by decide
theorem rv_pos {r : Nat} (h : 0 < r) : 0 < rv r := by have := rv_mono h; rw [rv_zero] at this; exact this

/-- What has at most 53 digits is a rung's value. -/
theorem rep (m j : Nat) (h : m ≤ 2 * B) : ∃ r, rv r = m * 2 ^ j := by
  induction j generalizing m with
  | zero => exact ⟨m, by have := rv_of 0 m h (.inl rfl); simpa using this⟩
  | succ j ih =>
    rcases Nat.lt_or_ge m B with h1 | h1
    · obtain ⟨r, hr⟩ := ih (2 * m) (by omega)
      exact ⟨r, by rw [hr, Nat.pow_succ, Nat.mul_comm 2 m, Nat.mul_assoc, Nat.mul_comm 2]⟩
    · exact ⟨(j + 1) * B + m, rv_of (j + 1) m h (.inr h1)⟩

/-! ### the nearest rung -/
/-- r is the rung nearest to n / 2^d units, ties to even. -/
structure Rnd (n d r : Nat) : Prop where
  hi : 2 * n ≤ (rv r + rv (r + 1)) * 2 ^ d
  hie : 2 * n = (rv r + rv (r + 1)) * 2 ^ d → r % 2 = 0
  lo : 0 < r → (rv (r - 1) + rv r) * 2 ^ d ≤ 2 * n
  loe : 0 < r → (rv (r - 1) + rv r) * 2 ^ d = 2 * n → r % 2 = 0

theorem Rnd.mono {n d r m k q : Nat} (h1 : Rnd n d r) (h2 : Rnd m k q) (h : n * 2 ^ k ≤ m * 2 ^ d) : r ≤ q := by
  rcases Nat.lt_or_ge q r with hq | hq
  · exfalso
    have a1 := h1.lo (by omega)
    have a2 := h2.hi
    have hle : rv q + rv (q + 1) ≤ rv (r - 1) + rv r := Nat.add_le_add (rv_le (by omega)) (rv_le (by omega))
    have b1 : (rv (r - 1) + rv r) * 2 ^ d * 2 ^ k ≤ 2 * n * 2 ^ k := Nat.mul_le_mul_right _ a1
    have b2 : 2 * m * 2 ^ d ≤ (rv q + rv (q + 1)) * 2 ^ k * 2 ^ d := Nat.mul_le_mul_right _ a2
    have b3 : 2 * n * 2 ^ k ≤ 2 * m * 2 ^ d := by rw [Nat.mul_assoc, Nat.mul_assoc]; exact Nat.mul_le_mul_left 2 h
    have b4 : (rv (r - 1) + rv r) * (2 ^ d * 2 ^ k) ≤ (rv q + rv (q + 1)) * (2 ^ d * 2 ^ k) := by
      rw [← Nat.mul_assoc]; refine Nat.le_trans (Nat.le_trans b1 (Nat.le_trans b3 b2)) ?_
      rw [Nat.mul_assoc, Nat.mul_comm (2 ^ k)]; exact Nat.le_refl _
    have hp : 0 < 2 ^ d * 2 ^ k := Nat.mul_pos (Nat.two_pow_pos _) (Nat.two_pow_pos _)
    have b5 := Nat.le_of_mul_le_mul_right b4 hp
    have heq : rv q + rv (q + 1) = rv (r - 1) + rv r := by omega
    have hqr : q = r - 1 := by
      have c1 : rv q ≤ rv (r - 1) := rv_le (by omega)
      have c2 : rv (q + 1) ≤ rv r := rv_le (by omega)
      exact rv_inj (by omega)
    -- all are one
    have d1 : 2 * n * 2 ^ k = (rv (r - 1) + rv r) * 2 ^ d * 2 ^ k := by
      apply Nat.le_antisymm _ b1
      refine Nat.le_trans b3 (Nat.le_trans b2 ?_)
      rw [heq, Nat.mul_assoc, Nat.mul_assoc, Nat.mul_comm (2 ^ k)]; exact Nat.le_refl _
    have d2 : 2 * n = (rv (r - 1) + rv r) * 2 ^ d := Nat.eq_of_mul_eq_mul_right (Nat.two_pow_pos k) d1
    have d3 : 2 * m * 2 ^ d = (rv q + rv (q + 1)) * 2 ^ k * 2 ^ d := by
      apply Nat.le_antisymm b2
      rw [heq, Nat.mul_assoc, Nat.mul_comm (2 ^ k), ← Nat.mul_assoc]
      exact Nat.le_trans b1 b3
    have d4 : 2 * m = (rv q + rv (q + 1)) * 2 ^ k := Nat.eq_of_mul_eq_mul_right (Nat.two_pow_pos d) d3
    have e1 := h1.loe (by omega) d2.symm
    have e2 := h2.hie d4
    omega
  · exact hq

theorem Rnd.eq {n d r q : Nat} (h1 : Rnd n d r) (h2 : Rnd n d q) : r = q :=
  Nat.le_antisymm (h1.mono h2 (Nat.le_refl _)) (h2.mono h1 (Nat.le_refl _))

/-- What is a rung's value is rounded to it. -/
theorem Rnd.exact (r d : Nat) : Rnd (rv r * 2 ^ d) d r := by
  have h0 := rv_lt_succ r
  have hp : 0 < 2 ^ d := Nat.two_pow_pos _
  refine ⟨?_, ?_, ?_, ?_⟩
  · rw [← Nat.mul_assoc]; exact Nat.mul_le_mul_right _ (by omega)
  · intro h; rw [← Nat.mul_assoc] at h; have := Nat.eq_of_mul_eq_mul_right hp h; omega
  · intro h; have := rv_mono (show r - 1 < r by omega)
    rw [← Nat.mul_assoc]; exact Nat.mul_le_mul_right _ (by omega)
  · intro h h2; have := rv_mono (show r - 1 < r by omega)
    rw [← Nat.mul_assoc] at h2; have := Nat.eq_of_mul_eq_mul_right hp h2; omega

theorem Rnd.scale {n d r : Nat} (h : Rnd n d r) (c : Nat) : Rnd (n * 2 ^ c) (d + c) r := by
  have hp : 0 < 2 ^ c := Nat.two_pow_pos _
  have key : ∀ x : Nat, x * 2 ^ (d + c) = x * 2 ^ d * 2 ^ c := fun x => by rw [Nat.pow_add, Nat.mul_assoc]
  refine ⟨?_, ?_, ?_, ?_⟩
  · rw [key, ← Nat.mul_assoc]; exact Nat.mul_le_mul_right _ h.hi
  · intro e; rw [key, ← Nat.mul_assoc] at e; exact h.hie (Nat.eq_of_mul_eq_mul_right hp e)
  · intro h1; rw [key, ← Nat.mul_assoc]; exact Nat.mul_le_mul_right _ (h.lo h1)
  · intro h1 e; rw [key, ← Nat.mul_assoc] at e; exact h.loe h1 (Nat.eq_of_mul_eq_mul_right hp e)

theorem Rnd.unscale {n d r : Nat} (c : Nat) (h : Rnd (n * 2 ^ c) (d + c) r) : Rnd n d r := by
  have hp : 0 < 2 ^ c := Nat.two_pow_pos _
  have key : ∀ x : Nat, x * 2 ^ (d + c) = x * 2 ^ d * 2 ^ c := fun x => by rw [Nat.pow_add, Nat.mul_assoc]
  refine ⟨?_, ?_, ?_, ?_⟩
  · have := h.hi; rw [key, ← Nat.mul_assoc] at this; exact Nat.le_of_mul_le_mul_right this hp
  · intro e; apply h.hie; rw [key, ← Nat.mul_assoc, e]
  · intro h1; have := h.lo h1; rw [key, ← Nat.mul_assoc] at this; exact Nat.le_of_mul_le_mul_right this hp
  · intro h1 e; apply h.loe h1; rw [key, ← Nat.mul_assoc, e]

/-! ### halves to even -/
/-- k is n / 2^b, rounded to nearest, ties to even. -/
structure Cut (n b k : Nat) : Prop where
  hi : 2 * n ≤ (2 * k + 1) * 2 ^ b
  hie : 2 * n = (2 * k + 1) * 2 ^ b → k % 2 = 0
  lo : 2 * k * 2 ^ b ≤ 2 * n + 2 ^ b
  loe : 2 * k * 2 ^ b = 2 * n + 2 ^ b → k % 2 = 0

theorem cut_aux (low rest gap : Nat) (hr : rest < gap) :
    let k := low + (gap < 2 * rest || (gap == 2 * rest && low % 2 == 1)).toNat
    2 * (low * gap + rest) ≤ (2 * k + 1) * gap ∧ (2 * (low * gap + rest) = (2 * k + 1) * gap → k % 2 = 0) ∧ 2 * k * gap ≤ 2 * (low * gap + rest) + gap ∧ (2 * k * gap = 2 * (low * gap + rest) + gap → k % 2 = 0) := by
  intro k
  rcases Nat.lt_trichotomy gap (2 * rest) with h | h | h
  · have hk : k = low + 1 := by simp [k, h]
    rw [hk]
    have e1 : (2 * (low + 1) + 1) * gap = 2 * (low * gap) + 3 * gap := by grind
    have e2 : 2 * (low + 1) * gap = 2 * (low * gap) + 2 * gap := by grind
    rw [e1, e2]; omega
  · by_cases hl : low % 2 = 1
    · have hk : k = low + 1 := by
        simp [k, h, hl]
      rw [hk]
      have e1 : (2 * (low + 1) + 1) * gap = 2 * (low * gap) + 3 * gap := by grind
      have e2 : 2 * (low + 1) * gap = 2 * (low * gap) + 2 * gap := by grind
      rw [e1, e2]; omega
    · have hk : k = low := by
        have : ¬ gap < 2 * rest := by omega
        simp [k, this, hl]
      rw [hk]
      have e1 : (2 * low + 1) * gap = 2 * (low * gap) + gap := by grind
      have e2 : 2 * low * gap = 2 * (low * gap) := by rw [Nat.mul_assoc]
      rw [e1, e2]; omega
  · have hk : k = low := by
      have h1 : ¬ gap < 2 * rest := by omega
      have h2 : ¬ gap = 2 * rest := by omega
      simp [k, h1, h2]
    rw [hk]
    have e1 : (2 * low + 1) * gap = 2 * (low * gap) + gap := by grind
    have e2 : 2 * low * gap = 2 * (low * gap) := by rw [Nat.mul_assoc]
    rw [e1, e2]; omega

theorem cut_even (neg : Bool) (n b : Nat) : Cut n b (Toward.even.cut neg n b) := by
  unfold Toward.cut
  simp only [Nat.one_shiftLeft]
  rcases Nat.lt_or_ge (n.log2 + 2) b with hb | hb
  · -- all is dropped
    have hmin : min b (n.log2 + 2) = n.log2 + 2 := by omega
    rw [hmin]
    have hn : n < 2 ^ (n.log2 + 1) := Nat.lt_log2_self
    have h4 : 2 ^ (n.log2 + 2) = 2 * 2 ^ (n.log2 + 1) := by rw [Nat.pow_succ 2 (n.log2 + 1)]; omega
    have hd : n / 2 ^ (n.log2 + 2) = 0 := Nat.div_eq_of_lt (by omega)
    have hm : n % 2 ^ (n.log2 + 2) = n := Nat.mod_eq_of_lt (by omega)
    rw [hd, hm]
    have h1 : ¬ 2 ^ (n.log2 + 2) < 2 * n := by omega
    have h2 : ¬ 2 ^ (n.log2 + 2) = 2 * n := by omega
    simp only [h1, decide_false, Bool.false_or, beq_eq_false_iff_ne.2 h2, Bool.false_and, Bool.toNat_false, Nat.add_zero]
    have hle : 2 ^ (n.log2 + 2) ≤ 2 ^ b := Nat.pow_le_pow_right (by omega) (by omega)
    exact ⟨by omega, by omega, by omega, by omega⟩
  · have hmin : min b (n.log2 + 2) = b := by omega
    rw [hmin]
    have hp : 0 < 2 ^ b := Nat.two_pow_pos _
    have h := cut_aux (n / 2 ^ b) (n % 2 ^ b) (2 ^ b) (Nat.mod_lt _ hp)
    have hdm : n / 2 ^ b * 2 ^ b + n % 2 ^ b = n := by rw [Nat.mul_comm]; exact Nat.div_add_mod n (2 ^ b)
    simp only [hdm] at h
    exact ⟨h.1, h.2.1, h.2.2.1, h.2.2.2⟩


/-! ### the nearest word -/
theorem mul_le_cancel {a b c : Nat} (hc : 0 < c) (h : a * c ≤ b * c) : a ≤ b := Nat.le_of_mul_le_mul_right h hc

theorem alg1 (s L D P : Nat) : s * L * D * P = s * P * (L * D) := by grind
theorem alg2 (n N P L D : Nat) (h : n * P = N * L * D) : 2 * n * P = 2 * N * (L * D) := by grind
theorem alg3 (k L : Nat) : (2 * k + 1) * L = k * L + (k + 1) * L := by grind
theorem alg4 (k L D P : Nat) : (k * L + (k + 1) * L) * D * P = (2 * k + 1) * P * (L * D) := by grind
theorem alg5 (q P : Nat) : q * P + P = (q + 1) * P := by grind
theorem alg6 (x k L D P : Nat) (h : x + L = k * L) : (x + k * L) * D * P + P * (L * D) = 2 * k * P * (L * D) := by
  have : (x + k * L) * D * P + P * (L * D) = (x + L + k * L) * (D * P) := by grind
  rw [this, h]; grind
theorem alg7 (L : Nat) : 2 * B * L = B * L + B * L := by generalize B = b; grind

/-- Where a cut lies among rungs. -/
theorem rv_around (k l : Nat) (hk : k ≤ 2 * B) (hlB : l = 0 ∨ B ≤ k) : rv (l * B + k) = k * 2 ^ l ∧ (k + 1) * 2 ^ l ≤ rv (l * B + k + 1) ∧ (k < 2 * B → rv (l * B + k + 1) = (k + 1) * 2 ^ l) ∧ (0 < l * B + k → rv (l * B + k - 1) + 2 ^ l = k * 2 ^ l ∨ (0 < l ∧ k = B ∧ rv (l * B + k - 1) < k * 2 ^ l)) := by
  have pl : 0 < 2 ^ l := Nat.two_pow_pos _
  have hr := rv_of l k hk hlB
  refine ⟨hr, ?_, ?_, ?_⟩
  · rcases Nat.lt_or_ge k (2 * B) with h1 | h1
    · have := rv_of l (k + 1) (by omega) (by rcases hlB with h | h; exact .inl h; exact .inr (by omega))
      rw [← Nat.add_assoc] at this
      omega
    · have e1 : k = 2 * B := by omega
      have hs := rv_succ (l * B + k)
      have e2 : l * B + k = (l + 1) * B + B := by rw [e1]; generalize B = b; grind
      have hex : ex (l * B + k) = l + 1 := by rw [e2]; exact ex_of (l + 1) B (by unfold B; omega) (.inr (Nat.le_refl _))
      rw [hs, hr, hex, Nat.pow_succ, Nat.succ_mul]; omega
  · intro h1
    have := rv_of l (k + 1) (by omega) (by rcases hlB with h | h; exact .inl h; exact .inr (by omega))
    rw [← Nat.add_assoc] at this
    exact this
  · intro hpos
    rcases Nat.lt_or_ge 0 l with h0 | h0
    · rcases Nat.lt_or_ge B k with h1 | h1
      · left
        have := rv_of l (k - 1) (by omega) (.inr (by omega))
        have e : l * B + k - 1 = l * B + (k - 1) := by omega
        rw [e, this, alg5]
        have : k - 1 + 1 = k := by omega
        rw [this]
      · right
        have hkB : k = B := by rcases hlB with h | h; omega; omega
        refine ⟨h0, hkB, ?_⟩
        rw [← hr]; exact rv_mono (by omega)
    · left
      have hl0 : l = 0 := by omega
      subst hl0
      have := rv_of 0 (k - 1) (by omega) (.inl rfl)
      simp only [Nat.zero_mul, Nat.zero_add, Nat.pow_zero, Nat.mul_one] at *
      omega

/-- From a cut to the nearest rung. -/
theorem rnd_of_cut (N b k l n d : Nat) (hc : Cut N b k) (hk : k ≤ 2 * B) (hlB : l = 0 ∨ B ≤ k) (hN : l = 0 ∨ B * 2 ^ b ≤ N) (h : n * 2 ^ b = N * 2 ^ l * 2 ^ d) : Rnd n d (l * B + k) := by
  have par : (l * B + k) % 2 = k % 2 := by
    have : l * B = 2 * (l * 2251799813685248) := by unfold B; omega
    omega
  obtain ⟨hr, hup, hup2, hdn⟩ := rv_around k l hk hlB
  obtain ⟨c1, c2, c3, c4⟩ := hc
  have key2 := alg2 n N (2 ^ b) (2 ^ l) (2 ^ d) h
  have pb : 0 < 2 ^ b := Nat.two_pow_pos _
  have pd : 0 < 2 ^ d := Nat.two_pow_pos _
  have pld : 0 < 2 ^ l * 2 ^ d := Nat.mul_pos (Nat.two_pow_pos _) pd
  have hl0 : 0 < l → B * 2 ^ b ≤ N := fun h0 => by rcases hN with h | h; omega; exact h
  clear hlB hN h
  have Bev : (2 * B) % 2 = 0 := by omega
  refine ⟨?_, ?_, ?_, ?_⟩
  all_goals
    generalize 2 ^ b = P at *
    generalize 2 ^ l = L at *
    generalize 2 ^ d = D at *
  · apply mul_le_cancel pb
    rw [key2, hr]
    refine Nat.le_trans (Nat.mul_le_mul_right _ c1) ?_
    rw [← alg1]
    refine Nat.mul_le_mul_right _ (Nat.mul_le_mul_right _ ?_)
    rw [alg3]; omega
  · intro e
    rw [par]
    rcases Nat.lt_or_ge k (2 * B) with h1 | h1
    · apply c2
      have e2 : 2 * n * P = (k * L + (k + 1) * L) * D * P := by rw [e, hr, hup2 h1]
      rw [key2, alg4] at e2
      exact Nat.eq_of_mul_eq_mul_right pld e2
    · have : k = 2 * B := by omega
      rw [this]; exact Bev
  · intro hpos
    apply mul_le_cancel pb
    rw [key2]
    rcases hdn hpos with h1 | ⟨h1, h2, h3⟩
    · have hk0 : 1 ≤ k := by
        rcases Nat.eq_zero_or_pos k with h | h
        · subst h; rw [Nat.zero_mul] at h1
          have : L = 0 := by omega
          subst this; rw [Nat.zero_mul] at pld; omega
        · exact h
      obtain ⟨q, hq⟩ : ∃ q, 2 * k = q + 1 := ⟨2 * k - 1, by omega⟩
      have h2 : q * P ≤ 2 * N := by
        rw [hq, ← alg5] at c3; omega
      refine Nat.le_trans ?_ (Nat.mul_le_mul_right _ h2)
      rw [← alg1, hr]
      refine Nat.mul_le_mul_right _ (Nat.mul_le_mul_right _ ?_)
      have e : q * L + L = 2 * (k * L) := by rw [alg5, ← hq, Nat.mul_assoc]
      omega
    · have e : rv (l * B + k - 1) + rv (l * B + k) ≤ 2 * B * L := by
        rw [alg7, hr]; rw [h2] at h3 ⊢; omega
      refine Nat.le_trans (Nat.mul_le_mul_right _ (Nat.mul_le_mul_right _ e)) ?_
      rw [alg1]
      exact Nat.mul_le_mul_right _ (by rw [Nat.mul_assoc]; exact Nat.mul_le_mul_left 2 (hl0 h1))
  · intro hpos e
    rw [par]
    rcases hdn hpos with h1 | ⟨h1, h2, h3⟩
    · apply c4
      have e2 : (rv (l * B + k - 1) + k * L) * D * P = 2 * N * (L * D) := by rw [← key2, ← e, hr]
      have e3 := alg6 (rv (l * B + k - 1)) k L D P h1
      rw [e2, ← Nat.add_mul] at e3
      exact (Nat.eq_of_mul_eq_mul_right pld e3).symm
    · exfalso
      have e2 : (rv (l * B + k - 1) + k * L) * D * P = 2 * N * (L * D) := by rw [← key2, ← e, hr]
      have e4 : rv (l * B + k - 1) + k * L < 2 * B * L := by
        rw [alg7]; rw [h2] at h3 ⊢; omega
      have e5 : (rv (l * B + k - 1) + k * L) * D * P < 2 * B * L * D * P :=
        Nat.mul_lt_mul_of_pos_right (Nat.mul_lt_mul_of_pos_right e4 pd) pb
      rw [alg1 (2 * B), e2] at e5
      have : 2 * N * (L * D) ≥ 2 * B * P * (L * D) := Nat.mul_le_mul_right _ (by rw [Nat.mul_assoc]; exact Nat.mul_le_mul_left 2 (hl0 h1))
      omega

theorem cut_zero {n k : Nat} (h : Cut n 0 k) : k = n := by
  have := h.hi; have := h.lo; omega

theorem nearest_spec (neg : Bool) (mag : Nat) (place : Int) : ∃ r, double.nearest neg mag place = double.word neg (min r I) ∧ ∀ d n : Nat, 0 ≤ place + 1074 + d → n = mag * 2 ^ (place + 1074 + d).toNat → Rnd n d r := by
  unfold Format.nearest
  rw [dL, dF, dB, dI]
  by_cases hm : mag = 0
  · refine ⟨0, by simp [hm], ?_⟩
    intro d n _ hn
    subst hm
    rw [Nat.zero_mul] at hn; subst hn
    have := Rnd.exact 0 d
    rw [rv_zero, Nat.zero_mul] at this; exact this
  · rw [if_neg hm]
    dsimp only
    have hlo : 2 ^ mag.log2 ≤ mag := Nat.log2_self_le hm
    have hhi : mag < 2 ^ (mag.log2 + 1) := Nat.lt_log2_self
    generalize mag.log2 = L at *
    generalize hlast : max (place + (L : Int) - ((52 : Nat) : Int)) (-1074) = last
    generalize ha : (place - last).toNat = a
    generalize hb : (last - place).toNat = b
    rw [Nat.shiftLeft_eq]
    have hcut := cut_even neg (mag * 2 ^ a) b
    generalize Toward.even.cut neg (mag * 2 ^ a) b = k at *
    generalize hl : (last - -1074).toNat = l
    have hk : k ≤ 2 * B ∧ (l = 0 ∨ B ≤ k) ∧ (l = 0 ∨ B * 2 ^ b ≤ mag * 2 ^ a) := by
      rw [B_eq]
      rcases Nat.eq_zero_or_pos b with hb0 | hb0
      · subst hb0
        have := cut_zero hcut
        subst this
        have hLa : L + a ≤ 52 := by omega
        have h1 : mag * 2 ^ a < 2 ^ (L + 1) * 2 ^ a := Nat.mul_lt_mul_of_pos_right hhi (Nat.two_pow_pos _)
        have h2 : 2 ^ (L + 1) * 2 ^ a ≤ 2 * 2 ^ 52 := by
          rw [← Nat.pow_add, ← Nat.pow_succ']; exact Nat.pow_le_pow_right (by omega) (by omega)
        have h3 : l = 0 ∨ 2 ^ 52 ≤ mag * 2 ^ a := by
          rcases Nat.eq_zero_or_pos l with h | h
          · exact .inl h
          · right
            have : L + a = 52 := by omega
            calc 2 ^ 52 = 2 ^ L * 2 ^ a := by rw [← Nat.pow_add, this]
              _ ≤ mag * 2 ^ a := Nat.mul_le_mul_right _ hlo
        exact ⟨by omega, h3, by simpa using h3⟩
      · have ha0 : a = 0 := by omega
        subst ha0
        rw [Nat.pow_zero, Nat.mul_one] at hcut ⊢
        have hLb : L ≤ 52 + b := by omega
        have h1 : mag < 2 * 2 ^ 52 * 2 ^ b := by
          refine Nat.lt_of_lt_of_le hhi ?_
          rw [← Nat.pow_succ', ← Nat.pow_add]; exact Nat.pow_le_pow_right (by omega) (by omega)
        have pb : 0 < 2 ^ b := Nat.two_pow_pos _
        have h2 : k ≤ 2 * 2 ^ 52 := by
          have h := hcut.lo
          have : 2 * k * 2 ^ b < (2 * (2 * 2 ^ 52) + 1) * 2 ^ b := by
            have : (2 * (2 * 2 ^ 52) + 1) * 2 ^ b = 2 * (2 * 2 ^ 52 * 2 ^ b) + 2 ^ b := by grind
            omega
          have := Nat.lt_of_mul_lt_mul_right this
          omega
        have h3 : l = 0 ∨ 2 ^ 52 * 2 ^ b ≤ mag := by
          rcases Nat.eq_zero_or_pos l with h | h
          · exact .inl h
          · right
            have : L = 52 + b := by omega
            rw [← Nat.pow_add, ← this]; exact hlo
        refine ⟨h2, ?_, h3⟩
        rcases h3 with h | h
        · exact .inl h
        · right
          have h4 := hcut.hi
          have : 2 * 2 ^ 52 * 2 ^ b ≤ (2 * k + 1) * 2 ^ b := by
            have : 2 * 2 ^ 52 * 2 ^ b = 2 * (2 ^ 52 * 2 ^ b) := by grind
            omega
          have := mul_le_cancel pb this
          omega
    refine ⟨l * B + k, rfl, ?_⟩
    intro d n hd hn
    refine rnd_of_cut (mag * 2 ^ a) b k l n d hcut hk.1 hk.2.1 hk.2.2 ?_
    rw [hn, Nat.mul_assoc, Nat.mul_assoc, Nat.mul_assoc, ← Nat.pow_add, ← Nat.pow_add, ← Nat.pow_add]
    have : (place + 1074 + (d : Int)).toNat + b = a + (l + d) := by omega
    rw [this]

end Fl
end Go.Proofs.Ytgockebgcbmgoaa

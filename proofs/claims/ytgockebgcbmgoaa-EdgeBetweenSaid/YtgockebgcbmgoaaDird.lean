/-
  Plain facts: products with what is not below 0 grow, and roots.
-/
import Derived.Test.YtgockebgcbmgoaaDirc
set_option linter.unusedVariables false
set_option linter.unusedSimpArgs false
namespace Go.Proofs.Ytgockebgcbmgoaa
namespace Fl
open Ieee

theorem mant_zero {r : Nat} (h : mant r = 0) : r = 0 := by
  have h1 := ex_mant r
  rcases mant_ge r with h2 | h2
  · rw [h, h2, Nat.zero_mul] at h1; exact h1
  · rw [h] at h2; exact absurd h2 (by decide)
theorem mulS_cases {a c x : Nat} {up : Bool} (h : Is (mulS a c up) x) :
    I < rg x ∨ (rg x ≤ I ∧ rg a ≤ I ∧ rg c ≤ I ∧ ((rg a < I ∧ rg c < I ∧ DirW up (vl a * vl c) E x) ∨ (Inf (sg a ^^ sg c) x ∧ (rg a = I ∨ rg c = I) ∧ 0 < rg a ∧ 0 < rg c))) := by
  by_cases hf : rg a < I ∧ rg c < I
  · obtain ⟨r, e1, e2⟩ := mulS_dir a c up hf.1 hf.2
    rw [e1] at h
    have hx : x = r := h
    subst hx
    exact .inr ⟨e2.1, Nat.le_of_lt hf.1, Nat.le_of_lt hf.2, .inl ⟨hf.1, hf.2, e2⟩⟩
  · unfold mulS at h; rw [if_neg (fun hh => hf ⟨hh.1, hh.2.1⟩)] at h
    unfold Format.mul at h
    have fin : ∀ s, x = double.write (.infinity s) → Inf s x := fun s hx => by rw [write_inf] at hx; subst hx; exact Inf_wd s
    rcases three a with h1 | h1 | h1 <;> rcases three c with h2 | h2 | h2
    · exact absurd ⟨h1, h2⟩ hf
    · rw [read_fin a h1, read_inf c h2] at h
      simp only [Datum.product] at h
      by_cases hz : mant (rg a) = 0
      · rw [if_pos hz] at h; exact .inl h.1
      · rw [if_neg hz] at h
        have hx : x = double.write (.infinity (sg c ^^ sg a)) := h
        have hi := fin _ hx
        rw [Bool.xor_comm] at hi
        refine .inr ⟨Nat.le_of_eq hi.1, Nat.le_of_lt h1, Nat.le_of_eq h2, .inr ⟨hi, .inr h2, ?_, by rw [h2]; exact I_pos⟩⟩
        exact Nat.pos_of_ne_zero (fun hh => hz (by rw [hh]; decide))
    · rw [read_nan c h2] at h; unfold Datum.product at h; cases hr : double.read a <;> rw [hr] at h <;> exact .inl h.1
    · rw [read_inf a h1, read_fin c h2] at h
      simp only [Datum.product] at h
      by_cases hz : mant (rg c) = 0
      · rw [if_pos hz] at h; exact .inl h.1
      · rw [if_neg hz] at h
        have hx : x = double.write (.infinity (sg a ^^ sg c)) := h
        have hi := fin _ hx
        refine .inr ⟨Nat.le_of_eq hi.1, Nat.le_of_eq h1, Nat.le_of_lt h2, .inr ⟨hi, .inl h1, by rw [h1]; exact I_pos, ?_⟩⟩
        exact Nat.pos_of_ne_zero (fun hh => hz (by rw [hh]; decide))
    · rw [read_inf a h1, read_inf c h2] at h
      have hx : x = double.write (.infinity (sg a ^^ sg c)) := h
      have hi := fin _ hx
      exact .inr ⟨Nat.le_of_eq hi.1, Nat.le_of_eq h1, Nat.le_of_eq h2, .inr ⟨hi, .inl h1, by rw [h1]; exact I_pos, by rw [h2]; exact I_pos⟩⟩
    · rw [read_nan c h2] at h; unfold Datum.product at h; cases hr : double.read a <;> rw [hr] at h <;> exact .inl h.1
    · rw [read_nan a h1] at h; unfold Datum.product at h; cases hr : double.read c <;> rw [hr] at h <;> exact .inl h.1
    · rw [read_nan a h1] at h; unfold Datum.product at h; cases hr : double.read c <;> rw [hr] at h <;> exact .inl h.1
    · rw [read_nan a h1] at h; unfold Datum.product at h; cases hr : double.read c <;> rw [hr] at h <;> exact .inl h.1
theorem sg_of_key {a b : Nat} (hk : key a ≤ key b) (h : sg a = false) (ha : 0 < rg a) : sg b = false := by
  rw [key_of, key_of, h, sgz_false] at hk
  cases hs : sg b
  · rfl
  · rw [hs, sgz_true] at hk; omega
/-- Products with what is not below 0 grow. -/
theorem mul_grow {a b c x y : Nat} {up1 up2 : Bool} (hu : up1 = false ∨ up2 = true) (h1 : Is (mulS a c up1) x) (h2 : Is (mulS b c up2) y) (hab : NGt a b) (hc : rg c ≤ I → 0 ≤ key c) : NGt x y := by
  rcases mulS_cases h1 with n1 | ⟨x1, a1, c1, k1⟩
  · exact .inl n1
  rcases mulS_cases h2 with n2 | ⟨x2, b1, c2, k2⟩
  · exact .inr (.inl n2)
  have hk : key a ≤ key b := by
    rcases hab with h | h | h
    · exact absurd h (Nat.not_lt.2 a1)
    · exact absurd h (Nat.not_lt.2 b1)
    · exact h.2.2
  have hc0 := hc c1
  have sc : 0 < rg c → sg c = false := fun h => by
    cases hs : sg c
    · rfl
    · rw [key_of, hs, sgz_true] at hc0; omega
  refine .inr (.inr ⟨x1, x2, ?_⟩)
  rcases k1 with ⟨fa, fc, d1⟩ | ⟨i1, i2, i3, i4⟩
  · rcases k2 with ⟨fb, _, d2⟩ | ⟨j1, j2, j3, j4⟩
    · refine d1.mono d2 hu ?_
      have h3 := V_le hk
      rw [← vl_key, ← vl_key] at h3
      have h4 := V_le hc0
      rw [← vl_key, V_zero] at h4
      exact Int.mul_le_mul_of_nonneg_right (Int.mul_le_mul_of_nonneg_right h3 h4) (Int.le_of_lt (pow_pos_int E))
    · rw [sc j4, Bool.xor_false] at j1
      cases hs : sg b
      · rw [hs] at j1; exact j1.le_false _ (key_range x1).2
      · rcases j2 with j2 | j2
        · exact absurd ((show Inf true b from ⟨j2, hs⟩).down a1 hk) (fin_not_inf fa _)
        · exact absurd j2 (Nat.ne_of_lt fc)
  · rw [sc i4, Bool.xor_false] at i1
    cases hs : sg a
    · have hb : sg b = false := sg_of_key hk hs i3
      rcases k2 with ⟨fb, fc, d2⟩ | ⟨j1, j2, j3, j4⟩
      · rcases i2 with i2 | i2
        · exact absurd ((show Inf false a from ⟨i2, hs⟩).up b1 hk) (fin_not_inf fb _)
        · exact absurd i2 (Nat.ne_of_lt fc)
      · rw [sc j4, Bool.xor_false, hb] at j1; exact j1.le_false _ (key_range x1).2
    · rw [hs] at i1; exact i1.le_true _ (key_range x2).1

/-! ### roots -/
theorem pR_low (a : Nat) (h0 : 0 < rg a) (h : rg a < I) : -1000 ≤ pR a := by
  have := nE_range (rg a) h0 h; unfold pR par; omega
/-- A root in units, cut with a digit more. -/
def sqN (a : Nat) : Nat := if rg a = 0 then 0 else sM a * 2 ^ (pR a + 1074).toNat
theorem sqrtF_dir (a : Nat) (up : Bool) (h0 : 0 < rg a) (h : rg a < I) (hs : sg a = false) : DirW up (sqN a) 0 (sqrtF a up) := by
  have hp := pR_low a h0 h
  have hnr := near_dir false up (sM a) (pR a) (pR a + 1074).toNat 0 (by omega) (Nat.pos_of_ne_zero (sM_range a h0).1) (nearR a) rfl
  have hf : rg (nearR a) < I := by
    refine (mid_fin false (sM a) (pR a) 56 (sM_range a h0).1 (sM_range a h0).2.1 ?_ ?_).1
    · have := nE_range (rg a) h0 h; unfold pR par; omega
    · omega
  rw [if_neg (Nat.ne_of_lt hf), cmpS_false, sgz_false] at hnr
  unfold sqN; rw [if_neg (Nat.ne_of_gt h0)]
  exact hnr
theorem isq_mono {n m : Nat} (h : n ≤ m) : isq n ≤ isq m := by
  obtain ⟨a1, a2⟩ := isq_spec n
  obtain ⟨b1, b2⟩ := isq_spec m
  rcases Nat.lt_or_ge (isq m) (isq n) with h1 | h1
  · have := Nat.mul_le_mul (show isq m + 1 ≤ isq n from h1) (show isq m + 1 ≤ isq n from h1); omega
  · exact h1
theorem stickR_mono {n m : Nat} (h : n ≤ m) : stickR n ≤ stickR m := by
  have h1 := isq_mono h
  obtain ⟨a1, a2⟩ := isq_spec n
  obtain ⟨b1, b2⟩ := isq_spec m
  unfold stickR
  have t1 : (isq n * isq n != n).toNat ≤ 1 := by cases (isq n * isq n != n) <;> decide
  rcases Nat.lt_or_ge (isq n) (isq m) with h2 | h2
  · omega
  · have e : isq n = isq m := by omega
    rw [e] at a1 a2 t1 ⊢
    by_cases hm : isq m * isq m = m
    · have : n = m := by omega
      rw [this]; exact Nat.le_refl _
    · have e2 : (isq m * isq m != m) = true := by simpa using hm
      rw [e2]; have : true.toNat = 1 := rfl
      omega
theorem norm_mono {r q : Nat} (h0 : 0 < r) (h1 : 0 < q) (hr : r < I) (hq : q < I) (h : r ≤ q) : nE r < nE q ∨ (nE r = nE q ∧ nM r ≤ nM q) := by
  have l1 := rv_le h
  obtain ⟨c1, c2, e1, e2⟩ := rv_norm r h0
  obtain ⟨d1, d2, g1, g2⟩ := rv_norm q h1
  obtain ⟨m1, m2⟩ := nM_range r h0
  obtain ⟨n1, n2⟩ := nM_range q h1
  -- nM r 2^(c2+d1) = rv r 2^(c1+d1) ≤ rv q 2^(c1+d1) = nM q 2^(d2+c1)
  have l2 : nM r * 2 ^ (c2 + d1) ≤ nM q * 2 ^ (d2 + c1) := by
    rw [Nat.pow_add, Nat.pow_add, ← Nat.mul_assoc, ← Nat.mul_assoc, ← e1, ← g1, Nat.mul_assoc, Nat.mul_assoc, Nat.mul_comm (2 ^ d1)]
    exact Nat.mul_le_mul_right _ l1
  rcases Int.lt_trichotomy (nE r) (nE q) with h2 | h2 | h2
  · exact .inl h2
  · refine .inr ⟨h2, ?_⟩
    rw [show d2 + c1 = c2 + d1 by omega] at l2
    exact Nat.le_of_mul_le_mul_right l2 (Nat.two_pow_pos _)
  · obtain ⟨k, hk⟩ : ∃ k, c2 + d1 = (d2 + c1) + (k + 1) := ⟨c2 + d1 - (d2 + c1) - 1, by omega⟩
    rw [hk, Nat.pow_add _ (d2 + c1), Nat.mul_comm (2 ^ (d2 + c1)), ← Nat.mul_assoc] at l2
    have l3 := Nat.le_of_mul_le_mul_right l2 (Nat.two_pow_pos _)
    have l4 : nM r * 2 ≤ nM r * 2 ^ (k + 1) := by
      refine Nat.mul_le_mul_left _ ?_
      rw [Nat.pow_succ]; have := Nat.two_pow_pos k; omega
    exfalso
    generalize B = b at *
    omega
theorem sqN_mono {a b : Nat} (ha : rg a < I) (hb : rg b < I) (h : rg a ≤ rg b) : sqN a ≤ sqN b := by
  unfold sqN
  by_cases h0 : rg a = 0
  · rw [if_pos h0]; exact Nat.zero_le _
  · rw [if_neg h0, if_neg (by omega)]
    have a0 : 0 < rg a := by omega
    have b0 : 0 < rg b := by omega
    have pa := pR_low a a0 ha
    have pb := pR_low b b0 hb
    obtain ⟨ma1, ma2, ma3⟩ := sM_range a a0
    obtain ⟨mb1, mb2, mb3⟩ := sM_range b b0
    have mb4 : 2 ^ 55 ≤ sM b := by rw [← mb3]; exact Nat.log2_self_le mb1
    have hn := norm_mono a0 b0 ha hb h
    have hple : pR a ≤ pR b := by unfold pR par; omega
    rcases Int.lt_or_eq_of_le hple with hlt | heq
    · obtain ⟨k, hk⟩ : ∃ k, (pR b + 1074).toNat = (pR a + 1074).toNat + (k + 1) := ⟨(pR b + 1074).toNat - (pR a + 1074).toNat - 1, by omega⟩
      rw [hk, Nat.pow_add, Nat.mul_comm (2 ^ _) (2 ^ (k + 1)), ← Nat.mul_assoc]
      refine Nat.mul_le_mul_right _ ?_
      have l4 : sM b * 2 ≤ sM b * 2 ^ (k + 1) := by
        refine Nat.mul_le_mul_left _ ?_
        rw [Nat.pow_succ]; have := Nat.two_pow_pos k; omega
      omega
    · rw [heq]
      refine Nat.mul_le_mul_right _ ?_
      unfold sM
      refine stickR_mono ?_
      unfold sN
      obtain ⟨m1, m2⟩ := nM_range (rg a) a0
      obtain ⟨n1, n2⟩ := nM_range (rg b) b0
      rcases hn with h2 | ⟨h2, h3⟩
      · have hp : par b = par a + 1 := by unfold pR par at heq; unfold par; omega
        rw [hp, show 56 + (par a + 1) = (56 + par a) + 1 by omega, Nat.pow_succ, Nat.mul_comm (2 ^ _) 2, ← Nat.mul_assoc]
        refine Nat.mul_le_mul_right _ ?_
        generalize B = w at *
        omega
      · have hp : par b = par a := by unfold par; rw [h2]
        rw [hp]; exact Nat.mul_le_mul_right _ h3
theorem sqrtS_cases {a x : Nat} {up : Bool} (h : Is (sqrtS a up) x) :
    I < rg x ∨ (rg x ≤ I ∧ rg a ≤ I ∧ (sg a = false ∨ rg a = 0) ∧ ((rg a < I ∧ DirW up (sqN a) 0 x) ∨ (Inf false a ∧ Inf false x))) := by
  by_cases hf : rg a < I ∧ 0 < rg a ∧ sg a = false
  · unfold sqrtS at h; rw [if_pos hf] at h
    have hx : x = sqrtF a up := h
    have hd := sqrtF_dir a up hf.2.1 hf.1 hf.2.2
    rw [← hx] at hd
    exact .inr ⟨hd.1, Nat.le_of_lt hf.1, .inl hf.2.2, .inl ⟨hf.1, hd⟩⟩
  · unfold sqrtS at h; rw [if_neg hf] at h
    unfold Format.sqrt at h
    rcases three a with h1 | h1 | h1
    · rw [read_fin a h1] at h
      unfold Datum.root at h
      dsimp only at h
      by_cases h0 : rg a = 0
      · rw [if_pos (by rw [h0]; decide)] at h
        have hx : x = double.nearest (sg a) (mant (rg a)) (-1074 + (ex (rg a) : Nat)) := h
        rw [h0, show mant 0 = 0 by decide, show ex 0 = 0 by decide] at hx
        have hr : rg x = 0 := by
          rw [hx]; show rg (rnd (sg a) 0) = 0
          rw [rg_rnd, rr_zero]
        refine .inr ⟨by rw [hr]; exact Nat.zero_le _, Nat.le_of_lt h1, .inr h0, .inl ⟨h1, ?_⟩⟩
        have hz : sqN a = 0 := by unfold sqN; rw [if_pos h0]
        rw [hz]; exact DirW.zero up 0 x hr
      · have hs : sg a = true := by
          cases hs : sg a
          · exact absurd ⟨h1, Nat.pos_of_ne_zero h0, hs⟩ hf
          · rfl
        rw [if_neg (fun hh => h0 (mant_zero hh)), hs, if_pos rfl] at h
        exact .inl h.1
    · rw [read_inf a h1] at h
      simp only [Datum.root] at h
      cases hs : sg a
      · rw [hs, if_neg (by simp)] at h
        have hx : x = double.write (.infinity false) := h
        rw [write_inf] at hx
        subst hx
        exact .inr ⟨Nat.le_of_eq (Inf_wd _).1, Nat.le_of_eq h1, .inl rfl, .inr ⟨⟨h1, hs⟩, Inf_wd _⟩⟩
      · rw [hs, if_pos rfl] at h; exact .inl h.1
    · rw [read_nan a h1] at h; exact .inl h.1
/-- Roots grow. -/
theorem sqrt_grow {a b x y : Nat} {up1 up2 : Bool} (hu : up1 = false ∨ up2 = true) (h1 : Is (sqrtS a up1) x) (h2 : Is (sqrtS b up2) y) (hab : NGt a b) : NGt x y := by
  rcases sqrtS_cases h1 with n1 | ⟨x1, a1, s1, k1⟩
  · exact .inl n1
  rcases sqrtS_cases h2 with n2 | ⟨x2, b1, s2, k2⟩
  · exact .inr (.inl n2)
  have hk : key a ≤ key b := by
    rcases hab with h | h | h
    · exact absurd h (Nat.not_lt.2 a1)
    · exact absurd h (Nat.not_lt.2 b1)
    · exact h.2.2
  refine .inr (.inr ⟨x1, x2, ?_⟩)
  rcases k1 with ⟨fa, d1⟩ | ⟨i1, i2⟩
  · rcases k2 with ⟨fb, d2⟩ | ⟨j1, j2⟩
    · refine d1.mono d2 hu ?_
      simp only [Int.pow_zero, Int.mul_one]
      have hr : rg a ≤ rg b := by
        rw [key_of, key_of] at hk
        unfold sgz at hk
        rcases s1 with s1 | s1 <;> rcases s2 with s2 | s2
        · rw [s1, s2] at hk; simp only [Bool.false_eq_true, if_false] at hk; omega
        · rw [s1, s2] at hk; simp only [Bool.false_eq_true, if_false] at hk; split at hk <;> omega
        · omega
        · omega
      exact Int.ofNat_le.2 (sqN_mono fa fb hr)
    · exact j2.le_false _ (key_range x1).2
  · rcases k2 with ⟨fb, d2⟩ | ⟨j1, j2⟩
    · exact absurd (i1.up b1 hk) (fin_not_inf fb _)
    · exact j2.le_false _ (key_range x1).2
end Fl
end Go.Proofs.Ytgockebgcbmgoaa

/-
  The error of a sum of two floats: what is taken off is a float, so the last difference has the error's sign.
-/
import Derived.Test.YtgockebgcbmgoaaWhole
set_option linter.unusedVariables false
set_option linter.unusedSimpArgs false
namespace Go.Proofs.Ytgockebgcbmgoaa
namespace Fl
open Ieee

theorem ex_le {a b : Nat} (h : a ≤ b) : ex a ≤ ex b := by
  unfold ex; have := Nat.div_le_div_right (c := B) h; omega
theorem Rnd.near {n r : Nat} (h : Rnd n 0 r) : 2 * n ≤ 2 * rv r + 2 ^ ex r ∧ 2 * rv r ≤ 2 * n + 2 ^ ex r := by
  obtain ⟨h1, _, h3, _⟩ := h
  rw [Nat.pow_zero, Nat.mul_one] at h1 h3
  have hs := rv_succ r
  refine ⟨by omega, ?_⟩
  rcases Nat.eq_zero_or_pos r with h0 | h0
  · subst h0; rw [rv_zero]; exact Nat.le_trans (by omega) (Nat.zero_le _)
  · have := h3 h0
    have hp := rv_succ (r - 1)
    rw [show r - 1 + 1 = r by omega] at hp
    have : 2 ^ ex (r - 1) ≤ 2 ^ ex r := Nat.pow_le_pow_right (by omega) (ex_le (by omega))
    omega
theorem rv_dvd (r : Nat) : (2 ^ ex r : Nat) ∣ rv r := ⟨mant r, Nat.mul_comm _ _⟩
theorem pow_dvd {a b : Nat} (h : a ≤ b) : (2 ^ a : Nat) ∣ 2 ^ b := Nat.pow_dvd_pow 2 h

theorem rep_nat (x j : Nat) (hd : (2 ^ j : Nat) ∣ x) (h : x ≤ 2 * B * 2 ^ j) : ∃ t, rv t = x := by
  obtain ⟨m, rfl⟩ := hd
  rw [Nat.mul_comm]
  refine rep m j ?_
  rw [Nat.mul_comm] at h
  exact Nat.le_of_mul_le_mul_right h (Nat.two_pow_pos _)

/-- A sum's error against the greater one is a float. s: the sum's nearest rung; all in sizes with signs. -/
theorem fast_rep (a b r : Nat) (A C S : Int) (hA : A.natAbs = rv a) (hC : C.natAbs = rv b) (hba : b ≤ a) (hr : Rnd (A + C).natAbs 0 r) (hS : S.natAbs = rv r) (hsg : (0 ≤ A + C ∧ 0 ≤ S) ∨ (A + C ≤ 0 ∧ S ≤ 0)) : ∃ t, rv t = (S - A).natAbs := by
  have hn := hr.near
  by_cases hex : A + C = S
  · exact ⟨b, by rw [← hC]; congr 1; omega⟩
  have hdiff : (A + C - S).natAbs * 2 ≤ 2 ^ ex r := by omega
  generalize hl : ex r = l at *
  have hl0 : 0 < l := by
    rcases Nat.eq_zero_or_pos l with h | h
    · subst h; rw [Nat.pow_zero] at hdiff; omega
    · exact h
  have dS : (2 ^ l : Nat) ∣ S.natAbs := by rw [hS, ← hl]; exact rv_dvd r
  have dA : (2 ^ ex a : Nat) ∣ A.natAbs := by rw [hA]; exact rv_dvd a
  have dC : (2 ^ ex b : Nat) ∣ C.natAbs := by rw [hC]; exact rv_dvd b
  have hexba : ex b ≤ ex a := ex_le hba
  have pl : 0 < 2 ^ l := Nat.two_pow_pos _
  have l2 : 2 ^ l = 2 * 2 ^ (l - 1) := by rw [← Nat.pow_succ', show (l - 1).succ = l by omega]
  -- b's last digit lies below the sum's
  have hbl : ex b < l := by
    rcases Nat.lt_or_ge (ex b) l with h | h
    · exact h
    · exfalso
      have d1 : ((2 ^ l : Nat) : Int) ∣ A := Int.ofNat_dvd_left.2 (Nat.dvd_trans (pow_dvd (by omega)) dA)
      have d2 : ((2 ^ l : Nat) : Int) ∣ C := Int.ofNat_dvd_left.2 (Nat.dvd_trans (pow_dvd h) dC)
      have d3 : ((2 ^ l : Nat) : Int) ∣ S := Int.ofNat_dvd_left.2 dS
      have d4 : ((2 ^ l : Nat) : Int) ∣ A + C - S := Int.dvd_sub (Int.dvd_add d1 d2) d3
      have d5 : (2 ^ l : Nat) ∣ (A + C - S).natAbs := Int.ofNat_dvd_left.1 d4
      have := Nat.le_of_dvd (by omega) d5
      omega
  have hCb : C.natAbs < B * 2 ^ l := by
    rw [hC]
    have h1 : rv b < 2 * B * 2 ^ ex b := Nat.mul_lt_mul_of_pos_right (mant_lt b) (Nat.two_pow_pos _)
    have h2 : 2 * B * 2 ^ ex b ≤ 2 * B * 2 ^ (l - 1) := Nat.mul_le_mul_left _ (Nat.pow_le_pow_right (by omega) (by omega))
    have h3 : 2 * B * 2 ^ (l - 1) = B * 2 ^ l := by rw [l2, Nat.mul_comm 2 B, Nat.mul_assoc]
    omega
  rcases Nat.lt_or_ge (ex a) l with hal | hal
  · -- then l is one more
    have hAlt : A.natAbs + 2 ^ ex a ≤ 2 * B * 2 ^ ex a := by
      rw [hA]
      have h1 : rv a = mant a * 2 ^ ex a := rfl
      have h2 : (mant a + 1) * 2 ^ ex a ≤ 2 * B * 2 ^ ex a := Nat.mul_le_mul_right _ (mant_lt a)
      rw [Nat.add_mul, Nat.one_mul] at h2
      omega
    have hCA : C.natAbs ≤ A.natAbs := by rw [hA, hC]; exact rv_le hba
    have hle : l = ex a + 1 := by
      -- the rung of 2^52 at ex a + 2, and the one before
      have hq := rv_of (ex a + 1) (2 * B) (Nat.le_refl _) (.inr (by omega))
      have hq1 := rv_of (ex a + 1) (2 * B - 1) (by omega) (.inr (by unfold B; omega))
      have hmono : r ≤ (ex a + 1) * B + (2 * B - 1) := by
        refine hr.mono (Rnd.exact _ 0) ?_
        rw [hq1, Nat.pow_zero, Nat.mul_one, Nat.mul_one]
        rw [Nat.mul_one]
        have : (2 * B - 1) * 2 ^ (ex a + 1) + 2 ^ (ex a + 1) = 2 * (2 * B * 2 ^ ex a) := by
          rw [show (2 * B - 1) * 2 ^ (ex a + 1) + 2 ^ (ex a + 1) = (2 * B - 1 + 1) * 2 ^ (ex a + 1) by rw [Nat.add_mul, Nat.one_mul]]
          rw [show 2 * B - 1 + 1 = 2 * B by unfold B; omega, Nat.pow_succ']
          rw [← Nat.mul_assoc, Nat.mul_comm (2 * B) 2, Nat.mul_assoc]
        have h3 : 2 ^ (ex a + 1) = 2 * 2 ^ ex a := Nat.pow_succ' ..
        omega
      have := ex_le hmono
      rw [ex_of (ex a + 1) (2 * B - 1) (by unfold B; omega) (.inr (by unfold B; omega))] at this
      omega
    have e1 : l - 1 = ex a := by omega
    have d1 : ((2 ^ ex a : Nat) : Int) ∣ A := Int.ofNat_dvd_left.2 dA
    have d3 : ((2 ^ ex a : Nat) : Int) ∣ S := Int.ofNat_dvd_left.2 (Nat.dvd_trans (pow_dvd (by omega)) dS)
    have d5 : (2 ^ ex a : Nat) ∣ (S - A).natAbs := Int.ofNat_dvd_left.1 (Int.dvd_sub d3 d1)
    refine rep_nat _ (ex a) d5 ?_
    rw [e1] at l2
    omega
  · have d1 : ((2 ^ l : Nat) : Int) ∣ A := Int.ofNat_dvd_left.2 (Nat.dvd_trans (pow_dvd hal) dA)
    have d3 : ((2 ^ l : Nat) : Int) ∣ S := Int.ofNat_dvd_left.2 dS
    have d5 : (2 ^ l : Nat) ∣ (S - A).natAbs := Int.ofNat_dvd_left.1 (Int.dvd_sub d3 d1)
    refine rep_nat _ l d5 ?_
    have h7 : 2 * B * 2 ^ l = B * 2 ^ l + B * 2 ^ l := alg7 _
    have h8 : 2 ^ l ≤ B * 2 ^ l := Nat.le_mul_of_pos_left _ (by decide)
    omega

theorem rr_pos (n : Nat) (h : 0 < n) : 0 < rr n := by
  obtain ⟨q, h3, h4⟩ := rnd_spec false n
  have h5 : rr n = min q I := h3
  have hI : 0 < I := by decide
  rcases Nat.eq_zero_or_pos q with h0 | h0
  · subst h0
    have := h4.hi
    rw [rv_zero, show rv (0 + 1) = 1 from by decide] at this
    omega
  · omega

/-- How an exact number stands to its nearest float (one beyond the floats counts as further away). -/
def cmpX (N : Int) (s : Nat) : Ordering := if rg s = I then (if sg s then .gt else .lt) else compare N (vl s)
/-- The float on the wanted side. -/
def sideW (near : Nat) (c : Ordering) (step : Nat) (up : Bool) : Nat := if (c = .gt ∧ up = true) ∨ (c = .lt ∧ up = false) then step else near

theorem min_I_lt (r : Nat) : min r I < W := Nat.lt_of_le_of_lt (Nat.min_le_right _ _) I_lt_W
theorem of_min {r i q : Nat} (h : q = min r i) (hq : q < i) : r < i ∧ q = r := by omega

/-- An exact difference. -/
theorem vl_exact (p q : Bool) (n : Int) (t : Nat) (h : rv t = n.natAbs) (ht : t < I) : vl (rnd (sgn2 p q n) n.natAbs) = n ∧ rg (rnd (sgn2 p q n) n.natAbs) < I := by
  have h1 : rr n.natAbs = t := by rw [← h]; exact rr_exact t (Nat.le_of_lt ht)
  refine ⟨?_, by rw [rg_rnd, h1]; exact ht⟩
  unfold vl
  rw [rg_rnd, sg_rnd, h1, h]
  unfold sgn2
  by_cases h0 : n = 0
  · subst h0; simp
  · rw [if_neg h0]
    by_cases h2 : n < 0
    · rw [decide_eq_true h2, if_pos rfl]; omega
    · rw [decide_eq_false h2, if_neg (by simp)]; omega
theorem key_rnd (p q : Bool) (n : Int) : compare (key (rnd (sgn2 p q n) n.natAbs)) 0 = compare n 0 := by
  unfold key
  rw [rg_rnd, sg_rnd]
  unfold sgn2
  rw [compare_int, compare_int]
  by_cases h0 : n = 0
  · subst h0; rw [show Int.natAbs 0 = 0 from rfl, rr_zero]; simp
  · have hp := rr_pos n.natAbs (by omega)
    rw [if_neg h0]
    by_cases h2 : n < 0
    · rw [decide_eq_true h2, if_pos rfl, if_pos h2, if_pos (by omega)]
    · rw [decide_eq_false h2, if_neg (show ¬ (false = true) by simp), if_neg h2, if_neg h0, if_neg (by omega), if_neg (by omega)]
theorem vl_neg (x : Nat) (h : sg x = true) : vl x ≤ 0 := by unfold vl; rw [h, if_pos rfl]; omega
theorem vl_pos (x : Nat) (h : sg x = false) : 0 ≤ vl x := by unfold vl; rw [h, if_neg (by simp)]; omega
theorem vl_abs (x : Nat) : (vl x).natAbs = rv (rg x) := by unfold vl; split <;> omega
theorem compare_sub (N v : Int) : compare (N - v) 0 = compare N v := by
  rw [compare_int, compare_int]
  rcases Int.lt_trichotomy N v with h | h | h
  · rw [if_pos h, if_pos (by omega)]
  · subst h; simp
  · rw [if_neg (by omega), if_neg (by omega), if_neg (by omega), if_neg (by omega)]

/-- The sign of what the two differences tell. -/
theorem fast_sign (a b : Nat) (ha : a < 2 * W) (hb : b < 2 * W) (fa : rg a < I) (fb : rg b < I) (hba : rg b ≤ rg a) (s : Nat) (hs : s = rnd (sgn2 (sg a) (sg b) (vl a + vl b)) (vl a + vl b).natAbs) (fs : rg s < I) :
    ∃ t off, double.sub s a = some t ∧ double.sub b t = some off ∧ rg off ≤ I ∧ compare (key off) 0 = compare (vl a + vl b) (vl s) := by
  have hsl : s < 2 * W := by rw [hs]; exact rnd_lt _ _
  obtain ⟨r, hr1, hr2⟩ := rnd_spec (sgn2 (sg a) (sg b) (vl a + vl b)) (vl a + vl b).natAbs
  have hrg : rg s = min r I := by rw [hs, hr1, rg_wd _ _ (min_I_lt r)]
  obtain ⟨hrI, hrs⟩ := of_min hrg fs
  have hsg : sg s = sgn2 (sg a) (sg b) (vl a + vl b) := by rw [hs, sg_rnd]
  have hvs : (vl s).natAbs = rv r := by rw [vl_abs, hrs]
  have hva := vl_abs a
  have hvb := vl_abs b
  have hba' : rv (rg b) ≤ rv (rg a) := rv_le hba
  have hz : vl a + vl b = 0 → vl s = 0 := by
    intro h
    have h0 : r = 0 := by
      have e := Rnd.exact 0 0
      rw [rv_zero, Nat.zero_mul] at e
      rw [h] at hr2
      exact hr2.eq e
    unfold vl; rw [hrs, h0, rv_zero]; split <;> omega
  have hsame : (0 ≤ vl a + vl b ∧ 0 ≤ vl s) ∨ (vl a + vl b ≤ 0 ∧ vl s ≤ 0) := by
    rcases Int.lt_trichotomy (vl a + vl b) 0 with h | h | h
    · right
      exact ⟨Int.le_of_lt h, vl_neg s (by rw [hsg, sgn2, if_neg (Int.ne_of_lt h), decide_eq_true h])⟩
    · left
      exact ⟨Int.le_of_eq h.symm, Int.le_of_eq (hz h).symm⟩
    · left
      exact ⟨Int.le_of_lt h, vl_pos s (by rw [hsg, sgn2, if_neg (Int.ne_of_gt h), decide_eq_false (Int.not_lt.2 (Int.le_of_lt h))])⟩
  obtain ⟨t0, ht0⟩ := fast_rep (rg a) (rg b) r (vl a) (vl b) (vl s) hva hvb hba hr2 hvs hsame
  have ht0I : t0 < I := by
    rw [← rv_lt_iff, ht0]
    have h1 : rv r < rv I := rv_mono hrI
    have h2 : rv (rg a) < rv I := rv_mono fa
    generalize rv I = ri at *
    clear hs hsl hr1 hr2 hrg hsg ha hb
    omega
  have hal := ng_lt a ha
  have e1 : double.sub s a = some (rnd (sgn2 (sg s) (sg (ng a)) (vl s - vl a)) (vl s - vl a).natAbs) := by
    rw [sub_any s a ha, add_fin s (ng a) fs (by rw [rg_ng a ha]; exact fa), vl_ng a ha]
    rw [show vl s + -vl a = vl s - vl a from rfl]
  obtain ⟨v1, v2⟩ := vl_exact (sg s) (sg (ng a)) (vl s - vl a) t0 ht0 ht0I
  generalize hT : rnd (sgn2 (sg s) (sg (ng a)) (vl s - vl a)) (vl s - vl a).natAbs = T at *
  have hTl : T < 2 * W := by rw [← hT]; exact rnd_lt _ _
  have e2 : double.sub b T = some (rnd (sgn2 (sg b) (sg (ng T)) (vl a + vl b - vl s)) (vl a + vl b - vl s).natAbs) := by
    rw [sub_any b T hTl, add_fin b (ng T) fb (by rw [rg_ng T hTl]; exact v2), vl_ng T hTl, v1]
    rw [show vl b + -(vl s - vl a) = vl a + vl b - vl s by omega]
  refine ⟨T, _, e1, e2, by rw [rg_rnd]; exact (rnd_rr false _).2, ?_⟩
  rw [key_rnd, compare_sub]
end Fl
end Go.Proofs.Ytgockebgcbmgoaa

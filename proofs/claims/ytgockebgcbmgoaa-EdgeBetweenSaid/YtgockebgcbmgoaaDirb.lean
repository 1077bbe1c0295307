/-
  Plain facts: sums, products and roots to a side grow with what they are made of.
-/
import Derived.Test.YtgockebgcbmgoaaDir
set_option linter.unusedVariables false
set_option linter.unusedSimpArgs false
namespace Go.Proofs.Ytgockebgcbmgoaa
namespace Fl
open Ieee

theorem key_sgz (s : Bool) (r : Nat) (h : r < W) : key (wd s r) = sgz s r := by unfold sgz; exact key_wd s r h
theorem sgz_false (n : Nat) : sgz false n = n := rfl
theorem sgz_true (n : Nat) : sgz true n = -(n : Int) := rfl
/-- The step that is taken. -/
def stepD (c : Ordering) (up : Bool) : Int := if (c = .gt ∧ up = true) then 1 else if (c = .lt ∧ up = false) then -1 else 0
theorem stepD_range (c : Ordering) (up : Bool) : -1 ≤ stepD c up ∧ stepD c up ≤ 1 ∧ (up = true → 0 ≤ stepD c up) ∧ (up = false → stepD c up ≤ 0) := by
  unfold stepD; cases c <;> cases up <;> simp
theorem clamp_in (up : Bool) (k : Int) (i : Nat) (hi : i = I) (h1 : up = true → -(i : Int) < k ∧ k ≤ i) (h2 : up = false → -(i : Int) ≤ k ∧ k < i) : clamp up k = k := by
  unfold clamp; rw [← hi]
  cases up
  · have := h2 rfl; simp only [Bool.false_eq_true, if_false]; omega
  · have := h1 rfl; simp only [if_true]; omega
theorem key_side (near : Nat) (c : Ordering) (up : Bool) (hn : near < 2 * W) (h : rg near < I) : key (sideW near c (next near up) up) = key near + stepD c up ∧ rg (sideW near c (next near up) up) ≤ I := by
  obtain ⟨k1, k2⟩ := key_next near up hn (Nat.le_of_lt h) (fun hh => by rw [hh.1] at h; exact absurd h (Nat.lt_irrefl _))
  unfold sideW stepD
  cases up
  · simp only [Bool.false_eq_true, and_false, false_or, if_false] at k1 ⊢
    by_cases hc : c = .lt
    · rw [if_pos ⟨hc, trivial⟩, if_pos ⟨hc, trivial⟩]; exact ⟨k1, k2⟩
    · rw [if_neg (fun x => hc x.1), if_neg (fun x => hc x.1)]; exact ⟨by omega, Nat.le_of_lt h⟩
  · simp only [Bool.true_eq_false, and_false, or_false, and_true, if_true, if_false] at k1 ⊢
    by_cases hc : c = .gt
    · rw [if_pos hc, if_pos hc]; exact ⟨k1, k2⟩
    · rw [if_neg hc, if_neg hc]; exact ⟨by omega, Nat.le_of_lt h⟩
theorem big_rung : (9218868437227405311 : Nat) + 1 = I ∧ 9218868437227405311 < W := by decide
theorem key_great (near : Nat) (up : Bool) (h : rg near = I) : key (greatW near up) = (if up = !sg near then sgz (sg near) I else sgz (sg near) 9218868437227405311) ∧ rg (greatW near up) ≤ I := by
  unfold greatW
  split
  · exact ⟨by unfold key sgz; rw [h], Nat.le_of_eq h⟩
  · exact ⟨key_sgz _ _ big_rung.2, by rw [rg_wd _ _ big_rung.2, ← big_rung.1]; exact Nat.le_succ _⟩
theorem clamp_great (s up : Bool) (r i : Nat) (δ : Int) (hi : i = I) (hr : i ≤ r) (h0 : 0 < i) (d1 : -1 ≤ δ) (d2 : δ ≤ 1) (d3 : up = true → 0 ≤ δ) (d4 : up = false → δ ≤ 0) :
    (if up = !s then sgz s i else sgz s (i - 1)) = clamp up (sgz s r + δ) := by
  unfold clamp; rw [← hi]
  cases s <;> cases up <;> simp [sgz_false, sgz_true] at d3 d4 ⊢ <;> omega
/-- What the steps tell of a number's nearest float is the float on that side. -/
theorem near_dir (s up : Bool) (mag : Nat) (p : Int) (u v : Nat) (h : (u : Int) - v = p + 1074) (hm : 0 < mag) (near : Nat) (hn : near = double.nearest s mag p) :
    DirW up (sgz s (mag * 2 ^ u)) v (if rg near = I then greatW near up else sideW near (cmpS s (cmpR mag p (rg near))) (next near up) up) := by
  obtain ⟨r, e1, e2⟩ := nearest_rnd s mag p u v h
  have hN : 0 < mag * 2 ^ u := Nat.mul_pos hm (Nat.two_pow_pos u)
  have hd := dir_mag s up (mag * 2 ^ u) v r e2 hN
  rw [e1] at hn
  have hrg : rg near = min r I := by rw [hn, rg_wd _ _ (min_I_lt r)]
  have hsg : sg near = s := by rw [hn, sg_wd _ _ (min_I_lt r)]
  have hlt : near < 2 * W := by rw [hn]; exact wd_lt _ _ (min_I_lt r)
  change Dir up _ _ (sgz s r + stepD (cmpS s (compare (mag * 2 ^ u) (rv r * 2 ^ v))) up) at hd
  obtain ⟨d1, d2, d3, d4⟩ := stepD_range (cmpS s (compare (mag * 2 ^ u) (rv r * 2 ^ v))) up
  by_cases hI : rg near = I
  · rw [if_pos hI]
    obtain ⟨k1, k2⟩ := key_great near up hI
    refine ⟨k2, _, hd, ?_⟩
    rw [k1, hsg]
    have hr : I ≤ r := by rw [hI] at hrg; rw [hrg]; exact Nat.min_le_left _ _
    have := clamp_great s up r I (stepD (cmpS s (compare (mag * 2 ^ u) (rv r * 2 ^ v))) up) rfl hr (by decide) d1 d2 d3 d4
    rw [show I - 1 = 9218868437227405311 from rfl] at this
    exact this
  · rw [if_neg hI]
    have hle : rg near ≤ I := by rw [hrg]; exact Nat.min_le_right _ _
    have hf : rg near < I := Nat.lt_of_le_of_ne hle hI
    obtain ⟨hr, hq⟩ := of_min hrg hf
    obtain ⟨k1, k2⟩ := key_side near (cmpS s (cmpR mag p (rg near))) up hlt hf
    refine ⟨k2, _, hd, ?_⟩
    rw [k1, hq, cmpR_scale mag p r u v h]
    have hk : key near = sgz s r := by rw [hn, key_sgz _ _ (min_I_lt r), Nat.min_eq_left (Nat.le_of_lt hr)]
    rw [hk]
    generalize stepD (cmpS s (compare (mag * 2 ^ u) (rv r * 2 ^ v))) up = δ at *
    symm
    have hb : -(r : Int) ≤ sgz s r ∧ sgz s r ≤ r := by unfold sgz; split <;> omega
    generalize sgz s r = z at *
    clear hn k1 k2 hd hrg hq hk e1 e2
    exact clamp_in up _ I rfl (fun hu => by have := d3 hu; generalize I = i at *; omega) (fun hu => by have := d4 hu; generalize I = i at *; omega)
theorem vl_sgz (x : Nat) : vl x = sgz (sg x) (rv (rg x)) := rfl
/-- The sum of finite floats is the float on that side. -/
theorem addF_dir (a b : Nat) (up : Bool) (ha : a < 2 * W) (hb : b < 2 * W) (fa : rg a < I) (fb : rg b < I) : DirW up (vl a + vl b) 0 (addF a b up) := by
  by_cases hz : vl a + vl b = 0
  · rw [hz]
    have e : nearS a b = rnd (sgn2 (sg a) (sg b) 0) 0 := by unfold nearS; rw [hz]; rfl
    have e0 : rg (nearS a b) = 0 := by rw [e, rg_rnd, rr_zero]
    refine DirW.zero up 0 _ ?_
    unfold addF
    rw [e0, if_neg (by decide), if_pos rfl]
    split
    · rename_i h; exact h.1
    · split <;> decide
  · have hm : 0 < (vl a + vl b).natAbs := by omega
    have hnr := near_dir (sgn2 (sg a) (sg b) (vl a + vl b)) up (vl a + vl b).natAbs (-1074) 0 0 (by decide) hm (nearS a b) rfl
    have hs : sgz (sgn2 (sg a) (sg b) (vl a + vl b)) ((vl a + vl b).natAbs * 2 ^ 0) = vl a + vl b := by
      unfold sgz sgn2; rw [if_neg hz, Nat.pow_zero, Nat.mul_one]
      by_cases hn : vl a + vl b < 0
      · rw [if_pos (by simpa using hn)]; omega
      · rw [if_neg (by simpa using hn)]; omega
    rw [hs] at hnr
    unfold addF
    have h0 : ¬ rg (nearS a b) = 0 := by
      unfold nearS; rw [rg_rnd]; have := rr_pos _ hm; omega
    rw [if_neg h0]
    have hc : cmpS (sgn2 (sg a) (sg b) (vl a + vl b)) (cmpR (vl a + vl b).natAbs (-1074) (rg (nearS a b))) = compare (vl a + vl b) (vl (nearS a b)) := by
      have e1 : sg (nearS a b) = sgn2 (sg a) (sg b) (vl a + vl b) := by unfold nearS; rw [sg_rnd]
      rw [cmpR_scale _ _ _ 0 0 (by decide)]
      have e2 : vl (nearS a b) = sgz (sgn2 (sg a) (sg b) (vl a + vl b)) (rv (rg (nearS a b))) := by rw [vl_sgz, e1]
      rw [e2]
      generalize rv (rg (nearS a b)) = t
      unfold sgn2; rw [if_neg hz]
      by_cases hn : vl a + vl b < 0
      · rw [show (decide (vl a + vl b < 0)) = true by simpa using hn]
        unfold cmpS sgz
        simp only [if_true]
        rw [Nat.pow_zero, Nat.mul_one, Nat.mul_one, compare_nat, compare_int]
        split <;> (try split) <;> (try split) <;> (try split) <;> first | rfl | omega | simp <;> omega
      · rw [show (decide (vl a + vl b < 0)) = false by simpa using hn]
        unfold cmpS sgz
        simp only [Bool.false_eq_true, if_false]
        rw [Nat.pow_zero, Nat.mul_one, Nat.mul_one, compare_nat, compare_int]
        split <;> (try split) <;> (try split) <;> (try split) <;> first | rfl | omega | simp <;> omega
    rw [hc] at hnr
    exact hnr
theorem sgz_mul (s t : Bool) (m n : Nat) : sgz s m * sgz t n = sgz (s ^^ t) (m * n) := by
  unfold sgz; cases s <;> cases t <;> simp [Int.neg_mul, Int.mul_neg]
theorem alg_mul (m n D F P Q : Nat) : m * D * (n * F) * (P * Q) = m * P * (n * Q) * (D * F) := by grind
theorem mul_pow4 (r1 m1 r2 m2 a1 a2 b1 b2 : Nat) (h1 : r1 * 2 ^ a1 = m1 * 2 ^ a2) (h2 : r2 * 2 ^ b1 = m2 * 2 ^ b2) : r1 * r2 * 2 ^ (a1 + b1) = m1 * m2 * 2 ^ (a2 + b2) := by
  rw [Nat.pow_add, Nat.pow_add]
  generalize 2 ^ a1 = A at *; generalize 2 ^ a2 = C at *; generalize 2 ^ b1 = D at *; generalize 2 ^ b2 = F at *
  calc r1 * r2 * (A * D) = (r1 * A) * (r2 * D) := by grind
    _ = (m1 * C) * (m2 * F) := by rw [h1, h2]
    _ = _ := by grind
/-- The product of finite floats is the float on that side. -/
theorem mulS_dir (a b : Nat) (up : Bool) (fa : rg a < I) (fb : rg b < I) : ∃ r, mulS a b up = some r ∧ DirW up (vl a * vl b) E r := by
  by_cases h0 : 0 < rg a ∧ 0 < rg b
  · refine ⟨mulF a b up, by unfold mulS; rw [if_pos ⟨fa, fb, h0.1, h0.2⟩], ?_⟩
    obtain ⟨a0, b0⟩ := h0
    obtain ⟨a1, a2, ha, ea⟩ := rv_norm (rg a) a0
    obtain ⟨b1, b2, hb, eb⟩ := rv_norm (rg b) b0
    have hp := mul_pow4 _ _ _ _ _ _ _ _ ha hb
    have hm : 0 < mM a b := Nat.pos_of_ne_zero (mM_log2 a b a0 b0).1
    have hpe : ((a2 : Int) + b2) - (a1 + b1) = pM a b + 2148 := by unfold pM; omega
    -- places: u - v = pM + 1074
    have hE : (E : Int) = 1074 := by rw [E_eq]; rfl
    have hnr := near_dir (sg a ^^ sg b) up (mM a b) (pM a b) (a2 + b2) (a1 + b1 + E) (by omega) hm (nearM a b) rfl
    change DirW up _ _ (mulF a b up) at hnr
    rw [vl_sgz, vl_sgz, sgz_mul]
    refine hnr.scale _ _ 0 (a1 + b1) ?_ (by omega)
    have castp : ((2 ^ (a1 + b1) : Nat) : Int) = (2 : Int) ^ (a1 + b1) := by simp
    rw [Int.pow_zero, Int.mul_one, show mM a b = nM (rg a) * nM (rg b) from rfl, ← hp, ← castp]
    generalize 2 ^ (a1 + b1) = P
    generalize rv (rg a) * rv (rg b) = X
    unfold sgz; split <;> simp [Int.neg_mul]
  · have hz : mant (rg a) * mant (rg b) = 0 := by
      rcases Nat.eq_zero_or_pos (rg a) with h | h
      · rw [h, show mant 0 = 0 by decide, Nat.zero_mul]
      · rcases Nat.eq_zero_or_pos (rg b) with h2 | h2
        · rw [h2, show mant 0 = 0 by decide, Nat.mul_zero]
        · exact absurd ⟨h, h2⟩ h0
    have hv : vl a * vl b = 0 := by
      rw [vl_sgz, vl_sgz, sgz_mul]
      have : rv (rg a) * rv (rg b) = 0 := by
        rcases Nat.eq_zero_or_pos (rg a) with h | h
        · rw [h, rv_zero, Nat.zero_mul]
        · rcases Nat.eq_zero_or_pos (rg b) with h2 | h2
          · rw [h2, rv_zero, Nat.mul_zero]
          · exact absurd ⟨h, h2⟩ h0
      rw [this]; unfold sgz; split <;> rfl
    refine ⟨_, by unfold mulS; rw [if_neg (fun h => h0 h.2.2)]; exact mul_fin a b fa fb, ?_⟩
    rw [hz, hv]
    refine DirW.zero up E _ ?_
    have hq := nearest_congr (sg a ^^ sg b) 0 0 (pl a + pl b) (-1074) 0 0 rfl
    obtain ⟨r, e1, e2⟩ := nearest_rnd (sg a ^^ sg b) 0 (pl a + pl b) (pl a + pl b + 1074).toNat (-(pl a + pl b + 1074)).toNat (by omega)
    rw [Nat.zero_mul] at e2
    have hr : r = 0 := by
      have h1 := Rnd.exact 0 (-(pl a + pl b + 1074)).toNat
      rw [rv_zero, Nat.zero_mul] at h1
      exact e2.eq h1
    rw [e1, rg_wd _ _ (min_I_lt r), hr, Nat.zero_min]
end Fl
end Go.Proofs.Ytgockebgcbmgoaa

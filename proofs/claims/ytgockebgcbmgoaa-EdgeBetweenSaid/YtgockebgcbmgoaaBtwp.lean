/-
  Plain facts: the floats on both sides of an exact number stand about it.
-/
import Derived.Test.YtgockebgcbmgoaaRefe
import Derived.Test.YtgockebgcbmgoaaDird
set_option linter.unusedVariables false
set_option linter.unusedSimpArgs false
namespace Go.Proofs.Ytgockebgcbmgoaa
namespace Fl
open Ieee
/-- L and H stand about a number against which floats stand as c says. -/
def Br (c : Nat → Ordering) (L H : Nat) : Prop :=
  rg L ≤ I ∧ rg H ≤ I ∧ ((key L = key H ∧ rg L < I ∧ c L = .eq) ∨ (key H = key L + 1 ∧ (rg L < I → c L = .lt) ∧ (rg H < I → c H = .gt)))
theorem Br.congr {c d : Nat → Ordering} {L H : Nat} (h : Br c L H) (hcd : ∀ t, rg t < I → c t = d t) : Br d L H := by
  obtain ⟨h1, h2, h3⟩ := h
  refine ⟨h1, h2, ?_⟩
  rcases h3 with ⟨a, b, e⟩ | ⟨a, b, e⟩
  · exact .inl ⟨a, b, by rw [← hcd L b]; exact e⟩
  · exact .inr ⟨a, fun hf => by rw [← hcd L hf]; exact b hf, fun hf => by rw [← hcd H hf]; exact e hf⟩
theorem V_key (t : Nat) : V (key t) = vl t := by rw [key_of, V_sgz]; rfl
theorem bracket {n : Int} {d L H : Nat} (h1 : DirW false n d L) (h2 : DirW true n d H) : Br (fun t => compare (vl t * 2 ^ d) n) L H := by
  obtain ⟨f1, k, a1, a2⟩ := h1
  obtain ⟨f2, q, b1, b2⟩ := h2
  refine ⟨f1, f2, ?_⟩
  have pd := pow_pos_int d
  unfold Dir at a1 b1
  rw [if_neg (by simp)] at a1
  rw [if_pos rfl] at b1
  obtain ⟨a3, a4⟩ := a1
  obtain ⟨b3, b4⟩ := b1
  have eL : compare (vl L * 2 ^ d) n = compare (V (key L) * 2 ^ d) n := by rw [V_key]
  have eH : compare (vl H * 2 ^ d) n = compare (V (key H) * 2 ^ d) n := by rw [V_key]
  have gL : rg L = (key L).natAbs := rg_key L
  have gH : rg H = (key H).natAbs := rg_key H
  dsimp only
  rw [eL, eH]
  clear eL eH
  generalize (2 : Int) ^ d = D at *
  have mlt : ∀ {x y : Int}, x < y → V x * D < V y * D := fun h => Int.mul_lt_mul_of_pos_right (V_lt_iff.2 h) pd
  have ilt : ∀ {x y : Int}, V x * D < V y * D → x < y := fun h => V_lt_iff.1 (Int.lt_of_mul_lt_mul_right h (Int.le_of_lt pd))
  have ile : ∀ {x y : Int}, V x * D ≤ V y * D → x ≤ y := fun h => V_le_iff.1 (Int.le_of_mul_le_mul_right h pd)
  have hkq : k ≤ q := ile (Int.le_trans a3 b3)
  have hqk : q - 1 < k + 1 := ilt (by omega)
  have hI : (0 : Int) < (I : Int) := by decide
  unfold clamp at a2 b2
  rw [if_neg (by simp)] at a2
  rw [if_pos rfl] at b2
  rw [gL, gH]
  generalize hi : I = i at *
  clear hi gL gH f1 f2
  by_cases hc : q = k ∧ -(i : Int) < k ∧ k < i
  · obtain ⟨h1, h2, h3⟩ := hc
    refine .inl ⟨by omega, by omega, ?_⟩
    have : key L = k := by omega
    rw [this, compare_int, if_neg (by subst h1; omega), if_pos (by subst h1; omega)]
  · refine .inr ⟨by omega, fun hf => ?_, fun hf => ?_⟩
    · rw [compare_int, if_pos]
      have : key L < k ∨ (key L = k ∧ q = k + 1) := by omega
      rcases this with h | ⟨h, h'⟩
      · have := mlt h; omega
      · rw [h' , show k + 1 - 1 = k by omega] at b4; rw [h]; exact b4
    · have : q < key H ∨ (key H = k + 1 ∧ q = k + 1) := by omega
      have hlt : n < V (key H) * D := by
        rcases this with h | ⟨h, h'⟩
        · have := mlt h; omega
        · rw [h]; exact a4
      rw [compare_int, if_neg (by omega), if_neg (by omega)]
theorem Rnd_zero {v r : Nat} (h : Rnd 0 v r) : r = 0 := by
  have h1 := Rnd.exact 0 v
  rw [rv_zero, Nat.zero_mul] at h1
  exact h.eq h1
theorem rg_nearest_zero (s : Bool) (p : Int) : rg (double.nearest s 0 p) = 0 := by
  obtain ⟨r, e1, e2⟩ := nearest_rnd s 0 p (p + 1074).toNat (-(p + 1074)).toNat (by omega)
  rw [Nat.zero_mul] at e2
  rw [e1, rg_wd _ _ (min_I_lt r), Rnd_zero e2, Nat.zero_min]
theorem div_of_zero (a b : Nat) (fb : rg b < I) (b0 : 0 < rg b) (h : rg a = 0) : ∃ r, double.div a b = some r ∧ rg r = 0 := by
  have fa : rg a < I := by rw [h]; decide
  have hb : mant (rg b) ≠ 0 := fun hh => by have := mant_zero hh; omega
  unfold Format.div
  rw [read_fin a fa, read_fin b fb, dF]
  unfold Datum.quotient
  dsimp only
  rw [if_neg hb, h, show mant 0 = 0 by decide]
  simp only [Option.map_some, Format.write]
  refine ⟨_, rfl, ?_⟩
  simp only [Nat.zero_shiftLeft, Nat.zero_div, Nat.zero_mod]
  exact rg_nearest_zero _ _
/-! ### quotients -/
def cQ (a b t : Nat) : Ordering := if key b < 0 then compare (vl a * 2 ^ E) (vl t * vl b) else compare (vl t * vl b) (vl a * 2 ^ E)
theorem cmpR_any (n : Nat) (p : Int) (r : Nat) (C : Nat → Ordering) (hn : 2 ^ 54 ≤ n)
    (hC : ∀ x u v k : Nat, (u : Int) - v = p + 1074 → x * 2 ^ v = 2 * k * 2 ^ u → compare (n * 2 ^ u) (x * 2 ^ v) = C x)
    (hmono : ∀ x y : Nat, x ≤ y → C y = .gt → C x = .gt) : cmpR n p r = C (rv r) := by
  by_cases hneg : p + 1074 ≤ -1
  · obtain ⟨v, hv⟩ : ∃ v : Nat, p + 1074 = -((v : Int) + 1) := ⟨(-(p + 1074) - 1).toNat, by omega⟩
    have h := hC (rv r) 0 (v + 1) (rv r * 2 ^ v) (by omega) (by rw [Nat.pow_succ, Nat.pow_zero, Nat.mul_one, ← Nat.mul_assoc, Nat.mul_comm])
    rw [cmpR_scale _ _ _ 0 (v + 1) (by omega)]
    exact h
  · obtain ⟨u, hu⟩ : ∃ u : Nat, p + 1074 = u := ⟨(p + 1074).toNat, by omega⟩
    rw [cmpR_scale _ _ _ u 0 (by omega)]
    by_cases he : u + 1 ≤ ex r
    · obtain ⟨k, hk⟩ := half_rung r u he
      exact hC (rv r) u 0 k (by omega) (by rw [hk, Nat.pow_zero, Nat.mul_one])
    · have h5 : rv r < 2 ^ 53 * 2 ^ u := by
        unfold rv
        have h6 := mant_lt r
        unfold B at h6
        have h7 : (2 : Nat) ^ ex r ≤ 2 ^ u := Nat.pow_le_pow_right (by decide) (by omega)
        calc mant r * 2 ^ ex r ≤ mant r * 2 ^ u := Nat.mul_le_mul_left _ h7
          _ < 2 ^ 53 * 2 ^ u := Nat.mul_lt_mul_of_pos_right h6 (Nat.two_pow_pos _)
      have h8 : 2 ^ 54 * 2 ^ u ≤ n * 2 ^ u := Nat.mul_le_mul_right _ hn
      have h9 := hC (2 ^ 53 * 2 ^ u) u 0 (2 ^ 52) (by omega) (by rw [Nat.pow_zero, Nat.mul_one])
      rw [Nat.pow_zero, Nat.mul_one] at h9 ⊢
      have hp := Nat.two_pow_pos u
      have g1 : compare (n * 2 ^ u) (2 ^ 53 * 2 ^ u) = .gt := by
        generalize n * 2 ^ u = X at *
        generalize 2 ^ u = P at *
        rw [compare_nat, if_neg (by omega), if_neg (by omega)]
      have g2 : compare (n * 2 ^ u) (rv r) = .gt := by
        generalize n * 2 ^ u = X at *
        generalize 2 ^ u = P at *
        rw [compare_nat, if_neg (by omega), if_neg (by omega)]
      rw [g2]
      rw [g1] at h9
      exact (hmono _ _ (Nat.le_of_lt h5) h9.symm).symm
theorem gt_nat {a b : Nat} : compare a b = .gt ↔ b < a := by
  rw [compare_nat]
  constructor
  · intro h; split at h
    · cases h
    · split at h
      · cases h
      · omega
  · intro h; rw [if_neg (by omega), if_neg (by omega)]
theorem div_cmp3 (a b r : Nat) (a0 : 0 < rg a) (b0 : 0 < rg b) : cmpR (dM a b) (pD a b) r = compare (rv (rg a) * 2 ^ E) (rv r * rv (rg b)) := by
  obtain ⟨a1, a2, ha, ea⟩ := rv_norm (rg a) a0
  obtain ⟨b1, b2, hb, eb⟩ := rv_norm (rg b) b0
  have hE := E_int
  have hp : pD a b = nE (rg a) - nE (rg b) - 55 := rfl
  refine cmpR_any (dM a b) (pD a b) r (fun x => compare (rv (rg a) * 2 ^ E) (x * rv (rg b))) (dM_ge a b a0 b0) ?_ ?_
  · intro x u v k huv hk
    try dsimp only
    rw [hk, compare_mul _ _ _ (Nat.two_pow_pos u)]
    have hN : 0 < nM (rg b) := Nat.lt_of_lt_of_le (by decide) (nM_range (rg b) b0).1
    rw [show dM a b = stick (nM (rg a) * 2 ^ 54) (nM (rg b)) from rfl, stick_cmp _ _ _ hN]
    rw [← compare_mul (nM (rg a) * 2 ^ 54) (k * nM (rg b)) (2 ^ a2 * 2 ^ b2 * 2 ^ (u + 1)) (Nat.mul_pos (Nat.mul_pos (Nat.two_pow_pos _) (Nat.two_pow_pos _)) (Nat.two_pow_pos _))]
    rw [← compare_mul (rv (rg a) * 2 ^ E) _ (2 ^ b1 * 2 ^ a2 * 2 ^ v) (Nat.mul_pos (Nat.mul_pos (Nat.two_pow_pos _) (Nat.two_pow_pos _)) (Nat.two_pow_pos _))]
    congr 1
    · have e1 : nM (rg a) * 2 ^ 54 * (2 ^ a2 * 2 ^ b2 * 2 ^ (u + 1)) = rv (rg a) * (2 ^ a1 * 2 ^ (54 + b2 + (u + 1))) := by
        have e0 : (2 : Nat) ^ (54 + b2 + (u + 1)) = 2 ^ 54 * 2 ^ b2 * 2 ^ (u + 1) := by rw [Nat.pow_add, Nat.pow_add]
        rw [e0]
        generalize (2 : Nat) ^ 54 = T
        generalize 2 ^ b2 = R
        generalize 2 ^ (u + 1) = S
        generalize 2 ^ a2 = Q at *
        generalize 2 ^ a1 = P at *
        generalize nM (rg a) = n at *
        generalize rv (rg a) = A at *
        grind
      rw [e1, Nat.mul_assoc (rv (rg a)), ← Nat.pow_add, ← Nat.pow_add, ← Nat.pow_add, ← Nat.pow_add]
      congr 2
      omega
    · have e2 : k * nM (rg b) * (2 ^ a2 * 2 ^ b2 * 2 ^ (u + 1)) = 2 * k * 2 ^ u * (nM (rg b) * 2 ^ b2) * 2 ^ a2 := by
        rw [Nat.pow_succ]
        generalize 2 ^ u = S
        generalize 2 ^ a2 = Q
        generalize 2 ^ b2 = R
        generalize nM (rg b) = n
        grind
      rw [e2, ← hk, ← hb]
      generalize 2 ^ v = V
      generalize 2 ^ b1 = P
      generalize 2 ^ a2 = Q
      ac_rfl
  · intro x y hxy h
    try dsimp only at h ⊢
    rw [gt_nat] at h ⊢
    exact Nat.lt_of_le_of_lt (Nat.mul_le_mul_right _ hxy) h
theorem root_cmp3 (a r : Nat) (a0 : 0 < rg a) (fa : rg a < I) : cmpR (sM a) (pR a) r = compare (rv (rg a) * 2 ^ E) (rv r * rv r) := by
  obtain ⟨a1, a2, ha, ea⟩ := rv_norm (rg a) a0
  have hE := E_int
  have hp := pR_low a a0 fa
  have hpar : (par a : Int) = nE (rg a) % 2 := by unfold par; omega
  have hpr : pR a = (nE (rg a) - par a) / 2 - 566 := rfl
  have hs : 2 ^ 54 ≤ sM a := by
    obtain ⟨h1, h2, h3⟩ := sM_range a a0
    exact Nat.le_trans (Nat.pow_le_pow_right (by decide) (by omega)) (Nat.log2_self_le h1)
  refine cmpR_any (sM a) (pR a) r (fun x => compare (rv (rg a) * 2 ^ E) (x * x)) hs ?_ ?_
  · intro x u v k huv hk
    try dsimp only
    rw [hk, compare_mul _ _ _ (Nat.two_pow_pos u)]
    rw [show sM a = stickR (sN a) from rfl, stickR_cmp]
    rw [← compare_mul (sN a) (k * k) (2 ^ a2 * 2 ^ (2 * u + 2)) (Nat.mul_pos (Nat.two_pow_pos _) (Nat.two_pow_pos _))]
    rw [← compare_mul (rv (rg a) * 2 ^ E) _ (2 ^ a2 * 2 ^ (2 * v)) (Nat.mul_pos (Nat.two_pow_pos _) (Nat.two_pow_pos _))]
    congr 1
    · have e1 : sN a * (2 ^ a2 * 2 ^ (2 * u + 2)) = rv (rg a) * (2 ^ a1 * 2 ^ (56 + par a + (2 * u + 2))) := by
        unfold sN
        rw [Nat.pow_add 2 (56 + par a)]
        generalize 2 ^ (56 + par a) = T
        generalize 2 ^ (2 * u + 2) = S
        generalize 2 ^ a2 = Q at *
        generalize 2 ^ a1 = P at *
        generalize nM (rg a) = n at *
        generalize rv (rg a) = A at *
        grind
      rw [e1, Nat.mul_assoc (rv (rg a)), ← Nat.pow_add, ← Nat.pow_add, ← Nat.pow_add]
      congr 2
      omega
    · have e2 : (2 : Nat) ^ (2 * u + 2) = 4 * (2 ^ u * 2 ^ u) := by
        rw [show 2 * u + 2 = u + u + 2 by omega, Nat.pow_add, Nat.pow_add]; omega
      have e3 : (2 : Nat) ^ (2 * v) = 2 ^ v * 2 ^ v := by rw [show 2 * v = v + v by omega, Nat.pow_add]
      have e4 : k * k * (2 ^ a2 * 2 ^ (2 * u + 2)) = (2 * k * 2 ^ u) * (2 * k * 2 ^ u) * 2 ^ a2 := by
        rw [e2]
        generalize 2 ^ u = S
        generalize 2 ^ a2 = Q
        grind
      rw [e4, ← hk, e3]
      generalize 2 ^ v = V
      generalize 2 ^ a2 = Q
      ac_rfl
  · intro x y hxy h
    try dsimp only at h ⊢
    rw [gt_nat] at h ⊢
    exact Nat.lt_of_le_of_lt (Nat.mul_le_mul hxy hxy) h
/-- Signs about a quotient. -/
theorem quo_signs (sa sb st : Bool) (R M X Y : Nat) (hM : 0 < M) (hY : 0 < Y) (h0 : R = 0 ↔ X = 0) (h : compare M R = compare Y X) :
    compare (sgz st R) (sgz (sa ^^ sb) M) = if sb then compare (sgz sa Y) (sgz (st ^^ sb) X) else compare (sgz (st ^^ sb) X) (sgz sa Y) := by
  rw [compare_nat, compare_nat] at h
  rw [compare_int, compare_int, compare_int]
  have h' : (M < R ↔ Y < X) ∧ (M = R ↔ Y = X) := by
    split at h <;> rename_i c1
    · split at h <;> rename_i c2
      · omega
      · split at h <;> cases h
    · split at h <;> rename_i c3
      · split at h <;> rename_i c2
        · cases h
        · split at h
          · omega
          · cases h
      · split at h <;> rename_i c2
        · cases h
        · split at h
          · cases h
          · omega
  clear h
  unfold sgz
  cases sa <;> cases sb <;> cases st <;> simp only [Bool.false_eq_true, if_false, if_true, Bool.xor_false, Bool.xor_true, Bool.false_xor, Bool.true_xor, Bool.not_true, Bool.not_false]
  all_goals (split <;> (try split) <;> (try split) <;> (try split) <;> first | rfl | omega)
theorem sgz_pow (s : Bool) (n k : Nat) : sgz s n * 2 ^ k = sgz s (n * 2 ^ k) := by
  unfold sgz; cases s <;> simp [Int.neg_mul]
theorem vl_zero {a : Nat} (h : rg a = 0) : vl a = 0 := by rw [vl_sgz, h, rv_zero]; unfold sgz; split <;> rfl
theorem key_neg {b : Nat} (b0 : 0 < rg b) : key b < 0 ↔ sg b = true := by
  rw [key_of]; unfold sgz; cases sg b <;> simp <;> omega
theorem div_br {a b L H : Nat} (fa : rg a < I) (fb : rg b < I) (b0 : 0 < rg b) (h1 : Is (divS a b false) L) (h2 : Is (divS a b true) H) : Br (cQ a b) L H := by
  rcases Nat.eq_zero_or_pos (rg a) with a0 | a0
  · obtain ⟨r, e1, e2⟩ := div_of_zero a b fb b0 a0
    unfold divS at h1 h2
    rw [if_neg (fun h => by omega), e1] at h1 h2
    have hL : L = r := h1
    have hH : H = r := h2
    subst hL
    subst hH
    have hI := I_pos
    refine ⟨by omega, by omega, .inl ⟨rfl, by omega, ?_⟩⟩
    unfold cQ
    rw [vl_zero a0, vl_zero e2, Int.zero_mul, Int.zero_mul]
    split <;> rfl
  · unfold divS at h1 h2
    rw [if_pos ⟨fa, fb, a0, b0⟩] at h1 h2
    have hL : L = divF a b false := h1
    have hH : H = divF a b true := h2
    have hm : 0 < dM a b := Nat.pos_of_ne_zero (dM_range a b a0 b0).1
    obtain ⟨u, v, huv⟩ : ∃ u v : Nat, (u : Int) - v = pD a b + 1074 := ⟨(pD a b + 1074).toNat, (-(pD a b + 1074)).toNat, by omega⟩
    have d1 := near_dir (sg a ^^ sg b) false (dM a b) (pD a b) u v huv hm (nearQ a b) rfl
    have d2 := near_dir (sg a ^^ sg b) true (dM a b) (pD a b) u v huv hm (nearQ a b) rfl
    change DirW false _ _ (divF a b false) at d1
    change DirW true _ _ (divF a b true) at d2
    rw [← hL] at d1
    rw [← hH] at d2
    refine (bracket d1 d2).congr (fun t ht => ?_)
    have hc := div_cmp3 a b (rg t) a0 b0
    rw [cmpR_scale _ _ _ u v huv] at hc
    have ra := rv_pos a0
    have rb := rv_pos b0
    have hz : rv (rg t) * 2 ^ v = 0 ↔ rv (rg t) * rv (rg b) = 0 := by
      constructor
      · intro h
        rcases Nat.mul_eq_zero.1 h with h | h
        · rw [h, Nat.zero_mul]
        · have := Nat.two_pow_pos v; omega
      · intro h
        rcases Nat.mul_eq_zero.1 h with h | h
        · rw [h, Nat.zero_mul]
        · omega
    have hs := quo_signs (sg a) (sg b) (sg t) (rv (rg t) * 2 ^ v) (dM a b * 2 ^ u) (rv (rg t) * rv (rg b)) (rv (rg a) * 2 ^ E) (Nat.mul_pos hm (Nat.two_pow_pos u)) (Nat.mul_pos ra (Nat.two_pow_pos E)) hz hc
    rw [← sgz_pow (sg t), ← sgz_pow (sg a), ← sgz_mul (sg t) (sg b) (rv (rg t)) (rv (rg b)), ← vl_sgz, ← vl_sgz, ← vl_sgz] at hs
    try dsimp only
    rw [hs]
    unfold cQ
    by_cases hb : sg b = true
    · rw [if_pos hb, if_pos ((key_neg b0).2 hb)]
    · rw [if_neg hb, if_neg (fun h => hb ((key_neg b0).1 h))]
def cT (a t : Nat) : Ordering := if key t < 0 then .lt else compare (vl t * vl t) (vl a * 2 ^ E)
theorem sqrt_of_zero (a : Nat) (h0 : rg a = 0) : ∃ r, double.sqrt a = some r ∧ rg r = 0 := by
  have fa : rg a < I := by rw [h0]; decide
  unfold Format.sqrt
  rw [read_fin a fa]
  unfold Datum.root
  dsimp only
  rw [if_pos (by rw [h0]; decide)]
  refine ⟨_, rfl, ?_⟩
  show rg (double.nearest (sg a) (mant (rg a)) (-1074 + (ex (rg a) : Nat))) = 0
  rw [h0, show mant 0 = 0 by decide, show ex 0 = 0 by decide]
  exact rg_nearest_zero _ _
theorem root_br {a L H : Nat} (fa : rg a < I) (hk : 0 ≤ key a) (h1 : Is (sqrtS a false) L) (h2 : Is (sqrtS a true) H) : Br (cT a) L H := by
  rcases Nat.eq_zero_or_pos (rg a) with a0 | a0
  · obtain ⟨r, e1, e2⟩ := sqrt_of_zero a a0
    unfold sqrtS at h1 h2
    rw [if_neg (fun h => by omega), e1] at h1 h2
    have hL : L = r := h1
    have hH : H = r := h2
    rw [hL, hH]
    have hI := I_pos
    have hk0 : ¬ key r < 0 := by have := rg_key r; omega
    refine ⟨by omega, by omega, .inl ⟨rfl, by omega, ?_⟩⟩
    unfold cT
    rw [if_neg hk0, vl_zero a0, vl_zero e2, Int.zero_mul, Int.zero_mul]
    rfl
  · have hs : sg a = false := by
      cases hs : sg a
      · rfl
      · have := (key_neg a0).2 hs; omega
    unfold sqrtS at h1 h2
    rw [if_pos ⟨fa, a0, hs⟩] at h1 h2
    have hL : L = sqrtF a false := h1
    have hH : H = sqrtF a true := h2
    have d1 := sqrtF_dir a false a0 fa hs
    have d2 := sqrtF_dir a true a0 fa hs
    rw [← hL] at d1
    rw [← hH] at d2
    have hp := pR_low a a0 fa
    obtain ⟨u, hu⟩ : ∃ u : Nat, (pR a + 1074).toNat = u := ⟨_, rfl⟩
    have hq : sqN a = sM a * 2 ^ u := by unfold sqN; rw [if_neg (Nat.ne_of_gt a0), hu]
    rw [hq] at d1 d2
    have hm : 0 < sM a := Nat.pos_of_ne_zero (sM_range a a0).1
    refine (bracket d1 d2).congr (fun t ht => ?_)
    try dsimp only
    rw [Int.pow_zero, Int.mul_one]
    unfold cT
    have hpos : 0 < sM a * 2 ^ u := Nat.mul_pos hm (Nat.two_pow_pos u)
    by_cases hkt : key t < 0
    · rw [if_pos hkt]
      have hv : vl t ≤ 0 := by
        have ht0 : 0 < rg t := by have := rg_key t; omega
        rw [vl_sgz, (key_neg ht0).1 hkt]; unfold sgz; simp
      rw [compare_int, if_pos (by generalize sM a * 2 ^ u = X at *; omega)]
    · rw [if_neg hkt]
      have hvt : vl t = sgz false (rv (rg t)) := by
        rcases Nat.eq_zero_or_pos (rg t) with ht0 | ht0
        · rw [vl_zero ht0, ht0, rv_zero]; rfl
        · rw [vl_sgz]
          cases hst : sg t
          · rfl
          · exact absurd ((key_neg ht0).2 hst) hkt
      have hc := root_cmp3 a (rg t) a0 fa
      rw [cmpR_scale _ _ _ u 0 (by omega)] at hc
      have ra := rv_pos a0
      have hz : rv (rg t) * 2 ^ 0 = 0 ↔ rv (rg t) * rv (rg t) = 0 := by
        rw [Nat.pow_zero, Nat.mul_one, Nat.mul_eq_zero, or_self]
      have hs2 := quo_signs false false false (rv (rg t) * 2 ^ 0) (sM a * 2 ^ u) (rv (rg t) * rv (rg t)) (rv (rg a) * 2 ^ E) hpos (Nat.mul_pos ra (Nat.two_pow_pos E)) hz hc
      rw [if_neg (by simp), Nat.pow_zero, Nat.mul_one, ← sgz_pow] at hs2
      rw [hvt, vl_sgz a, hs, sgz_mul]
      exact hs2
theorem add_br {a b L H : Nat} (ha : a < 2 * W) (hb : b < 2 * W) (fa : rg a < I) (fb : rg b < I) (h1 : Is (addS a b false) L) (h2 : Is (addS a b true) H) : Br (fun t => compare (vl t) (vl a + vl b)) L H := by
  unfold addS at h1 h2
  rw [if_pos ⟨fa, fb⟩] at h1 h2
  have hL : L = addF a b false := h1
  have hH : H = addF a b true := h2
  have d1 := addF_dir a b false ha hb fa fb
  have d2 := addF_dir a b true ha hb fa fb
  rw [← hL] at d1
  rw [← hH] at d2
  refine (bracket d1 d2).congr (fun t ht => ?_)
  try dsimp only
  rw [Int.pow_zero, Int.mul_one]
theorem mul_br {a b L H : Nat} (fa : rg a < I) (fb : rg b < I) (h1 : Is (mulS a b false) L) (h2 : Is (mulS a b true) H) : Br (fun t => compare (vl t * 2 ^ E) (vl a * vl b)) L H := by
  obtain ⟨r, e1, d1⟩ := mulS_dir a b false fa fb
  obtain ⟨q, e2, d2⟩ := mulS_dir a b true fa fb
  rw [e1] at h1
  rw [e2] at h2
  have hL : L = r := h1
  have hH : H = q := h2
  rw [← hL] at d1
  rw [← hH] at d2
  exact bracket d1 d2
/-- What an operation, by number, tells. -/
def didS (op : Int) (a b : Nat) (up : Bool) : Option Nat := if op = 0 then addS a b up else if op = 1 then addS a (ng b) up else if op = 2 then mulS a b up else if op = 3 then divS a b up else sqrtS a up
def agS (op : Int) (a b t : Nat) : Ordering := if op = 0 then compare (vl t) (vl a + vl b) else if op = 1 then compare (vl t) (vl a + vl (ng b)) else if op = 2 then compare (vl t * 2 ^ E) (vl a * vl b) else if op = 3 then cQ a b t else cT a t
def PlainP (op : Int) (a b : Nat) : Prop := if op = 4 then rg a < I ∧ 0 ≤ key a else rg a < I ∧ rg b < I ∧ (op ≠ 3 ∨ 0 < rg b)
theorem did_br {op : Int} {a b L H : Nat} (ha : a < 2 * W) (hb : b < 2 * W) (o1 : 0 ≤ op) (o2 : op < 5) (hp : PlainP op a b) (h1 : Is (didS op a b false) L) (h2 : Is (didS op a b true) H) : Br (agS op a b) L H := by
  have : op = 0 ∨ op = 1 ∨ op = 2 ∨ op = 3 ∨ op = 4 := by omega
  unfold PlainP at hp
  unfold didS at h1 h2
  unfold agS
  rcases this with rfl | rfl | rfl | rfl | rfl
  · rw [if_neg (by decide)] at hp
    rw [if_pos rfl] at h1 h2
    exact (add_br ha hb hp.1 hp.2.1 h1 h2).congr (fun t _ => by rw [if_pos rfl])
  · rw [if_neg (by decide)] at hp
    rw [if_neg (by decide), if_pos rfl] at h1 h2
    exact (add_br ha (ng_lt b hb) hp.1 (by rw [rg_ng b hb]; exact hp.2.1) h1 h2).congr (fun t _ => by rw [if_neg (by decide), if_pos rfl])
  · rw [if_neg (by decide)] at hp
    rw [if_neg (by decide), if_neg (by decide), if_pos rfl] at h1 h2
    exact (mul_br hp.1 hp.2.1 h1 h2).congr (fun t _ => by rw [if_neg (by decide), if_neg (by decide), if_pos rfl])
  · rw [if_neg (by decide)] at hp
    rw [if_neg (by decide), if_neg (by decide), if_neg (by decide), if_pos rfl] at h1 h2
    refine (div_br hp.1 hp.2.1 ?_ h1 h2).congr (fun t _ => by rw [if_neg (by decide), if_neg (by decide), if_neg (by decide), if_pos rfl])
    rcases hp.2.2 with h | h
    · exact absurd rfl h
    · exact h
  · rw [if_pos rfl] at hp
    rw [if_neg (by decide), if_neg (by decide), if_neg (by decide), if_neg (by decide)] at h1 h2
    exact (root_br hp.1 hp.2 h1 h2).congr (fun t _ => by rw [if_neg (by decide), if_neg (by decide), if_neg (by decide), if_neg (by decide)])
theorem did_same {op : Int} {a b : Nat} (hb : b < 2 * W) (o1 : 0 ≤ op) (o2 : op < 5) (hp : ¬ PlainP op a b) : didS op a b false = didS op a b true := by
  have : op = 0 ∨ op = 1 ∨ op = 2 ∨ op = 3 ∨ op = 4 := by omega
  unfold PlainP at hp
  unfold didS
  rcases this with rfl | rfl | rfl | rfl | rfl
  · rw [if_neg (by decide)] at hp
    rw [if_pos rfl, if_pos rfl]
    have hn : ¬ (rg a < I ∧ rg b < I) := fun h => hp ⟨h.1, h.2, .inl (by decide)⟩
    unfold addS; rw [if_neg hn, if_neg hn]
  · rw [if_neg (by decide)] at hp
    rw [if_neg (by decide), if_pos rfl, if_neg (by decide), if_pos rfl]
    have hn : ¬ (rg a < I ∧ rg (ng b) < I) := fun h => hp ⟨h.1, by rw [rg_ng b hb] at h; exact h.2, .inl (by decide)⟩
    unfold addS; rw [if_neg hn, if_neg hn]
  · rw [if_neg (by decide)] at hp
    rw [if_neg (by decide), if_neg (by decide), if_pos rfl, if_neg (by decide), if_neg (by decide), if_pos rfl]
    have hn : ¬ (rg a < I ∧ rg b < I ∧ 0 < rg a ∧ 0 < rg b) := fun h => hp ⟨h.1, h.2.1, .inl (by decide)⟩
    unfold mulS; rw [if_neg hn, if_neg hn]
  · rw [if_neg (by decide)] at hp
    rw [if_neg (by decide), if_neg (by decide), if_neg (by decide), if_pos rfl, if_neg (by decide), if_neg (by decide), if_neg (by decide), if_pos rfl]
    have hn : ¬ (rg a < I ∧ rg b < I ∧ 0 < rg a ∧ 0 < rg b) := fun h => hp ⟨h.1, h.2.1, .inr h.2.2.2⟩
    unfold divS; rw [if_neg hn, if_neg hn]
  · rw [if_pos rfl] at hp
    rw [if_neg (by decide), if_neg (by decide), if_neg (by decide), if_neg (by decide), if_neg (by decide), if_neg (by decide), if_neg (by decide), if_neg (by decide)]
    have hn : ¬ (rg a < I ∧ 0 < rg a ∧ sg a = false) := fun h => hp ⟨h.1, by rw [key_of, h.2.2]; unfold sgz; simp⟩
    unfold sqrtS; rw [if_neg hn, if_neg hn]
end Fl
end Go.Proofs.Ytgockebgcbmgoaa

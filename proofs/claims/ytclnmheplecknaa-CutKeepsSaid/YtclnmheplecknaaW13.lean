/-
  Plain facts on quotients of doubles.
  The walks of edge's even and Mul.
  The walks of edge's settle and Mul.
  Plain: what Nearest tells stands next to the number.
  Plain facts for the step to a side: an exact number against its nearest float is told by the same number scaled into the normal range.
-/
import Derived.Test.YtclnmheplecknaaW12
set_option linter.unusedVariables false
set_option linter.unusedSimpArgs false
namespace Go.Proofs.Ytclnmheplecknaa
namespace Fl
open Ieee

/-- mag * 2^p against a rung's value. -/
def cmpR (mag : Nat) (p : Int) (r : Nat) : Ordering := compare (mag * 2 ^ (p + 1074).toNat) (rv r * 2 ^ (-(p + 1074)).toNat)
/-- With its sign. -/
def cmpS (s : Bool) (c : Ordering) : Ordering := if s then c.swap else c

theorem compare_nat (a b : Nat) : compare a b = if a < b then .lt else if a = b then .eq else .gt := rfl
theorem compare_mul (a b c : Nat) (hc : 0 < c) : compare (a * c) (b * c) = compare a b := by
  rw [compare_nat, compare_nat]
  rcases Nat.lt_trichotomy a b with h | h | h
  · rw [if_pos h, if_pos (Nat.mul_lt_mul_of_pos_right h hc)]
  · subst h; simp
  · have := Nat.mul_lt_mul_of_pos_right h hc
    rw [if_neg (by omega), if_neg (by omega), if_neg (by omega), if_neg (by omega)]
/-- Spelled with any scale. -/
theorem cmpR_scale (mag : Nat) (p : Int) (r u v : Nat) (h : (u : Int) - v = p + 1074) : cmpR mag p r = compare (mag * 2 ^ u) (rv r * 2 ^ v) := by
  unfold cmpR
  obtain ⟨t, e1, e2⟩ : ∃ t, u = (p + 1074).toNat + t ∧ v = (-(p + 1074)).toNat + t := ⟨min u v, by omega, by omega⟩
  rw [e1, e2, Nat.pow_add, Nat.pow_add, ← Nat.mul_assoc, ← Nat.mul_assoc]
  rw [compare_mul _ _ _ (Nat.two_pow_pos _)]
theorem cmpR_shift (mag : Nat) (p k : Int) (r q c1 c2 : Nat) (h : rv q * 2 ^ c1 = rv r * 2 ^ c2) (hk : (c2 : Int) - c1 = -k) : cmpR mag p r = cmpR mag (p - k) q := by
  have a1 := cmpR_scale mag p r ((p + 1074).toNat + c2) ((-(p + 1074)).toNat + c2) (by omega)
  have a2 := cmpR_scale mag (p - k) q ((p + 1074).toNat + c2) ((-(p + 1074)).toNat + c1) (by omega)
  rw [a1, a2]
  have key : ∀ t : Nat, rv r * 2 ^ (t + c2) = rv q * 2 ^ (t + c1) := fun t => by
    rw [Nat.pow_add, Nat.pow_add, Nat.mul_comm (2 ^ t) (2 ^ c2), Nat.mul_comm (2 ^ t) (2 ^ c1), ← Nat.mul_assoc, ← Nat.mul_assoc, h]
  rw [key]
theorem cmpR_congr (m1 m2 : Nat) (p1 p2 : Int) (c1 c2 r : Nat) (h : m1 * 2 ^ c1 = m2 * 2 ^ c2) (hp : p1 - c1 = p2 - c2) : cmpR m1 p1 r = cmpR m2 p2 r := by
  have a1 := cmpR_scale m1 p1 r (c1 + (p1 - c1 + 1074).toNat) (-(p1 - c1 + 1074)).toNat (by omega)
  have a2 := cmpR_scale m2 p2 r (c2 + (p1 - c1 + 1074).toNat) (-(p1 - c1 + 1074)).toNat (by omega)
  rw [a1, a2, Nat.pow_add, Nat.pow_add, ← Nat.mul_assoc, ← Nat.mul_assoc, h]

/-- The nearest rung, scaled as one likes. -/
theorem nearest_rnd (s : Bool) (mag : Nat) (p : Int) (u v : Nat) (h : (u : Int) - v = p + 1074) : ∃ r, double.nearest s mag p = wd s (min r I) ∧ Rnd (mag * 2 ^ u) v r := by
  obtain ⟨r, h1, h2⟩ := nearest_word s mag p
  refine ⟨r, h1, ?_⟩
  have := h2 v (mag * 2 ^ (p + 1074 + v).toNat) (by omega) rfl
  rwa [show (p + 1074 + (v : Int)).toNat = u by omega] at this

/-- The number lies on that side of a rung on which its nearest one lies. -/
theorem cmpR_nearest (mag : Nat) (p : Int) (q r u v : Nat) (h : (u : Int) - v = p + 1074) (hq : Rnd (mag * 2 ^ u) v q) :
    (r < q → cmpR mag p r = .gt) ∧ (q < r → cmpR mag p r = .lt) := by
  have e := cmpR_scale mag p r u v h
  rw [e, compare_nat]
  have hr := Rnd.exact r v
  constructor
  · intro hlt
    have : ¬ mag * 2 ^ u ≤ rv r * 2 ^ v := fun hle => by
      have := hq.mono hr (Nat.mul_le_mul_right _ hle); omega
    rw [if_neg (by omega), if_neg (by omega)]
  · intro hlt
    have : ¬ rv r * 2 ^ v ≤ mag * 2 ^ u := fun hle => by
      have := hr.mono hq (Nat.mul_le_mul_right _ hle); omega
    rw [if_pos (by omega)]

/-- Told by the scaled number: near = the nearest rung to mag 2^p, q = the one to mag 2^(p - k); y = near's value 2^-k. -/
theorem settle_cmp (mag : Nat) (p k : Int) (near q y c1 c2 u v : Nat) (hy : rv y * 2 ^ c1 = rv near * 2 ^ c2) (hk : (c2 : Int) - c1 = -k) (h : (u : Int) - v = p - k + 1074) (hq : Rnd (mag * 2 ^ u) v q) :
    cmpR mag p near = if y < q then .gt else if q < y then .lt else cmpR mag (p - k) q := by
  rw [cmpR_shift mag p k near y c1 c2 hy hk]
  obtain ⟨h1, h2⟩ := cmpR_nearest mag (p - k) q y u v h hq
  rcases Nat.lt_trichotomy y q with h3 | h3 | h3
  · rw [if_pos h3]; exact h1 h3
  · subst h3; rw [if_neg (by omega), if_neg (by omega)]
  · rw [if_neg (by omega), if_pos h3]; exact h2 h3

/-! ### where the nearest one's first digit stands -/
theorem pow_lt_pow_exp {a b : Nat} (h : 2 ^ a < 2 ^ b) : a < b := (Nat.pow_lt_pow_iff_right (by decide)).1 h
theorem rv_succ_le (r : Nat) (h : 0 < r) : rv (r + 1) ≤ 2 * rv r := by
  rw [rv_succ]
  have h1 : 2 ^ ex r ≤ rv r := by
    unfold rv
    have : 1 ≤ mant r := by
      rcases mant_ge r with h2 | h2
      · have := ex_mant r; rw [h2] at this; omega
      · have : 0 < B := by decide
        omega
    calc 2 ^ ex r = 1 * 2 ^ ex r := (Nat.one_mul _).symm
      _ ≤ mant r * 2 ^ ex r := Nat.mul_le_mul_right _ this
  omega
theorem near_lead (mag r u v : Nat) (p : Int) (hm : mag ≠ 0) (h : (u : Int) - v = p + 1074) (hr : Rnd (mag * 2 ^ u) v r) (h0 : 0 < r) :
    (mag.log2 : Int) + p - 1 ≤ nE r - 1022 ∧ nE r - 1022 ≤ (mag.log2 : Int) + p + 1 := by
  obtain ⟨c1, c2, n1, n2⟩ := norm_val r h0
  obtain ⟨m1, m2⟩ := nM_range r h0
  have l1 := Nat.log2_self_le hm
  have l2 : mag < 2 ^ (mag.log2 + 1) := Nat.lt_log2_self
  generalize mag.log2 = l at *
  have hval : rv r * 2 ^ c1 = nM r * 2 ^ (c2 + ex r) := by
    unfold rv; rw [Nat.mul_assoc, Nat.mul_comm (2 ^ ex r), ← Nat.mul_assoc, n1, Nat.mul_assoc, ← Nat.pow_add]
  rw [B_eq] at m1 m2
  constructor
  · -- 2 n ≤ 3 rv
    have h1 : 2 * (mag * 2 ^ u) ≤ 3 * rv r * 2 ^ v := by
      have := hr.hi
      have h2 := rv_succ_le r h0
      refine Nat.le_trans this (Nat.mul_le_mul_right _ (by omega))
    have h2 : 2 * (mag * 2 ^ u) * 2 ^ c1 ≤ 3 * rv r * 2 ^ v * 2 ^ c1 := Nat.mul_le_mul_right _ h1
    have h3 : 3 * rv r * 2 ^ v * 2 ^ c1 = 3 * (nM r * 2 ^ (c2 + ex r)) * 2 ^ v := by rw [← hval]; grind
    have h4 : 3 * (nM r * 2 ^ (c2 + ex r)) * 2 ^ v < 4 * (2 * 2 ^ 52 * 2 ^ (c2 + ex r)) * 2 ^ v := by
      refine Nat.mul_lt_mul_of_pos_right ?_ (Nat.two_pow_pos _)
      have : nM r * 2 ^ (c2 + ex r) < 2 * 2 ^ 52 * 2 ^ (c2 + ex r) := Nat.mul_lt_mul_of_pos_right m2 (Nat.two_pow_pos _)
      omega
    have h5 : 2 * (2 ^ l * 2 ^ u) * 2 ^ c1 ≤ 2 * (mag * 2 ^ u) * 2 ^ c1 := Nat.mul_le_mul_right _ (Nat.mul_le_mul_left _ (Nat.mul_le_mul_right _ l1))
    have h6 : 2 * (2 ^ l * 2 ^ u) * 2 ^ c1 = 2 ^ (1 + l + u + c1) := by simp only [Nat.pow_add]; grind
    have h7 : 4 * (2 * 2 ^ 52 * 2 ^ (c2 + ex r)) * 2 ^ v = 2 ^ (55 + (c2 + ex r) + v) := by
      rw [Nat.pow_add 2 (55 + (c2 + ex r)) v, Nat.pow_add 2 55 (c2 + ex r), show (2 : Nat) ^ 55 = 4 * (2 * 2 ^ 52) by decide]; generalize 2 ^ (c2 + ex r) = A; generalize 2 ^ v = C; generalize (2 : Nat) ^ 52 = D; grind
    have := pow_lt_pow_exp (a := 1 + l + u + c1) (b := 55 + (c2 + ex r) + v) (by omega)
    omega
  · have h1 : rv r * 2 ^ v ≤ 2 * (mag * 2 ^ u) := by
      have := hr.lo h0
      refine Nat.le_trans (Nat.mul_le_mul_right _ ?_) this
      omega
    have h2 : rv r * 2 ^ v * 2 ^ c1 ≤ 2 * (mag * 2 ^ u) * 2 ^ c1 := Nat.mul_le_mul_right _ h1
    have h3 : rv r * 2 ^ v * 2 ^ c1 = nM r * 2 ^ (c2 + ex r) * 2 ^ v := by rw [← hval]; grind
    have h4 : 2 ^ 52 * 2 ^ (c2 + ex r) * 2 ^ v ≤ nM r * 2 ^ (c2 + ex r) * 2 ^ v := Nat.mul_le_mul_right _ (Nat.mul_le_mul_right _ m1)
    have h5 : 2 * (mag * 2 ^ u) * 2 ^ c1 < 2 * (2 ^ (l + 1) * 2 ^ u) * 2 ^ c1 := by
      refine Nat.mul_lt_mul_of_pos_right ?_ (Nat.two_pow_pos _)
      have : mag * 2 ^ u < 2 ^ (l + 1) * 2 ^ u := Nat.mul_lt_mul_of_pos_right l2 (Nat.two_pow_pos _)
      omega
    have h6 : 2 * (2 ^ (l + 1) * 2 ^ u) * 2 ^ c1 = 2 ^ (1 + (l + 1) + u + c1) := by simp only [Nat.pow_add]; grind
    have h7 : 2 ^ 52 * 2 ^ (c2 + ex r) * 2 ^ v = 2 ^ (52 + (c2 + ex r) + v) := by rw [Nat.pow_add 2 (52 + (c2 + ex r)) v, Nat.pow_add 2 52 (c2 + ex r)]
    have := pow_lt_pow_exp (a := 52 + (c2 + ex r) + v) (b := 1 + (l + 1) + u + c1) (by omega)
    omega

/-! ### fused multiply-add of finite floats -/
/-- The exact value in units (the product's places are not below the least one). -/
def fmaT (x y z : Nat) : Int := (if sg x ^^ sg y then -1 else 1) * ((mant (rg x) * mant (rg y) * 2 ^ (pl x + pl y + 1074).toNat : Nat) : Int) + vl z
theorem fma_fin (x y z : Nat) (hx : rg x < I) (hy : rg y < I) (hz : rg z < I) (hp : -1074 ≤ pl x + pl y) : double.fma x y z = some (rnd (sgn2 (sg x ^^ sg y) (sg z) (fmaT x y z)) (fmaT x y z).natAbs) := by
  unfold Format.fma
  rw [read_fin x hx, read_fin y hy, read_fin z hz]
  unfold Datum.product
  dsimp only [Option.bind_some]
  unfold Datum.sum
  dsimp only
  rw [show (-1074 + ((ex (rg x) : Nat) : Int) + (-1074 + ((ex (rg y) : Nat) : Int))) = pl x + pl y from rfl]
  generalize hbase : min (pl x + pl y) (-1074 + ((ex (rg z) : Nat) : Int)) = base
  have h2 := signed_units (sg z) (rg z) base (by omega) (by omega)
  have e2 : vl z = signed (sg z) (mant (rg z)) (-1074 + (ex (rg z) : Nat) - base).toNat * 2 ^ (base + 1074).toNat := by unfold vl; exact h2.symm
  have e1 : (if sg x ^^ sg y then -1 else 1) * ((mant (rg x) * mant (rg y) * 2 ^ (pl x + pl y + 1074).toNat : Nat) : Int) = signed (sg x ^^ sg y) (mant (rg x) * mant (rg y)) (pl x + pl y - base).toNat * 2 ^ (base + 1074).toNat := by
    have key : mant (rg x) * mant (rg y) * 2 ^ (pl x + pl y + 1074).toNat = mant (rg x) * mant (rg y) * 2 ^ (pl x + pl y - base).toNat * 2 ^ (base + 1074).toNat := by
      rw [Nat.mul_assoc (mant (rg x) * mant (rg y)) (2 ^ _), ← Nat.pow_add]; congr 2; omega
    unfold signed
    rw [Nat.shiftLeft_eq]
    rw [key]
    cases (sg x ^^ sg y)
    · simp
    · simp [Int.neg_mul]
  have e3 : fmaT x y z = (signed (sg x ^^ sg y) (mant (rg x) * mant (rg y)) (pl x + pl y - base).toNat + signed (sg z) (mant (rg z)) (-1074 + (ex (rg z) : Nat) - base).toNat) * 2 ^ (base + 1074).toNat := by
    unfold fmaT; rw [e1, e2, Int.add_mul]
  generalize signed (sg x ^^ sg y) (mant (rg x) * mant (rg y)) (pl x + pl y - base).toNat = a at *
  generalize signed (sg z) (mant (rg z)) (-1074 + (ex (rg z) : Nat) - base).toNat = b at *
  have hpp := pow_pos_int (base + 1074).toNat
  have hs : (if a + b = 0 then ((sg x ^^ sg y) && sg z) else decide (a + b < 0)) = sgn2 (sg x ^^ sg y) (sg z) (fmaT x y z) := by
    unfold sgn2; rw [e3]
    generalize (2 : Int) ^ (base + 1074).toNat = P at *
    by_cases h0 : a + b = 0
    · rw [h0]; simp
    · have : (a + b) * P ≠ 0 := Int.mul_ne_zero h0 (by omega)
      rw [if_neg h0, if_neg this]
      congr 1
      apply propext
      constructor
      · intro h; exact Int.mul_neg_of_neg_of_pos h hpp
      · intro h
        rcases Int.lt_trichotomy (a + b) 0 with h3 | h3 | h3
        · exact h3
        · omega
        · have := Int.mul_pos h3 hpp; omega
  simp only [Option.map_some, Format.write]
  rw [hs, nearest_units _ _ _ (by omega), e3, Int.natAbs_mul]
  congr 3
end Fl
end Go.Proofs.Ytclnmheplecknaa

namespace Go.Proofs.Ytclnmheplecknaa
open Fl in
theorem fL_word (n s r : Nat) (last : Int) (hn : n ≤ 9007199254740992) (hs : last + 1074 = s) (hr : rv r = n * 2 ^ s) : fL n last = wd false (min r I) := by
  unfold fL
  by_cases h0 : n = 0
  · rw [if_pos h0]
    subst h0
    have : r = 0 := by
      rcases Nat.eq_zero_or_pos r with h | h
      · exact h
      · have := rv_pos h; omega
    rw [this, Nat.zero_min]; decide
  · rw [if_neg h0]
    have e : floatOfInt .f64 ((n : Nat) : Int) = rnd false (n * Fl.U) := ofInt_sgi false n
    obtain ⟨h1, h2⟩ := whole_rr n hn
    rw [e]
    unfold scl
    rw [sg_rnd, rg_rnd]
    obtain ⟨q, e1, e2⟩ := nearest_rnd false (mant (rr (n * Fl.U))) (pl (rnd false (n * Fl.U)) + last) (ex (rr (n * Fl.U)) + s) E (by
      have : pl (rnd false (n * Fl.U)) = -1074 + (ex (rr (n * Fl.U)) : Nat) := by unfold pl; rw [rg_rnd]
      have hE : (E : Int) = 1074 := by rw [E_eq]; rfl
      omega)
    have hX : mant (rr (n * Fl.U)) * 2 ^ (ex (rr (n * Fl.U)) + s) = rv r * 2 ^ E := by
      rw [Nat.pow_add, ← Nat.mul_assoc, show mant (rr (n * Fl.U)) * 2 ^ ex (rr (n * Fl.U)) = rv (rr (n * Fl.U)) from rfl, h1, hr]
      rw [U_def]
      generalize 2 ^ E = X
      generalize 2 ^ s = Y
      ac_rfl
    rw [hX] at e2
    rw [e1, e2.eq (Rnd.exact r E)]
open Fl in
theorem rung_of (n s : Nat) (hn : n < 9007199254740992) (h : s = 0 ∨ 4503599627370496 ≤ n) : ∃ r, rv r = n * 2 ^ s ∧ rv (r + 1) = (n + 1) * 2 ^ s := by
  have hm : n < 2 * B := by unfold B; omega
  have hb : s = 0 ∨ B ≤ n := by unfold B; exact h
  have e := ex_of s n hm hb
  have m := mant_of s n hm hb
  refine ⟨s * B + n, ?_, ?_⟩
  · unfold rv; rw [e, m]
  · rw [rv_succ, e]; unfold rv; rw [e, m]; rw [Nat.add_mul, Nat.one_mul]
theorem floorN (N : Nat) (e last : Int) (s : Nat) (hN : N ≠ 0) (he : 0 ≤ e + 2148) (hs : last + 1074 = s) :
    lowN N e last * 2 ^ (s + 1074) ≤ N * 2 ^ (e + 2148).toNat ∧ N * 2 ^ (e + 2148).toNat < (lowN N e last + 1) * 2 ^ (s + 1074) := by
  unfold lowN cutN
  rw [if_neg hN]
  by_cases h : last ≤ e
  · rw [if_pos h]
    dsimp only
    have : N * 2 ^ (e - last).toNat * 2 ^ (s + 1074) = N * 2 ^ (e + 2148).toNat := by
      rw [Nat.mul_assoc, ← Nat.pow_add]; congr 2; omega
    have hp := Nat.two_pow_pos (s + 1074)
    rw [Nat.add_mul, this, Nat.one_mul]
    omega
  · rw [if_neg h]
    dsimp only
    rw [Int.sub_self, Int.toNat_zero, Nat.pow_zero, Nat.mul_one]
    have hp : (2 : Nat) ^ (s + 1074) = 2 ^ (last - e).toNat * 2 ^ (e + 2148).toNat := by rw [← Nat.pow_add]; congr 1; omega
    rw [hp]
    have hd := Nat.two_pow_pos (last - e).toNat
    have hq := Nat.two_pow_pos (e + 2148).toNat
    generalize 2 ^ (last - e).toNat = d at *
    generalize 2 ^ (e + 2148).toNat = q at *
    have h3 := Nat.div_add_mod N d
    have h4 := Nat.mod_lt N hd
    constructor
    · rw [← Nat.mul_assoc]
      refine Nat.mul_le_mul_right _ ?_
      rw [Nat.mul_comm]; omega
    · rw [← Nat.mul_assoc]
      refine Nat.mul_lt_mul_of_pos_right ?_ hq
      rw [Nat.add_mul, Nat.one_mul, Nat.mul_comm (N / d)]; omega
theorem near_next (N : Nat) (e last : Int) (s : Nat) (hN : N ≠ 0) (he : 0 ≤ e + 2148) (he2 : e ≤ 5000) (hs : last + 1074 = s) (hlast : last = lastN N e) :
    lowN N e last < 9007199254740992 ∧ (s = 0 ∨ 4503599627370496 ≤ lowN N e last) := by
  obtain ⟨f1, f2⟩ := floorN N e last s hN he hs
  obtain ⟨b1, b2, b3⟩ := Nt.bits_range N hN
  unfold lastN at hlast
  have hq := Nat.two_pow_pos (s + 1074)
  constructor
  · -- N 2^(e+2148) < 2^(53 + s + 1074)
    have h1 : N * 2 ^ (e + 2148).toNat < 2 ^ 53 * 2 ^ (s + 1074) := by
      have h2 : N * 2 ^ (e + 2148).toNat < 2 ^ bitsN N * 2 ^ (e + 2148).toNat := Nat.mul_lt_mul_of_pos_right b3 (Nat.two_pow_pos _)
      refine Nat.lt_of_lt_of_le h2 ?_
      rw [← Nat.pow_add, ← Nat.pow_add]
      exact Nat.pow_le_pow_right (by decide) (by omega)
    have h3 : lowN N e last * 2 ^ (s + 1074) < 2 ^ 53 * 2 ^ (s + 1074) := Nat.lt_of_le_of_lt f1 h1
    exact Nat.lt_of_mul_lt_mul_right h3
  · by_cases h0 : s = 0
    · exact .inl h0
    · right
      have h1 : 2 ^ 52 * 2 ^ (s + 1074) ≤ N * 2 ^ (e + 2148).toNat := by
        have h2 : 2 ^ (bitsN N - 1) * 2 ^ (e + 2148).toNat ≤ N * 2 ^ (e + 2148).toNat := Nat.mul_le_mul_right _ b2
        refine Nat.le_trans ?_ h2
        rw [← Nat.pow_add, ← Nat.pow_add]
        exact Nat.pow_le_pow_right (by decide) (by omega)
      have h3 : 2 ^ 52 * 2 ^ (s + 1074) < (lowN N e last + 1) * 2 ^ (s + 1074) := Nat.lt_of_le_of_lt h1 f2
      have h4 := Nat.lt_of_mul_lt_mul_right h3
      have : (2 : Nat) ^ 52 = 4503599627370496 := by decide
      omega
/-- What is taken off is not below 0, and above 0 where the half is told. -/
theorem half_pos (N : Nat) (e last : Int) (hN : N ≠ 0) (he : 0 ≤ e + 2148) (hl : -1074 ≤ last) (hT : 0 ≤ halfN N e last) : lowN N e last * 2 ^ (last + 2148).toNat < N * 2 ^ (e + 2148).toNat := by
  unfold halfN at hT
  have hcut : 0 ≤ (cutN N e last).2.2 + 2148 ∧ last ≤ (cutN N e last).2.2 := by
    unfold cutN; rw [if_neg hN]; split <;> (dsimp only; omega)
  obtain ⟨g1, g2⟩ := Nt.plusN_val false N e true (cutN N e last).2.1 (cutN N e last).2.2 2148 he hcut.1
  have hr : restN N e last = plusN false N e true (cutN N e last).2.1 (cutN N e last).2.2 := rfl
  rw [← hr] at g1 g2
  rw [Nt.cmpN_val _ _ _ _ _ _ 2148 g1 (by omega), g2, show true = !false from rfl, Nt.nv_not] at hT
  unfold Nt.ordI Nt.nv Nt.sz at hT
  simp only [Bool.false_eq_true, if_false] at hT
  have e1 : lowN N e last * 2 ^ (last + 2148).toNat = (cutN N e last).2.1 * 2 ^ ((cutN N e last).2.2 + 2148).toNat := by
    unfold lowN
    rw [Nat.mul_assoc, ← Nat.pow_add]; congr 2; omega
  rw [e1]
  have e2 := Nat.two_pow_pos (last - 1 + 2148).toNat
  rw [Nat.one_mul] at hT
  generalize 2 ^ (last - 1 + 2148).toNat = H at *
  generalize (cutN N e last).2.1 * 2 ^ ((cutN N e last).2.2 + 2148).toNat = Y at *
  generalize N * 2 ^ (e + 2148).toNat = X at *
  split at hT
  · omega
  · split at hT <;> omega
open Fl in
/-- The float told stands next to the number. -/
theorem nearest_next (N : Nat) (e : Int) (hN : N ≠ 0) (he : 0 ≤ e + 2148) (he2 : e ≤ 5000) :
    ∃ r, fL (nearN (lowN N e (lastN N e)) (halfN N e (lastN N e))) (lastN N e) = wd false (min r I) ∧ N * 2 ^ (e + 2148).toNat < rv (r + 1) * 2 ^ 1074 ∧ (0 < r → rv (r - 1) * 2 ^ 1074 < N * 2 ^ (e + 2148).toNat) := by
  obtain ⟨last, hlast⟩ : ∃ last, last = lastN N e := ⟨_, rfl⟩
  rw [← hlast]
  have hl : -1074 ≤ last := by rw [hlast]; unfold lastN; omega
  obtain ⟨s, hs⟩ : ∃ s : Nat, last + 1074 = s := ⟨(last + 1074).toNat, by omega⟩
  obtain ⟨n1, n2⟩ := near_next N e last s hN he he2 hs hlast
  obtain ⟨f1, f2⟩ := floorN N e last s hN he hs
  obtain ⟨r, r1, r2⟩ := rung_of _ s n1 n2
  have es : (last + 2148).toNat = s + 1074 := by omega
  have hp := half_pos N e last hN he hl
  rw [es] at hp
  have q1 : lowN N e last * 2 ^ (s + 1074) = rv r * 2 ^ 1074 := by rw [r1, Nat.pow_add, Nat.mul_assoc]
  have q2 : (lowN N e last + 1) * 2 ^ (s + 1074) = rv (r + 1) * 2 ^ 1074 := by rw [r2, Nat.pow_add, Nat.mul_assoc]
  rw [q1] at hp f1
  rw [q2] at f2
  have hpz := Nat.two_pow_pos 1074
  have mono : ∀ a b : Nat, a < b → rv a * 2 ^ 1074 < rv b * 2 ^ 1074 := fun a b h => Nat.mul_lt_mul_of_pos_right (rv_mono h) hpz
  have m1 := mono (r + 1) (r + 1 + 1) (by omega)
  have m0 : 0 < r → rv (r - 1) * 2 ^ 1074 < rv r * 2 ^ 1074 := fun h => mono _ _ (by omega)
  clear q1 q2 es mono
  unfold nearN
  split
  · rename_i hc
    refine ⟨r + 1, fL_word _ s (r + 1) last (by omega) hs r2, ?_, fun _ => ?_⟩
    · exact Nat.lt_trans f2 m1
    · rw [Nat.add_sub_cancel]
      exact hp (by omega)
  · refine ⟨r, fL_word _ s r last (by omega) hs r1, f2, fun h => ?_⟩
    exact Nat.lt_of_lt_of_le (m0 h) f1
end Go.Proofs.Ytclnmheplecknaa

namespace Go.Proofs.Ytclnmheplecknaa
open Go.RowKit

theorem settle_go (near x off : Nat) (P : Int) (up : Bool) (w : World) (hP1 : -10000 ≤ P) (hP2 : P ≤ 10000) (hn : near < 2 * Fl.W) (hf : Fl.rg near < Fl.I) (y1 y d : Nat) (h1 : Int) (hh : wrap64 (-(P.tdiv 2)) = h1) (hb1 : -20000 ≤ h1) (hb2 : h1 ≤ 20000)
    (l1 : ∀ w, Calls Try.prog 51 #[.float .f64 near, .int .i64 h1] w fun e w' => e = .returned (.float .f64 y1) ∧ w = w')
    (l2 : ∀ w, Calls Try.prog 51 #[.float .f64 y1, .int .i64 (-P - h1)] w fun e w' => e = .returned (.float .f64 y) ∧ w = w')
    (hd : ∀ w, (binOp .sub 71 (.float .f64 x) (.float .f64 y)).run Try.prog w = .ok (.float .f64 d) w)
    (o1 o2 : Ordering) (od : FloatKind.f64.format.order d 0 = some o1) (oo : FloatKind.f64.format.order off 0 = some o2) :
    Calls Try.prog 119 #[.float .f64 near, .float .f64 x, .float .f64 off, .int .i64 P, .bool up] w fun e w' => e = .returned (.float .f64 (Fl.sideW near (if o1 = .eq then o2 else o1) (Fl.next near up) up)) ∧ w = w' := by
  have H1 := Lib.hid l1
  have H2 := Lib.hid l2
  have OD := Lib.hid od
  have OO := Lib.hid oo
  clear l1 l2 oo
  cases o1
  · clear OO
    go_enter Try.func119, Try.ntmps119
    go_wp2_with fail
    refine (finite_yes _ _ hn hf).mono ?_
    rintro e w' ⟨rfl, rfl⟩
    go_wp2_with fail
    refine (H1.out _).mono ?_
    rintro e w' ⟨rfl, rfl⟩
    go_wp2_with fail
    refine (H2.out _).mono ?_
    rintro e w' ⟨rfl, rfl⟩
    go_wp2_with fail
    refine (side_any near d up _ hn _ OD.out).mono ?_
    rintro e w' ⟨rfl, rfl⟩
    go_wp2
    go_ret
    exact ⟨rfl, rfl⟩
  · go_enter Try.func119, Try.ntmps119
    go_wp2_with fail
    refine (finite_yes _ _ hn hf).mono ?_
    rintro e w' ⟨rfl, rfl⟩
    go_wp2_with fail
    refine (H1.out _).mono ?_
    rintro e w' ⟨rfl, rfl⟩
    go_wp2_with fail
    refine (H2.out _).mono ?_
    rintro e w' ⟨rfl, rfl⟩
    go_wp2_with fail
    refine (side_any near off up _ hn _ OO.out).mono ?_
    rintro e w' ⟨rfl, rfl⟩
    go_wp2
    go_ret
    exact ⟨rfl, rfl⟩
  · clear OO
    go_enter Try.func119, Try.ntmps119
    go_wp2_with fail
    refine (finite_yes _ _ hn hf).mono ?_
    rintro e w' ⟨rfl, rfl⟩
    go_wp2_with fail
    refine (H1.out _).mono ?_
    rintro e w' ⟨rfl, rfl⟩
    go_wp2_with fail
    refine (H2.out _).mono ?_
    rintro e w' ⟨rfl, rfl⟩
    go_wp2_with fail
    refine (side_any near d up _ hn _ OD.out).mono ?_
    rintro e w' ⟨rfl, rfl⟩
    go_wp2
    go_ret
    exact ⟨rfl, rfl⟩
theorem settle_great (near x off : Nat) (P : Int) (up : Bool) (w : World) (hn : near < 2 * Fl.W) (hI : Fl.rg near = Fl.I) :
    Calls Try.prog 119 #[.float .f64 near, .float .f64 x, .float .f64 off, .int .i64 P, .bool up] w fun e w' => e = .returned (.float .f64 (Fl.greatW near up)) ∧ Dr w w' := by
  have hf : ¬ Fl.rg near < Fl.I := by omega
  go_enter Try.func119, Try.ntmps119
  go_wp2_with fail
  refine (finite_no _ _ hf).mono ?_
  rintro e w' ⟨rfl, hd⟩
  have HD := Lib.hid hd
  clear hd
  go_wp2_with fail
  refine (great_any _ _ _ hn hI).mono ?_
  rintro e w' ⟨rfl, rfl⟩
  go_wp2
  go_ret
  exact ⟨rfl, HD.out⟩

/-! ### the scaled float -/
theorem Fl.rv_norm (r : Nat) (h0 : 0 < r) : ∃ c1 c2 : Nat, Fl.rv r * 2 ^ c1 = Fl.nM r * 2 ^ c2 ∧ (c2 : Int) - c1 = Fl.nE r := by
  obtain ⟨c1, c2, n1, n2⟩ := Fl.norm_val r h0
  refine ⟨c1, c2 + Fl.ex r, ?_, by omega⟩
  unfold Fl.rv; rw [Nat.mul_assoc, Nat.mul_comm (2 ^ Fl.ex r), ← Nat.mul_assoc, n1, Nat.mul_assoc, ← Nat.pow_add]
/-- Scaled down by P in two steps, exactly. -/
theorem Fl.scl2 (near : Nat) (h0 : 0 < Fl.rg near) (P h1 : Int) (a1 : 0 ≤ Fl.nE (Fl.rg near) + h1) (a2 : Fl.nE (Fl.rg near) + h1 ≤ 2045) (b1 : 0 ≤ Fl.nE (Fl.rg near) - P) (b2 : Fl.nE (Fl.rg near) - P ≤ 2045) :
    ∃ y1 y : Nat, y1 = Fl.scl near h1 ∧ 0 < Fl.rg y1 ∧ Fl.rg y1 < Fl.I ∧ y1 < 2 * Fl.W ∧ y = Fl.scl y1 (-P - h1) ∧ Fl.sg y = Fl.sg near ∧ Fl.rg y < Fl.I ∧ y < 2 * Fl.W ∧ ∃ c1 c2 : Nat, Fl.rv (Fl.rg y) * 2 ^ c1 = Fl.rv (Fl.rg near) * 2 ^ c2 ∧ (c2 : Int) - c1 = -P := by
  obtain ⟨e1, e2, e3, e4⟩ := Fl.scl_exact near h0 h1 a1 a2
  have hBp : 0 < Fl.B := by decide
  obtain ⟨m1, m2⟩ := Fl.nM_range (Fl.rg near) h0
  generalize hr : (Fl.nE (Fl.rg near) + h1).toNat * Fl.B + Fl.nM (Fl.rg near) = r at *
  have hW := Nat.lt_trans e2 Fl.I_lt_W
  have hr0 : 0 < r := by rw [← hr]; exact Nat.lt_of_lt_of_le (Nat.lt_of_lt_of_le hBp m1) (Nat.le_add_left _ _)
  have hrg : Fl.rg (Fl.wd (Fl.sg near) r) = r := Fl.rg_wd _ _ hW
  have hsg : Fl.sg (Fl.wd (Fl.sg near) r) = Fl.sg near := Fl.sg_wd _ _ hW
  have hk : Fl.nE (Fl.rg (Fl.wd (Fl.sg near) r)) + (-P - h1) = Fl.nE (Fl.rg near) - P := by rw [hrg, e3]; omega
  obtain ⟨f1, f2, f3, f4⟩ := Fl.scl_exact (Fl.wd (Fl.sg near) r) (by rw [hrg]; exact hr0) (-P - h1) (by rw [hk]; exact b1) (by rw [hk]; exact b2)
  rw [hk, hrg, e4, hsg] at f1
  rw [hk, hrg, e4] at f2 f3 f4
  generalize hq : (Fl.nE (Fl.rg near) - P).toNat * Fl.B + Fl.nM (Fl.rg near) = q at *
  have hqW := Nat.lt_trans f2 Fl.I_lt_W
  have hq0 : 0 < q := by rw [← hq]; exact Nat.lt_of_lt_of_le (Nat.lt_of_lt_of_le hBp m1) (Nat.le_add_left _ _)
  refine ⟨_, _, e1.symm, by rw [hrg]; exact hr0, by rw [hrg]; exact e2, Fl.wd_lt _ _ hW, f1.symm, Fl.sg_wd _ _ hqW, by rw [Fl.rg_wd _ _ hqW]; exact f2, Fl.wd_lt _ _ hqW, ?_⟩
  rw [Fl.rg_wd _ _ hqW]
  obtain ⟨c1, c2, n1, n2⟩ := Fl.rv_norm q hq0
  obtain ⟨d1, d2, n3, n4⟩ := Fl.rv_norm (Fl.rg near) h0
  rw [f4] at n1
  rw [f3] at n2
  refine ⟨c1 + d2, d1 + c2, ?_, by omega⟩
  rw [Nat.pow_add, ← Nat.mul_assoc, n1, Nat.pow_add, ← Nat.mul_assoc, n3]
  generalize 2 ^ c2 = A
  generalize 2 ^ d2 = C
  generalize Fl.nM (Fl.rg near) = M
  grind

theorem tdiv_two (P : Int) : P - 1 ≤ 2 * P.tdiv 2 ∧ 2 * P.tdiv 2 ≤ P + 1 := by
  rcases Int.lt_or_le P 0 with h | h
  · have h1 : (-P).tdiv 2 = -(P.tdiv 2) := Int.neg_tdiv ..
    rw [Int.tdiv_eq_ediv_of_nonneg (by omega)] at h1
    omega
  · rw [Int.tdiv_eq_ediv_of_nonneg h]; omega
theorem wrap_half (P : Int) (h1 : -10000 ≤ P) (h2 : P ≤ 10000) : wrap64 (-(P.tdiv 2)) = -(P.tdiv 2) := by
  have := tdiv_two P
  unfold wrap64; omega
/-- Two floats of one sign stand as their rungs. -/
theorem Fl.compare_vl (x y : Nat) (s : Bool) (hx : Fl.sg x = s) (hy : Fl.sg y = s) : compare (Fl.vl x) (Fl.vl y) = Fl.cmpS s (compare (Fl.rg x) (Fl.rg y)) := by
  unfold Fl.vl Fl.cmpS
  rw [hx, hy, Fl.compare_nat, Fl.compare_int]
  rcases Nat.lt_trichotomy (Fl.rg x) (Fl.rg y) with h | h | h
  · have := Fl.rv_mono h
    cases s
    · simp only [Bool.false_eq_true, if_false]; rw [if_pos (by omega), if_pos h]
    · simp only [if_true]; rw [if_neg (by omega), if_neg (by omega), if_pos h]; rfl
  · rw [h]; cases s <;> simp <;> rfl
  · have := Fl.rv_mono h
    cases s
    · simp only [Bool.false_eq_true, if_false]; rw [if_neg (by omega), if_neg (by omega), if_neg (by omega), if_neg (by omega)]
    · simp only [if_true]; rw [if_pos (by omega), if_neg (by omega), if_neg (by omega)]; rfl
theorem Fl.cmpS_eq (s : Bool) (c : Ordering) : Fl.cmpS s c = .eq ↔ c = .eq := by cases s <;> cases c <;> simp [Fl.cmpS]
/-- A difference's sign. -/
theorem Fl.sub_sign (x y : Nat) (hy : y < 2 * Fl.W) (fx : Fl.rg x < Fl.I) (fy : Fl.rg y < Fl.I) : ∃ d, floatBits .sub .f64 x y = some d ∧ FloatKind.f64.format.order d 0 = some (compare (Fl.vl x) (Fl.vl y)) := by
  have e1 : Ieee.double.sub x y = some (Fl.rnd (Fl.sgn2 (Fl.sg x) (Fl.sg (Fl.ng y)) (Fl.vl x - Fl.vl y)) (Fl.vl x - Fl.vl y).natAbs) := by
    rw [Fl.sub_any x y hy, Fl.add_fin x (Fl.ng y) fx (by rw [Fl.rg_ng y hy]; exact fy), Fl.vl_ng y hy]
    rfl
  refine ⟨_, e1, ?_⟩
  rw [Fl.ord0 _ (by rw [Fl.rg_rnd]; exact (Fl.rnd_rr false _).2), Fl.key_rnd, Fl.compare_sub]

/-- settle's answer. -/
theorem settle_side (near x off : Nat) (P : Int) (up : Bool) (w : World) (s : Bool) (mag : Nat) (p : Int) (hm : mag ≠ 0) (hP1 : -10000 ≤ P) (hP2 : P ≤ 10000)
    (hnear : near = Ieee.double.nearest s mag p) (hf : Fl.rg near < Fl.I) (hx : x = Ieee.double.nearest s mag (p - P)) (hxf : Fl.rg x < Fl.I) (hx0 : 0 < Fl.rg x)
    (ht1 : -3 ≤ (mag.log2 : Int) + p - P) (ht2 : (mag.log2 : Int) + p - P ≤ 1) (oo : FloatKind.f64.format.order off 0 = some (Fl.cmpS s (Fl.cmpR mag (p - P) (Fl.rg x)))) :
    Calls Try.prog 119 #[.float .f64 near, .float .f64 x, .float .f64 off, .int .i64 P, .bool up] w fun e w' => e = .returned (.float .f64 (Fl.sideW near (Fl.cmpS s (Fl.cmpR mag p (Fl.rg near))) (Fl.next near up) up)) ∧ w = w' := by
  obtain ⟨r, n1, n2⟩ := Fl.nearest_rnd s mag p (p + 1074).toNat (-(p + 1074)).toNat (by omega)
  obtain ⟨q, q1, q2⟩ := Fl.nearest_rnd s mag (p - P) (p - P + 1074).toNat (-(p - P + 1074)).toNat (by omega)
  rw [← hnear] at n1
  rw [← hx] at q1
  have hrgn : Fl.rg near = min r Fl.I := by rw [n1, Fl.rg_wd _ _ (Fl.min_I_lt r)]
  have hrgx : Fl.rg x = min q Fl.I := by rw [q1, Fl.rg_wd _ _ (Fl.min_I_lt q)]
  obtain ⟨_, hrn⟩ := Fl.of_min hrgn hf
  obtain ⟨_, hqx⟩ := Fl.of_min hrgx hxf
  have hsn : Fl.sg near = s := by rw [n1, Fl.sg_wd _ _ (Fl.min_I_lt r)]
  have hsx : Fl.sg x = s := by rw [q1, Fl.sg_wd _ _ (Fl.min_I_lt q)]
  have hnl : near < 2 * Fl.W := by rw [n1]; exact Fl.wd_lt _ _ (Fl.min_I_lt r)
  rw [← hrn] at n2
  rw [← hqx] at q2
  have hw := wrap_half P hP1 hP2
  have htd := tdiv_two P
  clear n1 q1 hrgn hrgx hrn hqx
  -- the answer by what the two differences tell
  have fin : ∀ y c1 c2 : Nat, Fl.sg y = s → Fl.rv (Fl.rg y) * 2 ^ c1 = Fl.rv (Fl.rg near) * 2 ^ c2 → (c2 : Int) - c1 = -P →
      (if compare (Fl.vl x) (Fl.vl y) = .eq then Fl.cmpS s (Fl.cmpR mag (p - P) (Fl.rg x)) else compare (Fl.vl x) (Fl.vl y)) = Fl.cmpS s (Fl.cmpR mag p (Fl.rg near)) := by
    intro y c1 c2 hy e1 e2
    have key := Fl.settle_cmp mag p P (Fl.rg near) (Fl.rg x) (Fl.rg y) c1 c2 _ _ e1 e2 (by omega) q2
    rw [Fl.compare_vl x y s hsx hy, key]
    rcases Nat.lt_trichotomy (Fl.rg x) (Fl.rg y) with h | h | h
    · have hc : compare (Fl.rg x) (Fl.rg y) = Ordering.lt := by rw [Fl.compare_nat, if_pos h]
      have hk : (if Fl.rg y < Fl.rg x then Ordering.gt else if Fl.rg x < Fl.rg y then .lt else Fl.cmpR mag (p - P) (Fl.rg x)) = .lt := by rw [if_neg (by omega), if_pos h]
      rw [hc, hk, if_neg (by rw [Fl.cmpS_eq]; simp)]
    · have hc : compare (Fl.rg x) (Fl.rg y) = Ordering.eq := by rw [Fl.compare_nat, if_neg (by omega), if_pos h]
      have hk : (if Fl.rg y < Fl.rg x then Ordering.gt else if Fl.rg x < Fl.rg y then .lt else Fl.cmpR mag (p - P) (Fl.rg x)) = Fl.cmpR mag (p - P) (Fl.rg x) := by rw [if_neg (by omega), if_neg (by omega)]
      rw [hc, hk, if_pos (by rw [Fl.cmpS_eq])]
    · have hc : compare (Fl.rg x) (Fl.rg y) = Ordering.gt := by rw [Fl.compare_nat, if_neg (by omega), if_neg (by omega)]
      have hk : (if Fl.rg y < Fl.rg x then Ordering.gt else if Fl.rg x < Fl.rg y then .lt else Fl.cmpR mag (p - P) (Fl.rg x)) = .gt := by rw [if_pos h]
      rw [hc, hk, if_neg (by rw [Fl.cmpS_eq]; simp)]
  by_cases h0 : Fl.rg near = 0
  · obtain ⟨d, d1, d2⟩ := Fl.sub_sign x near hnl hxf hf
    have ff := fin near P.toNat (-P).toNat hsn (by rw [h0, Fl.rv_zero, Nat.zero_mul, Nat.zero_mul]) (by omega)
    have main := settle_go near x off P up w hP1 hP2 hnl hf near near d _ hw (by omega) (by omega) (fun w => ldexp_zero near _ w h0) (fun w => ldexp_zero near _ w h0) (fun w => run_float_arith w .sub _ .f64 _ _ _ d1) _ _ d2 oo
    rw [ff] at main
    exact main
  · have hnr := Fl.nE_range (Fl.rg near) (by omega) hf
    have hl := Fl.near_lead mag (Fl.rg near) _ _ p hm (by omega) n2 (by omega)
    obtain ⟨y1, y, e1, e2, e3, e4, e5, e6, e7, e8, c1, c2, e9, e10⟩ := Fl.scl2 near (by omega) P (-(P.tdiv 2)) (by omega) (by omega) (by omega) (by omega)
    obtain ⟨d, d1, d2⟩ := Fl.sub_sign x y e8 hxf e7
    have ff := fin y c1 c2 (e6.trans hsn) e9 e10
    have l1 := fun w => ldexp_fin near (-(P.tdiv 2)) w hnl (by omega) hf (by omega) (by omega)
    have l2 := fun w => ldexp_fin y1 (-P - -(P.tdiv 2)) w e4 e2 e3 (by omega) (by omega)
    rw [← e1] at l1
    rw [← e5] at l2
    have main := settle_go near x off P up w hP1 hP2 hnl hf y1 y d _ hw (by omega) (by omega) l1 l2 (fun w => run_float_arith w .sub _ .f64 _ _ _ d1) _ _ d2 oo
    rw [ff] at main
    exact main
end Go.Proofs.Ytclnmheplecknaa

namespace Go.Proofs.Ytclnmheplecknaa
open Go.RowKit

/-- The product's digits and place. -/
def Fl.mM (a b : Nat) : Nat := Fl.nM (Fl.rg a) * Fl.nM (Fl.rg b)
def Fl.pM (a b : Nat) : Int := (-1074 + Fl.nE (Fl.rg a)) + (-1074 + Fl.nE (Fl.rg b))
def Fl.nearM (a b : Nat) : Nat := Ieee.double.nearest (Fl.sg a ^^ Fl.sg b) (Fl.mM a b) (Fl.pM a b)
/-- The product of finite floats that are not 0, to a side. -/
def Fl.mulF (a b : Nat) (up : Bool) : Nat :=
  if Fl.rg (Fl.nearM a b) = Fl.I then Fl.greatW (Fl.nearM a b) up
  else Fl.sideW (Fl.nearM a b) (Fl.cmpS (Fl.sg a ^^ Fl.sg b) (Fl.cmpR (Fl.mM a b) (Fl.pM a b) (Fl.rg (Fl.nearM a b)))) (Fl.next (Fl.nearM a b) up) up
/-- What Mul tells. -/
def Fl.mulS (a b : Nat) (up : Bool) : Option Nat := if Fl.rg a < Fl.I ∧ Fl.rg b < Fl.I ∧ 0 < Fl.rg a ∧ 0 < Fl.rg b then some (Fl.mulF a b up) else Ieee.double.mul a b

theorem Fl.mul_near (a b : Nat) (fa : Fl.rg a < Fl.I) (fb : Fl.rg b < Fl.I) (a0 : 0 < Fl.rg a) (b0 : 0 < Fl.rg b) : Ieee.double.mul a b = some (Fl.nearM a b) := by
  rw [Fl.mul_fin a b fa fb]
  obtain ⟨c1, c2, n1, n2⟩ := Fl.norm_val (Fl.rg a) a0
  obtain ⟨d1, d2, n3, n4⟩ := Fl.norm_val (Fl.rg b) b0
  unfold Fl.nearM
  rw [Fl.nearest_congr _ (Fl.mant (Fl.rg a) * Fl.mant (Fl.rg b)) (Fl.mM a b) (Fl.pl a + Fl.pl b) (Fl.pM a b) (c1 + d1) (c2 + d2) ?_ ?_]
  · unfold Fl.mM
    rw [Nat.pow_add, Nat.pow_add]
    have : Fl.mant (Fl.rg a) * Fl.mant (Fl.rg b) * (2 ^ c1 * 2 ^ d1) = (Fl.mant (Fl.rg a) * 2 ^ c1) * (Fl.mant (Fl.rg b) * 2 ^ d1) := by grind
    rw [this, n1, n3]; grind
  · unfold Fl.pl Fl.pM; omega

theorem Fl.two_rung (e : Nat) (he : e = 1074) : (e - 51) * Fl.B + Fl.B = 4611686018427387904 := by subst he; decide
/-- What is below 2 is nearest to a float below infinity. -/
theorem Fl.small_fin (s : Bool) (mag : Nat) (p : Int) (k : Nat) (h0 : mag ≠ 0) (h : mag < 2 ^ k) (hp : p + k ≤ 1) (hp2 : -1074 ≤ p) : Fl.rg (Ieee.double.nearest s mag p) < Fl.I ∧ 0 < Fl.rg (Ieee.double.nearest s mag p) ∧ Fl.sg (Ieee.double.nearest s mag p) = s := by
  rw [Fl.nearest_units s mag p hp2, Fl.rg_rnd, Fl.sg_rnd]
  have hpos : 0 < mag * 2 ^ (p + 1074).toNat := Nat.mul_pos (Nat.pos_of_ne_zero h0) (Nat.two_pow_pos _)
  refine ⟨?_, Fl.rr_pos _ hpos, rfl⟩
  obtain ⟨q, q1, q2⟩ := Fl.rnd_spec false (mag * 2 ^ (p + 1074).toNat)
  have hrr : Fl.rr (mag * 2 ^ (p + 1074).toNat) = min q Fl.I := q1
  have hE := Fl.E_eq
  have hr := Fl.rv_of (Fl.E - 51) Fl.B (by unfold Fl.B; omega) (.inr (Nat.le_refl _))
  rw [Fl.two_rung _ hE] at hr
  have hq : q ≤ 4611686018427387904 := by
    have hex := Fl.Rnd.exact 4611686018427387904 0
    refine q2.mono hex ?_
    rw [hr, Nat.pow_zero, Nat.mul_one, Nat.mul_one, Nat.mul_one]
    have h1 : mag * 2 ^ (p + 1074).toNat ≤ 2 ^ k * 2 ^ (p + 1074).toNat := Nat.mul_le_mul_right _ (Nat.le_of_lt h)
    refine Nat.le_trans h1 ?_
    rw [Fl.B_eq, ← Nat.pow_add, ← Nat.pow_add]
    refine Fl.pow_le ?_
    generalize Fl.E = e at *
    omega
  rw [hrr]
  exact Nat.lt_of_le_of_lt (Nat.min_le_left _ _) (Nat.lt_of_le_of_lt hq (by decide))

theorem run_fma (x y z r : Nat) (h : Ieee.double.fma x y z = some r) (w : World) : (callFunc 120 #[.float .f64 x, .float .f64 y, .float .f64 z]).run Try.prog w = .ok (.value (.float .f64 r)) w := by
  rw [run_callFunc_extern (e := Extern.MathFMA.fma) Try.func120 (by kernel_rfl) (by kernel_rfl) (by kernel_rfl) (by kernel_rfl)]
  have : (Extern.MathFMA.fma #[.float .f64 x, .float .f64 y, .float .f64 z]).run Try.prog w = .ok (.float .f64 r) w := by
    have hf : FloatKind.f64.format.fma x y z = some r := h
    obtain ⟨f, hx⟩ : ∃ f : Sem Value, Extern.MathFMA.fma #[.float .f64 x, .float .f64 y, .float .f64 z] = (match FloatKind.f64.format.fma x y z with | some r => pure (.float .f64 r) | none => f) := ⟨_, rfl⟩
    rw [hx, hf]
    rfl
  rw [this]
  rfl

theorem even_fin (a b : Nat) (w : World) (ha : a < 2 * Fl.W) (hb : b < 2 * Fl.W) (fa : Fl.rg a < Fl.I) (fb : Fl.rg b < Fl.I) (a0 : 0 < Fl.rg a) (b0 : 0 < Fl.rg b) :
    Calls Try.prog 145 #[.float .f64 a, .float .f64 b] w fun e w' => e = .returned (.tuple #[.float .f64 (Fl.frx a), .float .f64 (Fl.frx b), .int .i64 (Fl.fri a), .int .i64 (Fl.fri b)]) ∧ w = w' := by
  go_enter Try.func145, Try.ntmps145
  go_wp2_with fail
  refine (frexp_fin a _ ha a0 fa).mono ?_
  rintro e w' ⟨rfl, rfl⟩
  go_wp2_with fail
  refine (frexp_fin b _ hb b0 fb).mono ?_
  rintro e w' ⟨rfl, rfl⟩
  go_wp2
  exact bodyPost_ret (v := .tuple #[.float .f64 (Fl.frx a), .float .f64 (Fl.frx b), .int .i64 (Fl.fri a), .int .i64 (Fl.fri b)]) (by simp [results, Try.results145, go_sem]) rfl ⟨rfl, rfl⟩

/-- A sign on both sides. -/
theorem Fl.cmp_signed (s : Bool) (q v : Nat) : compare ((if s then -1 else 1) * (q : Int) + (if s then (v : Int) else -(v : Int))) 0 = Fl.cmpS s (compare q v) := by
  unfold Fl.cmpS
  rw [Fl.compare_int, Fl.compare_nat]
  cases s
  · simp only [Bool.false_eq_true, if_false]
    rcases Nat.lt_trichotomy q v with h | h | h
    · rw [if_pos (by omega), if_pos h]
    · rw [if_neg (by omega), if_pos (by omega), if_neg (by omega), if_pos h]
    · rw [if_neg (by omega), if_neg (by omega), if_neg (by omega), if_neg (by omega)]
  · simp only [if_true]
    rcases Nat.lt_trichotomy q v with h | h | h
    · rw [if_neg (by omega), if_neg (by omega), if_pos h]; rfl
    · rw [if_neg (by omega), if_pos (by omega), if_neg (by omega), if_pos h]; rfl
    · rw [if_pos (by omega), if_neg (by omega), if_neg (by omega)]; rfl
/-- The scaled product and its error. -/
theorem Fl.mul_scaled (a b : Nat) (a0 : 0 < Fl.rg a) (b0 : 0 < Fl.rg b) : ∃ q off, Ieee.double.mul (Fl.frx a) (Fl.frx b) = some q ∧ q = Ieee.double.nearest (Fl.sg a ^^ Fl.sg b) (Fl.mM a b) (-106) ∧ q < 2 * Fl.W ∧ Fl.rg q < Fl.I ∧ 0 < Fl.rg q ∧ Ieee.double.fma (Fl.frx a) (Fl.frx b) (Fl.ng q) = some off ∧ FloatKind.f64.format.order off 0 = some (Fl.cmpS (Fl.sg a ^^ Fl.sg b) (Fl.cmpR (Fl.mM a b) (-106) (Fl.rg q))) := by
  obtain ⟨s1, s2, s3, s4, s5, s6⟩ := Fl.frx_facts a a0
  obtain ⟨t1, t2, t3, t4, t5, t6⟩ := Fl.frx_facts b b0
  obtain ⟨m1, m2⟩ := Fl.nM_range (Fl.rg a) a0
  obtain ⟨k1, k2⟩ := Fl.nM_range (Fl.rg b) b0
  have p1 : Fl.pl (Fl.frx a) = -53 := by unfold Fl.pl; rw [s5]; rfl
  have p2 : Fl.pl (Fl.frx b) = -53 := by unfold Fl.pl; rw [t5]; rfl
  have hmag : Fl.mM a b < 2 ^ 106 := by
    unfold Fl.mM
    have : Fl.nM (Fl.rg a) * Fl.nM (Fl.rg b) < 2 * Fl.B * (2 * Fl.B) := Nat.mul_lt_mul'' m2 k2
    rw [show 2 * Fl.B * (2 * Fl.B) = 2 ^ 106 by decide] at this
    exact this
  have hmag0 : Fl.mM a b ≠ 0 := by
    have hB : 0 < Fl.B := by decide
    exact Nat.ne_of_gt (Nat.mul_pos (Nat.lt_of_lt_of_le hB m1) (Nat.lt_of_lt_of_le hB k1))
  obtain ⟨q1, q2, q3⟩ := Fl.small_fin (Fl.sg a ^^ Fl.sg b) (Fl.mM a b) (-106) 106 hmag0 hmag (by decide) (by decide)
  have hq : Ieee.double.mul (Fl.frx a) (Fl.frx b) = some (Ieee.double.nearest (Fl.sg a ^^ Fl.sg b) (Fl.mM a b) (-106)) := by
    rw [Fl.mul_fin _ _ s3 t3, s1, t1, s4, t4, p1, p2]; rfl
  have hql : Ieee.double.nearest (Fl.sg a ^^ Fl.sg b) (Fl.mM a b) (-106) < 2 * Fl.W := by
    rw [Fl.nearest_units _ _ _ (by decide)]; exact Fl.rnd_lt _ _
  generalize hQ : Ieee.double.nearest (Fl.sg a ^^ Fl.sg b) (Fl.mM a b) (-106) = q at *
  have hfma := Fl.fma_fin (Fl.frx a) (Fl.frx b) (Fl.ng q) s3 t3 (by rw [Fl.rg_ng q hql]; exact q1) (by rw [p1, p2]; decide)
  refine ⟨q, _, hq, rfl, hql, q1, q2, hfma, ?_⟩
  rw [Fl.ord0 _ (by rw [Fl.rg_rnd]; exact (Fl.rnd_rr false _).2), Fl.key_rnd]
  congr 1
  unfold Fl.fmaT
  rw [s1, t1, s4, t4, p1, p2, Fl.vl_ng q hql]
  have hv : -Fl.vl q = (if Fl.sg a ^^ Fl.sg b then (Fl.rv (Fl.rg q) : Int) else -(Fl.rv (Fl.rg q) : Int)) := by
    unfold Fl.vl; rw [q3]; cases (Fl.sg a ^^ Fl.sg b) <;> simp
  rw [hv, Fl.cmp_signed]
  congr 1
  unfold Fl.cmpR Fl.mM
  rw [show (-53 + -53 + 1074 : Int).toNat = (-106 + 1074 : Int).toNat from rfl, show (-(-106 + 1074) : Int).toNat = 0 from rfl, Nat.pow_zero, Nat.mul_one]

theorem nearM_lt (a b : Nat) : Fl.nearM a b < 2 * Fl.W := by
  obtain ⟨r, h, _⟩ := Fl.nearest_word (Fl.sg a ^^ Fl.sg b) (Fl.mM a b) (Fl.pM a b)
  unfold Fl.nearM; rw [h]; exact Fl.wd_lt _ _ (Fl.min_I_lt r)
theorem nearM_rg (a b : Nat) : Fl.rg (Fl.nearM a b) ≤ Fl.I := by
  obtain ⟨r, h, _⟩ := Fl.nearest_word (Fl.sg a ^^ Fl.sg b) (Fl.mM a b) (Fl.pM a b)
  unfold Fl.nearM; rw [h, Fl.rg_wd _ _ (Fl.min_I_lt r)]; exact Nat.min_le_right _ _
/-- The digits of a product of normal forms. -/
theorem Fl.mM_log2 (a b : Nat) (a0 : 0 < Fl.rg a) (b0 : 0 < Fl.rg b) : Fl.mM a b ≠ 0 ∧ 104 ≤ (Fl.mM a b).log2 ∧ (Fl.mM a b).log2 ≤ 105 := by
  obtain ⟨m1, m2⟩ := Fl.nM_range (Fl.rg a) a0
  obtain ⟨k1, k2⟩ := Fl.nM_range (Fl.rg b) b0
  have hB : 0 < Fl.B := by decide
  have h0 : Fl.mM a b ≠ 0 := Nat.ne_of_gt (Nat.mul_pos (Nat.lt_of_lt_of_le hB m1) (Nat.lt_of_lt_of_le hB k1))
  have h1 : 2 ^ 104 ≤ Fl.mM a b := by
    have : Fl.B * Fl.B ≤ Fl.mM a b := Nat.mul_le_mul m1 k1
    rw [show Fl.B * Fl.B = 2 ^ 104 by decide] at this
    exact this
  have h2 : Fl.mM a b < 2 ^ 106 := by
    have : Fl.mM a b < 2 * Fl.B * (2 * Fl.B) := Nat.mul_lt_mul'' m2 k2
    rw [show 2 * Fl.B * (2 * Fl.B) = 2 ^ 106 by decide] at this
    exact this
  refine ⟨h0, (Nat.le_log2 h0).2 h1, ?_⟩
  have := (Nat.log2_lt h0).2 h2
  omega

theorem mul_not (a b : Nat) (up : Bool) (w : World) (ha : a < 2 * Fl.W) (hb : b < 2 * Fl.W) (h : ¬ (Fl.rg a < Fl.I ∧ Fl.rg b < Fl.I)) :
    Calls Try.prog 114 #[.float .f64 a, .float .f64 b, .bool up] w (FlPost (Ieee.double.mul a b) w) := by
  obtain ⟨s, w1, hr, hs, hw1⟩ := run_float_any .mul 71 a b w (by simp)
  have HD : Hid (Dr w w1) := by rcases hw1 with rfl | rfl; exact Dr.refl _; exact Dr.drew _
  have HS : Hid (Fl.Is (Ieee.double.mul a b) s) := hs
  clear hs hw1
  by_cases hfa : Fl.rg a < Fl.I
  · have hfb : ¬ Fl.rg b < Fl.I := fun h2 => h ⟨hfa, h2⟩
    clear h
    go_enter Try.func114, Try.ntmps114
    go_wp2_with fail
    refine (finite_yes a _ ha hfa).mono ?_
    rintro e w' ⟨rfl, rfl⟩
    go_wp2_with fail
    refine (finite_no b _ hfb).mono ?_
    rintro e w' ⟨rfl, hd⟩
    have HD2 := Lib.hid hd
    clear hd
    go_wp2
    go_ret
    exact ⟨s, rfl, HS.out, HD.out.trans HD2.out⟩
  · clear h
    go_enter Try.func114, Try.ntmps114
    go_wp2_with fail
    refine (finite_no a _ hfa).mono ?_
    rintro e w' ⟨rfl, hd⟩
    have HD2 := Lib.hid hd
    clear hd
    go_wp2
    go_ret
    exact ⟨s, rfl, HS.out, HD.out.trans HD2.out⟩
theorem mul_zero (a b r : Nat) (up : Bool) (w : World) (ha : a < 2 * Fl.W) (hb : b < 2 * Fl.W) (fa : Fl.rg a < Fl.I) (fb : Fl.rg b < Fl.I) (h : ¬ (0 < Fl.rg a ∧ 0 < Fl.rg b)) (hr : Ieee.double.mul a b = some r) :
    Calls Try.prog 114 #[.float .f64 a, .float .f64 b, .bool up] w fun e w' => e = .returned (.float .f64 r) ∧ w = w' := by
  have h1 := fun w => run_float_arith (P := Try.prog) w .mul 71 .f64 a b r hr
  by_cases a0 : Fl.rg a = 0
  · have h2 := Fl.cmp0_eq a a0
    clear h a0 hr
    go_enter Try.func114, Try.ntmps114
    go_wp2_with fail
    refine (finite_yes a _ ha fa).mono ?_
    rintro e w' ⟨rfl, rfl⟩
    go_wp2_with fail
    refine (finite_yes b _ hb fb).mono ?_
    rintro e w' ⟨rfl, rfl⟩
    go_wp2
    go_ret
    exact ⟨rfl, rfl⟩
  · have b0 : Fl.rg b = 0 := by omega
    have h2 := ord0_not a fa a0
    have h3 := Fl.cmp0_eq b b0
    clear h a0 b0 hr
    go_enter Try.func114, Try.ntmps114
    go_wp2_with fail
    refine (finite_yes a _ ha fa).mono ?_
    rintro e w' ⟨rfl, rfl⟩
    go_wp2_with fail
    refine (finite_yes b _ hb fb).mono ?_
    rintro e w' ⟨rfl, rfl⟩
    go_wp2
    go_ret
    exact ⟨rfl, rfl⟩
theorem mul_go (a b p q off nq : Nat) (up : Bool) (w : World) (ha : a < 2 * Fl.W) (hb : b < 2 * Fl.W) (fa : Fl.rg a < Fl.I) (fb : Fl.rg b < Fl.I) (a0 : 0 < Fl.rg a) (b0 : 0 < Fl.rg b) (P : World → Ending → World → Prop) (x y : Nat) (i k : Int) (i1 : -2000 ≤ i) (i2 : i ≤ 2000) (k1 : -2000 ≤ k) (k2 : k ≤ 2000)
    (he : ∀ w, Calls Try.prog 145 #[.float .f64 a, .float .f64 b] w fun e w' => e = .returned (.tuple #[.float .f64 x, .float .f64 y, .int .i64 i, .int .i64 k]) ∧ w = w')
    (h1 : ∀ w, (binOp .mul 71 (.float .f64 a) (.float .f64 b)).run Try.prog w = .ok (.float .f64 p) w)
    (h2 : ∀ w, (binOp .mul 71 (.float .f64 x) (.float .f64 y)).run Try.prog w = .ok (.float .f64 q) w)
    (hn : ∀ w, (Op.unary .neg (.float .f64 q)).run Try.prog w = .ok (.float .f64 nq) w)
    (hf : ∀ w, (callFunc 120 #[.float .f64 x, .float .f64 y, .float .f64 nq]).run Try.prog w = .ok (.value (.float .f64 off)) w)
    (s : Nat) (hs : ∀ w, Calls Try.prog 119 #[.float .f64 p, .float .f64 q, .float .f64 off, .int .i64 (i + k), .bool up] w fun e w' => e = .returned (.float .f64 s) ∧ Dr w w') :
    Calls Try.prog 114 #[.float .f64 a, .float .f64 b, .bool up] w fun e w' => e = .returned (.float .f64 s) ∧ Dr w w' := by
  have o1 := ord0_not a fa (by omega)
  have o2 := ord0_not b fb (by omega)
  have HE := Lib.hid he
  have HS := Lib.hid hs
  clear he hs a0 b0
  go_enter Try.func114, Try.ntmps114
  go_wp2_with fail
  refine (finite_yes a _ ha fa).mono ?_
  rintro e w' ⟨rfl, rfl⟩
  go_wp2_with fail
  refine (finite_yes b _ hb fb).mono ?_
  rintro e w' ⟨rfl, rfl⟩
  go_wp2_with fail
  refine (HE.out _).mono ?_
  rintro e w' ⟨rfl, rfl⟩
  go_wp2_with fail
  refine (HS.out _).mono ?_
  rintro e w' ⟨rfl, hd⟩
  have HD := Lib.hid hd
  clear hd
  go_wp2
  go_ret
  exact ⟨rfl, HD.out⟩
theorem mul_fine (a b : Nat) (up : Bool) (w : World) (ha : a < 2 * Fl.W) (hb : b < 2 * Fl.W) (fa : Fl.rg a < Fl.I) (fb : Fl.rg b < Fl.I) (a0 : 0 < Fl.rg a) (b0 : 0 < Fl.rg b) :
    Calls Try.prog 114 #[.float .f64 a, .float .f64 b, .bool up] w fun e w' => e = .returned (.float .f64 (Fl.mulF a b up)) ∧ Dr w w' := by
  obtain ⟨q, off, e1, e2, e3, e4, e5, e6, e7⟩ := Fl.mul_scaled a b a0 b0
  have r1 := Fl.nE_range (Fl.rg a) a0 fa
  have r2 := Fl.nE_range (Fl.rg b) b0 fb
  have hnl := nearM_lt a b
  obtain ⟨g0, g1, g2⟩ := Fl.mM_log2 a b a0 b0
  have hP : Fl.pM a b - (Fl.fri a + Fl.fri b) = -106 := by unfold Fl.pM Fl.fri; omega
  have hs : ∀ w, Calls Try.prog 119 #[.float .f64 (Fl.nearM a b), .float .f64 q, .float .f64 off, .int .i64 (Fl.fri a + Fl.fri b), .bool up] w fun e w' => e = .returned (.float .f64 (Fl.mulF a b up)) ∧ Dr w w' := by
    intro w
    unfold Fl.mulF
    by_cases hI : Fl.rg (Fl.nearM a b) = Fl.I
    · rw [if_pos hI]
      exact settle_great _ _ _ _ _ w hnl hI
    · rw [if_neg hI]
      have hle := nearM_rg a b
      refine (settle_side (Fl.nearM a b) q off (Fl.fri a + Fl.fri b) up w (Fl.sg a ^^ Fl.sg b) (Fl.mM a b) (Fl.pM a b) g0 (by unfold Fl.fri; omega) (by unfold Fl.fri; omega) rfl (by omega) (by rw [hP]; exact e2) e4 e5 (by omega) (by omega) (by rw [hP]; exact e7)).mono ?_
      rintro e w' ⟨h1, h2⟩
      exact ⟨h1, h2 ▸ Dr.refl _⟩
  exact mul_go a b (Fl.nearM a b) q off (Fl.ng q) up w ha hb fa fb a0 b0 (fun _ _ _ => True) (Fl.frx a) (Fl.frx b) (Fl.fri a) (Fl.fri b) (by unfold Fl.fri; omega) (by unfold Fl.fri; omega) (by unfold Fl.fri; omega) (by unfold Fl.fri; omega)
    (fun w => even_fin a b w ha hb fa fb a0 b0) (fun w => run_float_arith w .mul _ .f64 _ _ _ (Fl.mul_near a b fa fb a0 b0)) (fun w => run_float_arith w .mul _ .f64 _ _ _ e1) (fun w => run_neg q e3 w) (fun w => run_fma _ _ _ _ e6 w) _ hs
/-- Mul. -/
theorem mul_any (a b : Nat) (up : Bool) (w : World) (ha : a < 2 * Fl.W) (hb : b < 2 * Fl.W) : Calls Try.prog 114 #[.float .f64 a, .float .f64 b, .bool up] w (FlPost (Fl.mulS a b up) w) := by
  unfold Fl.mulS
  by_cases h : Fl.rg a < Fl.I ∧ Fl.rg b < Fl.I
  · by_cases h0 : 0 < Fl.rg a ∧ 0 < Fl.rg b
    · rw [if_pos ⟨h.1, h.2, h0.1, h0.2⟩]
      exact (mul_fine a b up w ha hb h.1 h.2 h0.1 h0.2).mono fun e w' ⟨h1, h2⟩ => ⟨_, h1, rfl, h2⟩
    · rw [if_neg (fun hh => h0 ⟨hh.2.2.1, hh.2.2.2⟩)]
      have hr := Fl.mul_fin a b h.1 h.2
      rw [hr]
      exact (mul_zero a b _ up w ha hb h.1 h.2 h0 hr).mono fun e w' ⟨h1, h2⟩ => ⟨_, h1, rfl, h2 ▸ Dr.refl w⟩
  · rw [if_neg (fun hh => h ⟨hh.1, hh.2.1⟩)]
    exact mul_not a b up w ha hb h
end Go.Proofs.Ytclnmheplecknaa

namespace Go.Proofs.Ytclnmheplecknaa
namespace Fl
open Ieee

/-- The normal form is the digits moved up. -/
theorem norm_up (r : Nat) (h0 : 0 < r) : ∃ c : Nat, c ≤ 52 ∧ nM r = mant r * 2 ^ c ∧ nE r = (ex r : Nat) - (c : Int) ∧ (mant r).log2 + c = 52 ∧ mant r ≠ 0 := by
  unfold nM nE
  by_cases h : r < B
  · rw [if_pos h, if_pos h]
    obtain ⟨e1, e2⟩ := small_rung r h
    have hl := log2_B r h0 h
    rw [e1, e2]
    exact ⟨52 - r.log2, by omega, rfl, by omega, by omega, by omega⟩
  · rw [if_neg h, if_neg h]
    have m1 : 2 ^ 52 ≤ mant r := by rw [← B_eq]; unfold mant ex B at *; omega
    have m2 : mant r < 2 ^ 53 := by have := mant_lt r; rw [B_eq] at this; omega
    have m0 : mant r ≠ 0 := by omega
    have l1 := (Nat.le_log2 m0).2 m1
    have l2 := (Nat.log2_lt m0).2 m2
    exact ⟨0, by omega, by simp, by omega, by omega, m0⟩

/-- A quotient's digits, with one more that tells whether something is left. -/
def stick (D N : Nat) : Nat := 2 * (D / N) + (D % N != 0).toNat
theorem stick_scale (D N c : Nat) (hc : 0 < c) : stick (D * c) (N * c) = stick D N := by
  unfold stick
  rw [Nat.mul_div_mul_right _ _ hc, Nat.mul_mod_mul_right]
  congr 2
  by_cases h : D % N = 0
  · rw [h]; simp
  · have : D % N * c ≠ 0 := Nat.mul_ne_zero h (by omega)
    rw [bne_iff_ne.2 h, bne_iff_ne.2 this]
/-- What is left over decides beside an even number. -/
theorem stick_cmp (D N h : Nat) (hN : 0 < N) : compare (stick D N) (2 * h) = compare D (h * N) := by
  have hd := Nat.div_add_mod D N
  have hm := Nat.mod_lt D hN
  unfold stick
  generalize D / N = q at *
  generalize D % N = r at *
  have hq : N * q = q * N := Nat.mul_comm _ _
  rw [compare_nat, compare_nat]
  rcases Nat.lt_trichotomy q h with h1 | h1 | h1
  · have h2 : (q + 1) * N ≤ h * N := Nat.mul_le_mul_right _ h1
    rw [Nat.add_mul, Nat.one_mul] at h2
    have : (r != 0).toNat ≤ 1 := by cases (r != 0) <;> simp
    rw [if_pos (by omega), if_pos (by omega)]
  · subst h1
    by_cases h0 : r = 0
    · subst h0
      rw [show ((0 : Nat) != 0) = false from rfl, Bool.toNat_false, if_neg (by omega), if_pos (by omega), if_neg (by omega), if_pos (by omega)]
    · rw [bne_iff_ne.2 h0, Bool.toNat_true]
      rw [if_neg (by omega), if_neg (by omega), if_neg (by omega), if_neg (by omega)]
  · have h2 : (h + 1) * N ≤ q * N := Nat.mul_le_mul_right _ h1
    rw [Nat.add_mul, Nat.one_mul] at h2
    rw [if_neg (by omega), if_neg (by omega), if_neg (by omega), if_neg (by omega)]

def dM (a b : Nat) : Nat := stick (nM (rg a) * 2 ^ 54) (nM (rg b))
def pD (a b : Nat) : Int := nE (rg a) - nE (rg b) - 55
def nearQ (a b : Nat) : Nat := double.nearest (sg a ^^ sg b) (dM a b) (pD a b)
theorem div_near (a b : Nat) (fa : rg a < I) (fb : rg b < I) (a0 : 0 < rg a) (b0 : 0 < rg b) : double.div a b = some (nearQ a b) := by
  obtain ⟨c, c1, c2, c3, c4, c5⟩ := norm_up (rg a) a0
  obtain ⟨k, k1, k2, k3, k4, k5⟩ := norm_up (rg b) b0
  unfold Format.div
  rw [read_fin a fa, read_fin b fb, dF]
  unfold Datum.quotient
  dsimp only
  rw [if_neg k5]
  simp only [Option.map_some, Format.write]
  have hmore : 52 + 2 + (mant (rg b)).log2 - (mant (rg a)).log2 = 54 - k + c := by omega
  rw [hmore, Nat.shiftLeft_eq]
  have hmag : 2 * (mant (rg a) * 2 ^ (54 - k + c) / mant (rg b)) + (mant (rg a) * 2 ^ (54 - k + c) % mant (rg b) != 0).toNat = dM a b := by
    unfold dM
    rw [c2, k2]
    have e1 : mant (rg a) * 2 ^ c * 2 ^ 54 = mant (rg a) * 2 ^ (54 - k + c) * 2 ^ k := by
      rw [Nat.mul_assoc, Nat.mul_assoc, ← Nat.pow_add, ← Nat.pow_add]; congr 2; omega
    rw [e1, stick_scale _ _ _ (Nat.two_pow_pos k)]
    rfl
  rw [hmag]
  unfold nearQ
  congr 2
  unfold pD
  omega
/-- The digits of a quotient of normal forms. -/
theorem dM_range (a b : Nat) (a0 : 0 < rg a) (b0 : 0 < rg b) : dM a b ≠ 0 ∧ dM a b < 2 ^ 56 ∧ 54 ≤ (dM a b).log2 ∧ (dM a b).log2 ≤ 55 := by
  obtain ⟨m1, m2⟩ := nM_range (rg a) a0
  obtain ⟨k1, k2⟩ := nM_range (rg b) b0
  rw [B_eq] at *
  unfold dM
  generalize nM (rg a) = M at *
  generalize nM (rg b) = N at *
  have h1 : 2 ^ 53 ≤ M * 2 ^ 54 / N := by
    rw [Nat.le_div_iff_mul_le (by omega)]
    calc 2 ^ 53 * N ≤ 2 ^ 53 * (2 * 2 ^ 52) := Nat.mul_le_mul_left _ (by omega)
      _ ≤ 2 ^ 52 * 2 ^ 54 := by decide
      _ ≤ M * 2 ^ 54 := Nat.mul_le_mul_right _ m1
  have h2 : M * 2 ^ 54 / N < 2 ^ 55 := by
    rw [Nat.div_lt_iff_lt_mul (by omega)]
    calc M * 2 ^ 54 < 2 * 2 ^ 52 * 2 ^ 54 := Nat.mul_lt_mul_of_pos_right m2 (by decide)
      _ ≤ 2 ^ 55 * 2 ^ 52 := by decide
      _ ≤ 2 ^ 55 * N := Nat.mul_le_mul_left _ k1
  have h3 : 2 ^ 54 ≤ stick (M * 2 ^ 54) N := by unfold stick; omega
  have h4 : stick (M * 2 ^ 54) N < 2 ^ 56 := by
    unfold stick
    have : (M * 2 ^ 54 % N != 0).toNat ≤ 1 := by cases (M * 2 ^ 54 % N != 0) <;> simp
    omega
  have h0 : stick (M * 2 ^ 54) N ≠ 0 := by omega
  have := (Nat.log2_lt h0).2 h4
  exact ⟨h0, h4, (Nat.le_log2 h0).2 h3, by omega⟩

theorem qa1 (m e J : Nat) : m * 2 ^ (e + (J + 53)) = 2 * (m * 2 ^ e) * 2 ^ (J + 52) := by
  rw [Nat.pow_add 2 e, show J + 53 = 1 + (J + 52) by omega, Nat.pow_add 2 1]
  generalize (2 : Nat) ^ (J + 52) = A
  grind
theorem qa2 (M J : Nat) : M * 2 ^ (J + 54) = M * 2 ^ 54 * 2 ^ J := by
  rw [Nat.add_comm J, Nat.pow_add 2 54, Nat.mul_assoc]
theorem qa3 (m N e J : Nat) : m * N * 2 ^ (e + J) = m * 2 ^ e * N * 2 ^ J := by
  rw [Nat.pow_add]
  generalize (2 : Nat) ^ J = A
  grind
/-- The exact quotient against a float, by the fused multiplication. -/
theorem div_cmp (a b r : Nat) (b0 : 0 < rg b) (e J : Nat) (hJ : J = 967) (he : ex r = e + (J + 53)) : compare (nM (rg a) * 2 ^ (J + 54)) (mant r * nM (rg b) * 2 ^ (e + J)) = cmpR (dM a b) (-55) r := by
  obtain ⟨k1, k2⟩ := nM_range (rg b) b0
  have hN : 0 < nM (rg b) := Nat.lt_of_lt_of_le (by decide) k1
  have hs := stick_cmp (nM (rg a) * 2 ^ 54) (nM (rg b)) (mant r * 2 ^ e) hN
  unfold cmpR rv dM
  rw [he, show (-55 + 1074 : Int).toNat = J + 52 by omega, show (-(-55 + 1074) : Int).toNat = 0 from rfl, Nat.pow_zero, Nat.mul_one, qa1 (mant r) e J, qa2 (nM (rg a)) J, qa3 (mant r) (nM (rg b)) e J, compare_mul _ _ _ (Nat.two_pow_pos _), compare_mul _ _ _ (Nat.two_pow_pos _), hs]
end Fl
end Go.Proofs.Ytclnmheplecknaa

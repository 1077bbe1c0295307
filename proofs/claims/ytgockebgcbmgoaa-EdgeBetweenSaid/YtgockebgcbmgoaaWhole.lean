/-
  Plain facts on whole numbers among doubles: the whole part, the nearest whole number, how far a float is from it.
-/
import Derived.Test.YtgockebgcbmgoaaWord
set_option linter.unusedVariables false
set_option linter.unusedSimpArgs false
namespace Go.Proofs.Ytgockebgcbmgoaa
namespace Fl
open Ieee

@[irreducible] def E : Nat := 1074
theorem E_eq : E = 1074 := by unfold E; rfl
/-- 1, in units of 2^-1074. -/
theorem U_ex : ∃ u : Nat, u = 2 ^ E := ⟨_, rfl⟩
noncomputable def U : Nat := Classical.choose U_ex
theorem U_def : U = 2 ^ E := Classical.choose_spec U_ex
theorem U_pos : 0 < U := by rw [U_def]; exact Nat.two_pow_pos _
/-- The rung of 2^53. -/
def c53 : Nat := 4845873199050653696
theorem U_split (e : Nat) (h : e ≤ 1074) : U = 2 ^ (E - e) * 2 ^ e := by
  have := E_eq
  rw [U_def, ← Nat.pow_add]; congr 1; omega
theorem p1 (e : Nat) : B * 2 ^ (e + 1) = 9007199254740992 * 2 ^ e := by
  rw [Nat.pow_succ']; generalize 2 ^ e = q; unfold B; omega
theorem p2 (e : Nat) (h : 53 ≤ e) : 2 * (B * 2 ^ (e - 53)) = 2 ^ e := by
  rw [← Nat.mul_assoc, show 2 * B = 2 ^ 53 from by decide, ← Nat.pow_add]; congr 1; omega
theorem p3 (e c : Nat) (h : (e + 1) * B + B = c) : rv c = 9007199254740992 * 2 ^ e := by
  have := rv_of (e + 1) B (by unfold B; omega) (.inr (Nat.le_refl _))
  rw [← h, this]; exact p1 e
theorem p4 (e c : Nat) (he : 53 ≤ e) (h : (e - 53) * B + B = c) : 2 * rv c = 2 ^ e := by
  have := rv_of (e - 53) B (by unfold B; omega) (.inr (Nat.le_refl _))
  rw [← h, this]; exact p2 e he
theorem rv_c53 : rv c53 = 9007199254740992 * U := by rw [U_def]; exact p3 E c53 (by rw [E_eq]; decide)
theorem rv_half : 2 * rv 4602678819172646912 = U := by rw [U_def]; exact p4 E _ (by rw [E_eq]; decide) (by rw [E_eq]; decide)
theorem c53_lt : c53 < I := by decide

/-- The nearest rung to n units, infinity's at most. -/
def rr (n : Nat) : Nat := rnd false n
theorem rnd_rr (s : Bool) (n : Nat) : rnd s n = wd s (rr n) ∧ rr n ≤ I := by
  obtain ⟨r, h1, h2⟩ := rnd_spec s n
  obtain ⟨q, h3, h4⟩ := rnd_spec false n
  have : rr n = min q I := h3
  rw [h1, this, h2.eq h4]
  exact ⟨rfl, Nat.min_le_right _ _⟩
theorem rr_lt (n : Nat) : rr n < W := Nat.lt_of_le_of_lt (rnd_rr false n).2 I_lt_W
theorem rg_rnd (s : Bool) (n : Nat) : rg (rnd s n) = rr n := by rw [(rnd_rr s n).1, rg_wd _ _ (rr_lt n)]
theorem sg_rnd (s : Bool) (n : Nat) : sg (rnd s n) = s := by rw [(rnd_rr s n).1, sg_wd _ _ (rr_lt n)]
theorem rr_exact (r : Nat) (h : r ≤ I) : rr (rv r) = r := by
  have := rnd_exact false r h
  unfold rr; rw [this]; rfl
/-- What is representable is its own nearest. -/
theorem rv_rr (n r : Nat) (h : rv r = n) (hr : r ≤ I) : rv (rr n) = n := by rw [← h, rr_exact r hr]
theorem rnd_lt (s : Bool) (n : Nat) : rnd s n < 2 * W := by rw [(rnd_rr s n).1]; exact wd_lt _ _ (rr_lt n)
theorem rr_zero : rr 0 = 0 := by have := rr_exact 0 (by decide); rwa [rv_zero] at this

/-- A multiple of 2^j with 53 digits, below the greatest, is a float. -/
theorem rep_rr (m j : Nat) (h : m ≤ 2 * B) (hI : m * 2 ^ j < rv I) : rv (rr (m * 2 ^ j)) = m * 2 ^ j ∧ rr (m * 2 ^ j) < I := by
  obtain ⟨r, hr⟩ := rep m j h
  have : r < I := rv_lt_iff.1 (by rw [hr]; exact hI)
  refine ⟨rv_rr _ r hr (by omega), ?_⟩
  rw [← hr, rr_exact r (by omega)]; exact this

theorem rv_I_big : 9007199254740992 * U < rv I := by rw [← rv_c53]; exact rv_mono c53_lt

/-- Whole numbers up to 2^53 are floats. -/
theorem whole_rr (k : Nat) (h : k ≤ 9007199254740992) : rv (rr (k * U)) = k * U ∧ rr (k * U) < I := by
  have h2 := Nat.lt_of_le_of_lt (Nat.mul_le_mul_right U h) rv_I_big
  rw [U_def] at h2 ⊢
  exact rep_rr k E (by unfold B; omega) h2

/-! ### cuts -/
theorem Cut.eq {n b k q : Nat} (h1 : Cut n b k) (h2 : Cut n b q) : k = q := by
  obtain ⟨a1, a2, a3, a4⟩ := h1
  obtain ⟨b1, b2, b3, b4⟩ := h2
  have pb : 0 < 2 ^ b := Nat.two_pow_pos _
  generalize 2 ^ b = P at *
  have e1 : (2 * k + 1) * P = 2 * k * P + P := by rw [Nat.add_mul, Nat.one_mul]
  have e2 : (2 * q + 1) * P = 2 * q * P + P := by rw [Nat.add_mul, Nat.one_mul]
  rw [e1] at a1 a2; rw [e2] at b1 b2
  rcases Nat.lt_trichotomy k q with h | h | h
  · exfalso
    have : 2 * (k + 1) * P ≤ 2 * q * P := Nat.mul_le_mul_right _ (by omega)
    have e3 : 2 * (k + 1) * P = 2 * k * P + 2 * P := by rw [Nat.mul_add, Nat.add_mul]
    have h3 : 2 * q * P = 2 * k * P + 2 * P := by omega
    have c1 := a2 (by omega)
    have c2 := b4 (by omega)
    have : q = k + 1 := by
      have : 2 * q * P = 2 * (k + 1) * P := by omega
      have := Nat.eq_of_mul_eq_mul_right pb this
      omega
    omega
  · exact h
  · exfalso
    have : 2 * (q + 1) * P ≤ 2 * k * P := Nat.mul_le_mul_right _ (by omega)
    have e3 : 2 * (q + 1) * P = 2 * q * P + 2 * P := by rw [Nat.mul_add, Nat.add_mul]
    have h3 : 2 * k * P = 2 * q * P + 2 * P := by omega
    have c1 := b2 (by omega)
    have c2 := a4 (by omega)
    have : k = q + 1 := by
      have : 2 * k * P = 2 * (q + 1) * P := by omega
      have := Nat.eq_of_mul_eq_mul_right pb this
      omega
    omega
theorem Cut.scale {n b k : Nat} (h : Cut n b k) (c : Nat) : Cut (n * 2 ^ c) (b + c) k := by
  have hp : 0 < 2 ^ c := Nat.two_pow_pos _
  have key : ∀ x : Nat, x * 2 ^ (b + c) = x * 2 ^ b * 2 ^ c := fun x => by rw [Nat.pow_add, Nat.mul_assoc]
  refine ⟨?_, ?_, ?_, ?_⟩
  · rw [key, ← Nat.mul_assoc]; exact Nat.mul_le_mul_right _ h.hi
  · intro e; rw [key, ← Nat.mul_assoc] at e; exact h.hie (Nat.eq_of_mul_eq_mul_right hp e)
  · rw [key, ← Nat.mul_assoc, Nat.pow_add, ← Nat.add_mul]; exact Nat.mul_le_mul_right _ h.lo
  · intro e; rw [key, ← Nat.mul_assoc, Nat.pow_add, ← Nat.add_mul] at e; exact h.loe (Nat.eq_of_mul_eq_mul_right hp e)
theorem cut_toward_zero (neg : Bool) (n b : Nat) : Toward.zero.cut neg n b = n / 2 ^ b := by
  unfold Toward.cut
  simp only [Nat.one_shiftLeft, Bool.toNat_false, Nat.add_zero]
  rcases Nat.lt_or_ge (n.log2 + 2) b with hb | hb
  · have hmin : min b (n.log2 + 2) = n.log2 + 2 := by omega
    rw [hmin]
    have hn : n < 2 ^ (n.log2 + 1) := Nat.lt_log2_self
    have h1 : 2 ^ (n.log2 + 1) ≤ 2 ^ (n.log2 + 2) := Nat.pow_le_pow_right (by omega) (by omega)
    have h2 : 2 ^ (n.log2 + 1) ≤ 2 ^ b := Nat.pow_le_pow_right (by omega) (by omega)
    rw [Nat.div_eq_of_lt (by omega), Nat.div_eq_of_lt (by omega)]
  · have hmin : min b (n.log2 + 2) = b := by omega
    rw [hmin]

/-- The whole part of a float's size; the whole number nearest to it. -/
noncomputable def wh (x : Nat) : Nat := rv (rg x) / U
def nk (x : Nat) : Nat := Toward.even.cut false (rv (rg x)) E
theorem nk_cut (x : Nat) : Cut (rv (rg x)) E (nk x) := cut_even _ _ _

theorem integral_zero (x : Nat) (h : rg x < I) : (double.read x).integral .zero = .number (sg x) (wh x) 0 := by
  rw [read_fin x h]
  unfold Datum.integral
  dsimp only
  rw [cut_toward_zero, Nat.shiftLeft_eq]
  congr 1
  unfold wh rv
  rw [U_def]
  have hE := E_eq
  rcases Nat.lt_or_ge (ex (rg x)) E with h1 | h1
  · have e1 : (-1074 + (ex (rg x) : Nat) : Int).toNat = 0 := by omega
    have e2 : (-(-1074 + (ex (rg x) : Nat) : Int)).toNat = E - ex (rg x) := by omega
    rw [e1, e2, Nat.pow_zero, Nat.mul_one]
    have : E = (E - ex (rg x)) + ex (rg x) := by omega
    conv => rhs; rw [this, Nat.pow_add]
    rw [Nat.mul_div_mul_right _ _ (Nat.two_pow_pos _)]
  · have e1 : (-1074 + (ex (rg x) : Nat) : Int).toNat = ex (rg x) - E := by omega
    have e2 : (-(-1074 + (ex (rg x) : Nat) : Int)).toNat = 0 := by omega
    rw [e1, e2, Nat.pow_zero, Nat.div_one]
    have : ex (rg x) = (ex (rg x) - E) + E := by omega
    conv => rhs; rw [this, Nat.pow_add, ← Nat.mul_assoc]
    rw [Nat.mul_div_cancel _ (Nat.two_pow_pos _)]
theorem integral_even (x : Nat) (h : rg x < I) : (double.read x).integral .even = .number (sg x) (nk x) 0 := by
  rw [read_fin x h]
  unfold Datum.integral
  dsimp only
  rw [Nat.shiftLeft_eq]
  congr 1
  refine Cut.eq (n := rv (rg x)) (b := E) ?_ (nk_cut x)
  unfold rv
  have hE := E_eq
  rcases Nat.lt_or_ge (ex (rg x)) E with h1 | h1
  · have e1 : (-1074 + (ex (rg x) : Nat) : Int).toNat = 0 := by omega
    have e2 : (-(-1074 + (ex (rg x) : Nat) : Int)).toNat = E - ex (rg x) := by omega
    rw [e1, e2, Nat.pow_zero, Nat.mul_one]
    have := (cut_even (sg x) (mant (rg x)) (E - ex (rg x))).scale (ex (rg x))
    rwa [show E - ex (rg x) + ex (rg x) = E by omega] at this
  · have e1 : (-1074 + (ex (rg x) : Nat) : Int).toNat = ex (rg x) - E := by omega
    have e2 : (-(-1074 + (ex (rg x) : Nat) : Int)).toNat = 0 := by omega
    rw [e1, e2]
    have := (cut_even (sg x) (mant (rg x) * 2 ^ (ex (rg x) - E)) 0).scale E
    rw [Nat.mul_assoc, ← Nat.pow_add, show ex (rg x) - E + E = ex (rg x) by omega, Nat.zero_add] at this
    exact this
/-- What Trunc and RoundToEven tell. -/
theorem write_whole (s : Bool) (k : Nat) : double.write (.number s k 0) = rnd s (k * U) := by
  unfold Format.write
  dsimp only
  rw [nearest_units s k 0 (by omega), show ((0 : Int) + 1074).toNat = E from by rw [E_eq]; rfl, U_def]
def sgi (s : Bool) (k : Nat) : Int := if s then -(k : Int) else (k : Int)
theorem toInt_zero (x : Nat) (h : rg x < I) : (double.read x).toInt .zero = some (sgi (sg x) (wh x)) := by
  unfold Datum.toInt
  rw [integral_zero x h]
  unfold signed sgi
  cases sg x <;> simp
theorem ofInt_sgi (s : Bool) (k : Nat) : floatOfInt .f64 (sgi s k) = rnd (s && decide (0 < k)) (k * U) := by
  unfold floatOfInt FloatKind.nearest
  rw [show FloatKind.f64.encode (.number (decide (sgi s k < 0)) (sgi s k).natAbs 0) = rnd (decide (sgi s k < 0)) ((sgi s k).natAbs * U) from write_whole _ _]
  unfold sgi
  cases s
  · simp only [Bool.false_eq_true, if_false, Bool.false_and]
    rw [decide_eq_false (by omega)]; rfl
  · by_cases hk : 0 < k
    · simp [hk]
    · have : k = 0 := by omega
      subst this; simp

/-- Of floats up to 2^53 the whole part. -/
theorem wh_le (x : Nat) (h : rg x ≤ c53) : wh x ≤ 9007199254740992 := by
  have := rv_le h; rw [rv_c53] at this
  exact Nat.div_le_of_le_mul (by rw [Nat.mul_comm]; exact this)
theorem nk_near (x : Nat) : 2 * rv (rg x) ≤ (2 * nk x + 1) * U ∧ (2 * rv (rg x) = (2 * nk x + 1) * U → nk x % 2 = 0) ∧ 2 * nk x * U ≤ 2 * rv (rg x) + U ∧ (2 * nk x * U = 2 * rv (rg x) + U → nk x % 2 = 0) := by
  obtain ⟨a, b, c, d⟩ := nk_cut x
  rw [← U_def] at a b c d
  exact ⟨a, b, c, d⟩
theorem nk_le (x : Nat) (h : rg x ≤ c53) : nk x ≤ 9007199254740992 := by
  have h1 := rv_le h; rw [rv_c53] at h1
  have h2 := (nk_near x).2.2.1
  rcases Nat.lt_or_ge 9007199254740992 (nk x) with h3 | h3
  · exfalso
    have : 2 * 9007199254740993 * U ≤ 2 * nk x * U := Nat.mul_le_mul_right _ (by omega)
    have := U_pos
    omega
  · exact h3

/-- How far a size is from a whole number. -/
noncomputable def dist (a k : Nat) : Nat := ((a : Int) - (k * U : Nat)).natAbs
/-- The differences that occur are floats. -/
theorem dist_rep (r k : Nat) (hr : r < I) (h : dist (rv r) k ≤ rv r) (he : ex r ≤ 1074) : rv (rr (dist (rv r) k)) = dist (rv r) k ∧ rr (dist (rv r) k) < I := by
  have hm : ∃ m, dist (rv r) k = m * 2 ^ ex r := by
    refine ⟨((mant r : Int) - (k * 2 ^ (E - ex r) : Nat)).natAbs, ?_⟩
    unfold dist
    have e1 := U_split (ex r) he
    have e2 : ((rv r : Int) - (k * U : Nat)) = ((mant r : Int) - (k * 2 ^ (E - ex r) : Nat)) * ((2 ^ ex r : Nat) : Int) := by
      rw [e1]; unfold rv
      rw [Int.sub_mul]
      congr 1
      rw [← Nat.mul_assoc]; exact Int.natCast_mul _ _
    rw [e2, Int.natAbs_mul, Int.natAbs_natCast]
  obtain ⟨m, hm⟩ := hm
  rw [hm] at h ⊢
  have h1 : m ≤ mant r := by
    unfold rv at h; exact Nat.le_of_mul_le_mul_right h (Nat.two_pow_pos _)
  have h2 := mant_lt r
  exact rep_rr m (ex r) (by omega) (Nat.lt_of_le_of_lt h (rv_mono hr))

/-- The difference of a float and a whole number of its sign. -/
theorem sub_whole (x : Nat) (hx : x < 2 * W) (hf : rg x < I) (t : Bool) (k : Nat) (hk : k ≤ 9007199254740992) (ht : t = sg x ∨ k = 0) :
    ∃ s, double.sub x (rnd t (k * U)) = some (rnd s (dist (rv (rg x)) k)) := by
  obtain ⟨h1, h2⟩ := whole_rr k hk
  have hlt := rnd_lt t (k * U)
  have hI : rg (rnd t (k * U)) < I := by rw [rg_rnd]; exact h2
  rw [sub_any _ _ hlt, add_fin _ _ hf (by rw [rg_ng _ hlt]; exact hI), vl_ng _ hlt]
  refine ⟨_, congrArg (fun n => some (rnd _ n)) ?_⟩
  unfold vl dist
  rw [rg_rnd, sg_rnd, h1]
  have hz : k = 0 → k * U = 0 := fun h => by rw [h, Nat.zero_mul]
  generalize k * U = q at *
  generalize rv (rg x) = p at *
  rcases ht with rfl | ht
  · cases sg x
    · simp only [Bool.false_eq_true, if_false]; omega
    · simp only [if_true]; omega
  · have := hz ht
    subst this
    cases sg x <;> cases t <;> simp only [Bool.false_eq_true, if_false, if_true] <;> omega
end Fl
end Go.Proofs.Ytgockebgcbmgoaa

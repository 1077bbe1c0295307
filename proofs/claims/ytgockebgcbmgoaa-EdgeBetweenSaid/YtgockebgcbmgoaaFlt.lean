/-
  Plain facts on doubles' words: sign, rung and value of a word; order, sum, difference of finite ones as facts on whole numbers (units of 2^-1074).
-/
import Derived.Test.YtgockebgcbmgoaaFlo
namespace Go.Proofs.Ytgockebgcbmgoaa
namespace Fl
open Ieee

def sg (w : Nat) : Bool := w / W % 2 == 1
def rg (w : Nat) : Nat := w % W
/-- Is it finite? -/
def fin (w : Nat) : Bool := decide (rg w < I)
def isNaN (w : Nat) : Bool := decide (I < rg w)
def isInf (w : Nat) : Bool := decide (rg w = I)
/-- The word of a sign and a rung. -/
def wd (s : Bool) (r : Nat) : Nat := if s then W + r else r
/-- The value of a finite word, in units of 2^-1074. -/
def vl (w : Nat) : Int := if sg w then -(rv (rg w) : Int) else (rv (rg w) : Int)
/-- The opposite word. -/
def ng (w : Nat) : Nat := if sg w then w - W else w + W

theorem word_eq (s : Bool) (r : Nat) : double.word s r = wd s r := by
  unfold Format.word wd; rw [dW]
theorem wd_lt (s : Bool) (r : Nat) (h : r < W) : wd s r < 2 * W := by unfold wd; split <;> omega
theorem rg_lt (w : Nat) : rg w < W := Nat.mod_lt _ (by decide)
theorem sg_wd (s : Bool) (r : Nat) (h : r < W) : sg (wd s r) = s := by
  unfold sg wd W at *
  cases s
  · simp; omega
  · simp; omega
theorem rg_wd (s : Bool) (r : Nat) (h : r < W) : rg (wd s r) = r := by
  unfold rg wd W at *
  cases s
  · simp; omega
  · simp; omega
theorem wd_sg_rg (w : Nat) (h : w < 2 * W) : wd (sg w) (rg w) = w := by
  unfold wd sg rg W at *
  by_cases h1 : w < 9223372036854775808
  · have h2 : w / 9223372036854775808 = 0 := Nat.div_eq_of_lt h1
    simp [h2]; omega
  · have h2 : w / 9223372036854775808 = 1 := by omega
    simp [h2]; omega
theorem ng_wd (s : Bool) (r : Nat) (h : r < W) : ng (wd s r) = wd (!s) r := by
  unfold ng; rw [sg_wd s r h]; cases s <;> simp [wd] <;> omega
theorem ng_lt (w : Nat) (h : w < 2 * W) : ng w < 2 * W := by
  rw [← wd_sg_rg w h, ng_wd _ _ (rg_lt w)]; exact wd_lt _ _ (rg_lt w)
theorem sg_ng (w : Nat) (h : w < 2 * W) : sg (ng w) = !sg w := by
  conv => lhs; rw [← wd_sg_rg w h]
  rw [ng_wd _ _ (rg_lt w), sg_wd _ _ (rg_lt w)]
theorem rg_ng (w : Nat) (h : w < 2 * W) : rg (ng w) = rg w := by
  conv => lhs; rw [← wd_sg_rg w h]
  rw [ng_wd _ _ (rg_lt w), rg_wd _ _ (rg_lt w)]
theorem ng_ng (w : Nat) (h : w < 2 * W) : ng (ng w) = w := by
  conv => lhs; rw [← wd_sg_rg w h]
  rw [ng_wd _ _ (rg_lt w), ng_wd _ _ (rg_lt w), Bool.not_not, wd_sg_rg w h]
theorem word_ext {x y : Nat} (hx : x < 2 * W) (hy : y < 2 * W) (h1 : sg x = sg y) (h2 : rg x = rg y) : x = y := by
  rw [← wd_sg_rg x hx, ← wd_sg_rg y hy, h1, h2]
theorem fin_ng (w : Nat) (h : w < 2 * W) : fin (ng w) = fin w := by unfold fin; rw [rg_ng w h]
theorem isNaN_ng (w : Nat) (h : w < 2 * W) : isNaN (ng w) = isNaN w := by unfold isNaN; rw [rg_ng w h]
theorem vl_ng (w : Nat) (h : w < 2 * W) : vl (ng w) = -vl w := by
  unfold vl; rw [rg_ng w h, sg_ng w h]; cases sg w <;> simp
theorem vl_wd (s : Bool) (r : Nat) (h : r < W) : vl (wd s r) = if s then -(rv r : Int) else (rv r : Int) := by
  unfold vl; rw [sg_wd s r h, rg_wd s r h]
theorem I_lt_W : I < W := by decide

/-- What a finite word stands for. -/
theorem read_fin (w : Nat) (h : rg w < I) : double.read w = .number (sg w) (mant (rg w)) (-1074 + (ex (rg w) : Nat)) := by
  unfold Format.read
  rw [dW, dB, dI, dL]
  dsimp only
  rw [show w % W = rg w from rfl, show (w / W % 2 == 1) = sg w from rfl]
  by_cases h1 : rg w < B
  · rw [if_pos h1]
    have e1 : ex (rg w) = 0 := by unfold ex; rw [Nat.div_eq_of_lt h1]
    have e2 : mant (rg w) = rg w := by unfold mant; rw [e1]; omega
    rw [e1, e2]; rfl
  · rw [if_neg h1, if_pos h]
    have e2 : B + rg w % B = mant (rg w) := by
      unfold mant ex; generalize rg w = r at *; clear h; unfold B at *; omega
    rw [e2]; rfl
theorem read_inf (w : Nat) (h : rg w = I) : double.read w = .infinity (sg w) := by
  unfold Format.read
  rw [dW, dB, dI, dL]
  dsimp only
  rw [show w % W = rg w from rfl, show (w / W % 2 == 1) = sg w from rfl, h, if_neg (by decide), if_neg (by decide), if_pos rfl]
theorem read_nan (w : Nat) (h : I < rg w) : double.read w = .nan (sg w) (rg w - I) := by
  unfold Format.read
  rw [dW, dB, dI, dL]
  dsimp only
  have hBI : B < I := by decide
  rw [show w % W = rg w from rfl, show (w / W % 2 == 1) = sg w from rfl, if_neg (by omega), if_neg (by omega), if_neg (by omega)]

/-- A signed size, in units. -/
theorem signed_units (s : Bool) (r : Nat) (base : Int) (h : base ≤ -1074 + (ex r : Nat)) (hb : -1074 ≤ base) :
    signed s (mant r) (-1074 + (ex r : Nat) - base).toNat * 2 ^ (base + 1074).toNat = if s then -(rv r : Int) else (rv r : Int) := by
  have key : mant r * 2 ^ (-1074 + (ex r : Nat) - base).toNat * 2 ^ (base + 1074).toNat = rv r := by
    unfold rv; rw [Nat.mul_assoc, ← Nat.pow_add]; congr 2; omega
  unfold signed
  rw [Nat.shiftLeft_eq]
  cases s
  · simp only [Bool.false_eq_true, if_false]
    rw [← key]; simp
  · simp only [if_true]
    rw [← key]; simp [Int.neg_mul]

theorem pow_pos_int (k : Nat) : (0 : Int) < 2 ^ k := by
  have := Nat.two_pow_pos k
  have e : ((2 ^ k : Nat) : Int) = (2 : Int) ^ k := by simp
  omega

theorem compare_int (a b : Int) : compare a b = if a < b then .lt else if a = b then .eq else .gt := rfl

/-- Finite words stand to each other as their values. -/
theorem order_fin (x y : Nat) (hx : rg x < I) (hy : rg y < I) : double.order x y = some (compare (vl x) (vl y)) := by
  unfold Format.order
  rw [read_fin x hx, read_fin y hy]
  unfold Datum.order
  dsimp only
  generalize hbase : min (-1074 + (ex (rg x) : Nat) : Int) (-1074 + (ex (rg y) : Nat)) = base
  have h1 := signed_units (sg x) (rg x) base (by omega) (by omega)
  have h2 := signed_units (sg y) (rg y) base (by omega) (by omega)
  generalize signed (sg x) (mant (rg x)) (-1074 + (ex (rg x) : Nat) - base).toNat = a at *
  generalize signed (sg y) (mant (rg y)) (-1074 + (ex (rg y) : Nat) - base).toNat = b at *
  have e1 : vl x = a * 2 ^ (base + 1074).toNat := by unfold vl; exact h1.symm
  have e2 : vl y = b * 2 ^ (base + 1074).toNat := by unfold vl; exact h2.symm
  have hp := pow_pos_int (base + 1074).toNat
  generalize (2 : Int) ^ (base + 1074).toNat = p at *
  rw [e1, e2, compare_int, compare_int]
  congr 1
  rcases Int.lt_trichotomy a b with h | h | h
  · rw [if_pos h, if_pos (Int.mul_lt_mul_of_pos_right h hp)]
  · subst h; simp
  · have h3 := Int.mul_lt_mul_of_pos_right h hp
    rw [if_neg (by omega), if_neg (by omega), if_neg (by omega), if_neg (by omega)]

/-- The nearest word of a whole number of units. -/
def rnd (s : Bool) (n : Nat) : Nat := double.nearest s n (-1074)

theorem nearest_word (s : Bool) (mag : Nat) (place : Int) : ∃ r, double.nearest s mag place = wd s (min r I) ∧ ∀ d n : Nat, 0 ≤ place + 1074 + d → n = mag * 2 ^ (place + 1074 + d).toNat → Rnd n d r := by
  obtain ⟨r, h1, h2⟩ := nearest_spec s mag place
  exact ⟨r, by rw [h1, word_eq], h2⟩

/-- Two spellings of one number have one nearest word. -/
theorem nearest_congr (s : Bool) (m1 m2 : Nat) (p1 p2 : Int) (c1 c2 : Nat) (h : m1 * 2 ^ c1 = m2 * 2 ^ c2) (hp : p1 - c1 = p2 - c2) : double.nearest s m1 p1 = double.nearest s m2 p2 := by
  obtain ⟨r1, e1, f1⟩ := nearest_word s m1 p1
  obtain ⟨r2, e2, f2⟩ := nearest_word s m2 p2
  have a1 := f1 ((-(p1 + 1074)).toNat + (-(p2 + 1074)).toNat + c1 + c2) _ (by omega) rfl
  have a2 := f2 ((-(p1 + 1074)).toNat + (-(p2 + 1074)).toNat + c1 + c2) _ (by omega) rfl
  have : m1 * 2 ^ (p1 + 1074 + ((-(p1 + 1074)).toNat + (-(p2 + 1074)).toNat + c1 + c2 : Nat)).toNat = m2 * 2 ^ (p2 + 1074 + ((-(p1 + 1074)).toNat + (-(p2 + 1074)).toNat + c1 + c2 : Nat)).toNat := by
    have q1 : (p1 + 1074 + ((-(p1 + 1074)).toNat + (-(p2 + 1074)).toNat + c1 + c2 : Nat)).toNat = c1 + (p1 - c1 + 1074 + ((-(p1 + 1074)).toNat + (-(p2 + 1074)).toNat + c1 + c2 : Nat)).toNat := by omega
    have q2 : (p2 + 1074 + ((-(p1 + 1074)).toNat + (-(p2 + 1074)).toNat + c1 + c2 : Nat)).toNat = c2 + (p1 - c1 + 1074 + ((-(p1 + 1074)).toNat + (-(p2 + 1074)).toNat + c1 + c2 : Nat)).toNat := by omega
    rw [q1, q2, Nat.pow_add, Nat.pow_add, ← Nat.mul_assoc, ← Nat.mul_assoc, h]
  rw [this] at a1
  rw [e1, e2, a1.eq a2]

/-- The word of a whole number of units. -/
theorem rnd_spec (s : Bool) (n : Nat) : ∃ r, rnd s n = wd s (min r I) ∧ Rnd n 0 r := by
  obtain ⟨r, h1, h2⟩ := nearest_word s n (-1074)
  exact ⟨r, h1, h2 0 n (by omega) (by simp)⟩
theorem rnd_exact (s : Bool) (r : Nat) (h : r ≤ I) : rnd s (rv r) = wd s r := by
  obtain ⟨q, h1, h2⟩ := rnd_spec s (rv r)
  have := Rnd.exact r 0
  rw [Nat.pow_zero, Nat.mul_one] at this
  rw [h1, ← this.eq h2, Nat.min_eq_left h]
theorem nearest_units (s : Bool) (mag : Nat) (place : Int) (h : -1074 ≤ place) : double.nearest s mag place = rnd s (mag * 2 ^ (place + 1074).toNat) :=
  nearest_congr s _ _ _ _ ((place + 1074).toNat) 0 (by simp) (by omega)

/-- The sign of a sum. -/
def sgn2 (s t : Bool) (n : Int) : Bool := if n = 0 then s && t else decide (n < 0)

theorem add_fin (x y : Nat) (hx : rg x < I) (hy : rg y < I) : double.add x y = some (rnd (sgn2 (sg x) (sg y) (vl x + vl y)) (vl x + vl y).natAbs) := by
  unfold Format.add
  rw [read_fin x hx, read_fin y hy]
  unfold Datum.sum
  dsimp only
  generalize hbase : min (-1074 + (ex (rg x) : Nat) : Int) (-1074 + (ex (rg y) : Nat)) = base
  have h1 := signed_units (sg x) (rg x) base (by omega) (by omega)
  have h2 := signed_units (sg y) (rg y) base (by omega) (by omega)
  generalize signed (sg x) (mant (rg x)) (-1074 + (ex (rg x) : Nat) - base).toNat = a at *
  generalize signed (sg y) (mant (rg y)) (-1074 + (ex (rg y) : Nat) - base).toNat = b at *
  have e1 : vl x = a * 2 ^ (base + 1074).toNat := by unfold vl; exact h1.symm
  have e2 : vl y = b * 2 ^ (base + 1074).toNat := by unfold vl; exact h2.symm
  have e3 : vl x + vl y = (a + b) * 2 ^ (base + 1074).toNat := by rw [e1, e2, Int.add_mul]
  have hp := pow_pos_int (base + 1074).toNat
  have hs : (if a + b = 0 then (sg x && sg y) else decide (a + b < 0)) = sgn2 (sg x) (sg y) (vl x + vl y) := by
    unfold sgn2; rw [e3]
    generalize (2 : Int) ^ (base + 1074).toNat = p at *
    by_cases h0 : a + b = 0
    · rw [h0]; simp
    · have : (a + b) * p ≠ 0 := Int.mul_ne_zero h0 (by omega)
      rw [if_neg h0, if_neg this]
      congr 1
      apply propext
      constructor
      · intro h; exact Int.mul_neg_of_neg_of_pos h hp
      · intro h
        rcases Int.lt_trichotomy (a + b) 0 with h3 | h3 | h3
        · exact h3
        · omega
        · have := Int.mul_pos h3 hp; omega
  simp only [Option.map_some, Format.write]
  rw [hs, nearest_units _ _ _ (by omega), e3, Int.natAbs_mul]
  congr 3

theorem sub_any (x y : Nat) (hw : y < 2 * W) : double.sub x y = double.add x (ng y) := by
  unfold Format.sub Format.add
  rcases Nat.lt_trichotomy (rg y) I with h | h | h
  · rw [read_fin y h, read_fin (ng y) (by rw [rg_ng y hw]; exact h), rg_ng y hw, sg_ng y hw]; rfl
  · rw [read_inf y h, read_inf (ng y) (by rw [rg_ng y hw]; exact h), sg_ng y hw]; rfl
  · rw [read_nan y h, read_nan (ng y) (by rw [rg_ng y hw]; exact h), rg_ng y hw, sg_ng y hw]; rfl

end Fl
end Go.Proofs.Ytgockebgcbmgoaa

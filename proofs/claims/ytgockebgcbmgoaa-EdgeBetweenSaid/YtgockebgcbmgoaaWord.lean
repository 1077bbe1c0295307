/-
  Plain facts on doubles' words: order by signed rungs; bits of words; which results are NaN.
-/
import Derived.Test.YtgockebgcbmgoaaFlt
import Derived.Laws.BitsAllLaws
import Derived.Laws.Cover2
import Derived.Laws.FloatArith
namespace Go.Proofs.Ytgockebgcbmgoaa
namespace Fl
open Ieee

/-- A word's signed rung. -/
def key (w : Nat) : Int := if sg w then -(rg w : Int) else (rg w : Int)
/-- The value of a signed rung. -/
def V (k : Int) : Int := if k < 0 then -(rv (-k).toNat : Int) else (rv k.toNat : Int)

theorem V_lt {a b : Int} (h : a < b) : V a < V b := by
  unfold V
  by_cases ha : a < 0
  · rw [if_pos ha]
    by_cases hb : b < 0
    · rw [if_pos hb]
      have := rv_mono (show (-b).toNat < (-a).toNat by omega)
      omega
    · rw [if_neg hb]
      have := rv_pos (show 0 < (-a).toNat by omega)
      omega
  · rw [if_neg ha, if_neg (by omega)]
    have := rv_mono (show a.toNat < b.toNat by omega)
    omega
theorem V_le {a b : Int} (h : a ≤ b) : V a ≤ V b := by
  rcases Int.lt_or_eq_of_le h with h | h
  · exact Int.le_of_lt (V_lt h)
  · subst h; exact Int.le_refl _
theorem V_lt_iff {a b : Int} : V a < V b ↔ a < b :=
  ⟨fun h => by rcases Int.lt_or_le a b with h1 | h1; exact h1; have := V_le h1; omega, V_lt⟩
theorem V_le_iff {a b : Int} : V a ≤ V b ↔ a ≤ b :=
  ⟨fun h => by rcases Int.lt_or_le b a with h1 | h1; have := V_lt h1; omega; exact h1, V_le⟩
theorem V_inj {a b : Int} (h : V a = V b) : a = b := by
  have h1 := V_le_iff.1 (Int.le_of_eq h); have h2 := V_le_iff.1 (Int.le_of_eq h.symm); omega
theorem V_zero : V 0 = 0 := by decide
theorem V_neg (k : Int) : V (-k) = -V k := by
  unfold V
  rcases Int.lt_trichotomy k 0 with h | h | h
  · rw [if_neg (by omega), if_pos h]; omega
  · subst h; simp [rv_zero]
  · rw [if_pos (by omega), if_neg (by omega)]; simp
theorem vl_key (w : Nat) : vl w = V (key w) := by
  unfold vl V key
  cases sg w
  · simp only [Bool.false_eq_true, if_false]; rw [if_neg (by omega)]; simp
  · simp only [if_true]
    by_cases h : rg w = 0
    · rw [h]; simp [rv_zero]
    · rw [if_pos (by omega)]; simp

theorem compare_V (a b : Int) : compare (V a) (V b) = compare a b := by
  rw [compare_int, compare_int]
  rcases Int.lt_trichotomy a b with h | h | h
  · rw [if_pos h, if_pos (V_lt h)]
  · subst h; simp
  · have := V_lt h; rw [if_neg (by omega), if_neg (by omega), if_neg (by omega), if_neg (by omega)]

/-- Words that are no NaN stand to each other as their signed rungs. -/
theorem order_key (x y : Nat) (hx : rg x ≤ I) (hy : rg y ≤ I) : double.order x y = some (compare (key x) (key y)) := by
  rcases Nat.lt_or_ge (rg x) I with h1 | h1
  · rcases Nat.lt_or_ge (rg y) I with h2 | h2
    · rw [order_fin x y h1 h2, vl_key, vl_key, compare_V]
    · have e2 : rg y = I := by omega
      unfold Format.order
      rw [read_fin x h1, read_inf y e2]
      unfold Datum.order key
      dsimp only
      rw [e2]
      have : 0 ≤ rg x := Nat.zero_le _
      cases sg y
      · simp only [Bool.false_eq_true, if_false]
        rw [compare_int, if_pos (by cases sg x <;> simp <;> omega)]
      · simp only [if_true]
        rw [compare_int, if_neg (by cases sg x <;> simp <;> omega), if_neg (by cases sg x <;> simp <;> omega)]
  · have e1 : rg x = I := by omega
    rcases Nat.lt_or_ge (rg y) I with h2 | h2
    · unfold Format.order
      rw [read_inf x e1, read_fin y h2]
      unfold Datum.order key
      dsimp only
      rw [e1]
      cases sg x
      · simp only [Bool.false_eq_true, if_false]
        rw [compare_int, if_neg (by cases sg y <;> simp <;> omega), if_neg (by cases sg y <;> simp <;> omega)]
      · simp only [if_true]
        rw [compare_int, if_pos (by cases sg y <;> simp <;> omega)]
    · have e2 : rg y = I := by omega
      unfold Format.order
      rw [read_inf x e1, read_inf y e2]
      unfold Datum.order key
      dsimp only
      rw [e1, e2]
      cases sg x <;> cases sg y <;> decide
theorem order_nan (x y : Nat) (h : I < rg x ∨ I < rg y) : double.order x y = none := by
  unfold Format.order
  rcases h with h | h
  · rw [read_nan x h]; cases double.read y <;> rfl
  · rw [read_nan y h]; cases double.read x <;> rfl

theorem order_lt (x y : Nat) (hx : rg x ≤ I) (hy : rg y ≤ I) (h : key x < key y) : double.order x y = some .lt := by
  rw [order_key x y hx hy, compare_int, if_pos h]
theorem order_gt (x y : Nat) (hx : rg x ≤ I) (hy : rg y ≤ I) (h : key y < key x) : double.order x y = some .gt := by
  rw [order_key x y hx hy, compare_int, if_neg (by omega), if_neg (by omega)]
theorem order_eq (x y : Nat) (hx : rg x ≤ I) (hy : rg y ≤ I) (h : key x = key y) : double.order x y = some .eq := by
  rw [order_key x y hx hy, compare_int, if_neg (by omega), if_pos h]

/-! ### bits -/
theorem and_sign (x : Nat) : x &&& W = (x / W % 2) * W := by
  rw [W_eq]
  apply Nat.eq_of_testBit_eq
  intro i
  rw [Nat.testBit_and, Nat.testBit_two_pow]
  have hb : x.testBit 63 = decide (x / 2 ^ 63 % 2 = 1) := Nat.testBit_eq_decide_div_mod_eq
  by_cases h : x / 2 ^ 63 % 2 = 1
  · rw [h, Nat.one_mul, Nat.testBit_two_pow]
    by_cases hi : 63 = i
    · subst hi; simp [hb, h]
    · simp [hi]
  · have h0 : x / 2 ^ 63 % 2 = 0 := by omega
    rw [h0, Nat.zero_mul, Nat.zero_testBit]
    by_cases hi : 63 = i
    · subst hi; simp [hb, h0]
    · simp [hi]
theorem andNot_sign (x : Nat) (h : x < 2 * W) : bits BinOp.andNot IntKind.u64 (x : Int) 9223372036854775808 = ((rg x : Nat) : Int) := by
  have e := u64_andNot_nat x W (by unfold W at h; omega) (by decide)
  have e2 : ((W : Nat) : Int) = 9223372036854775808 := by decide
  rw [e2] at e
  rw [e, show 18446744073709551615 - W = 2 ^ 63 - 1 by decide, Nat.and_two_pow_sub_one_eq_mod]
  rfl
theorem and_sign_u64 (x : Nat) (h : x < 2 * W) : bits BinOp.and IntKind.u64 (x : Int) 9223372036854775808 = (((if sg x then W else 0) : Nat) : Int) := by
  have e := u64_and_nat x W (by unfold W at h; omega) (by decide)
  have e2 : ((W : Nat) : Int) = 9223372036854775808 := by decide
  rw [e2] at e
  rw [e, and_sign]
  unfold sg
  by_cases h1 : x / W % 2 = 1
  · simp [h1]
  · have : x / W % 2 = 0 := by omega
    simp [this]
theorem or_sign_u64 (s : Bool) (r : Nat) (h : r < W) : bits BinOp.or IntKind.u64 (r : Int) (((if s then W else 0) : Nat) : Int) = ((wd s r : Nat) : Int) := by
  rw [u64_or_nat r _ (by unfold W at h; omega) (by cases s <;> decide)]
  congr 1
  cases s
  · simp [wd]
  · simp only [if_true, wd]
    rw [Nat.or_comm, nat_join 63 W r (by decide) (by rw [← W_eq]; exact h)]
theorem neg_word (x : Nat) (h : x < 2 * W) : Op.negFloat .f64 x = ng x := by
  unfold Op.negFloat
  rw [show FloatKind.f64.format.exponentBits + FloatKind.f64.format.fractionBits = 63 from rfl]
  apply Nat.eq_of_testBit_eq
  intro i
  rw [Nat.testBit_xor, Nat.testBit_two_pow]
  unfold ng sg
  have h2 : x < 2 ^ 64 := by unfold W at h; omega
  by_cases h1 : x / W % 2 = 1
  · have hx : x = 2 ^ 63 + (x - W) := by unfold W at *; omega
    have hlt : x - W < 2 ^ 63 := by unfold W at *; omega
    simp only [h1, beq_self_eq_true, if_true]
    generalize x - W = y at *
    rw [hx]
    by_cases hi : i < 63
    · rw [Nat.testBit_two_pow_add_gt hi]
      have : ¬ 63 = i := by omega
      simp [this]
    · by_cases hi2 : i = 63
      · subst hi2
        rw [Nat.testBit_two_pow_add_eq, Nat.testBit_lt_two_pow hlt]; simp
      · rw [Nat.testBit_lt_two_pow (show 2 ^ 63 + y < 2 ^ i by have : 2 ^ 64 ≤ 2 ^ i := Nat.pow_le_pow_right (by omega) (by omega); omega)]
        rw [Nat.testBit_lt_two_pow (show y < 2 ^ i by have : 2 ^ 64 ≤ 2 ^ i := Nat.pow_le_pow_right (by omega) (by omega); omega)]
        simp; omega
  · have h0 : x / W % 2 = 0 := by omega
    have hlt : x < 2 ^ 63 := by unfold W at *; omega
    simp only [h0]
    rw [show (0 == 1) = false from rfl]
    simp only [Bool.false_eq_true, if_false]
    rw [Nat.add_comm, W_eq]
    by_cases hi : i < 63
    · rw [Nat.testBit_two_pow_add_gt hi]
      have : ¬ 63 = i := by omega
      simp [this]
    · by_cases hi2 : i = 63
      · subst hi2
        rw [Nat.testBit_two_pow_add_eq]; simp
      · rw [Nat.testBit_lt_two_pow (show 2 ^ 63 + x < 2 ^ i by have : 2 ^ 64 ≤ 2 ^ i := Nat.pow_le_pow_right (by omega) (by omega); omega)]
        rw [Nat.testBit_lt_two_pow (show x < 2 ^ i by have : 2 ^ 64 ≤ 2 ^ i := Nat.pow_le_pow_right (by omega) (by omega); omega)]
        simp; omega

/-! ### results -/
/-- s is what an operation gave: its word, or some NaN. -/
def Is (o : Option Nat) (s : Nat) : Prop := match o with
  | some r => s = r
  | none => I < rg s ∧ s < 2 * W

theorem nan_draw (t : Nat) : I < rg ((t % 2) * 2 ^ 63 + 0x7ff0000000000000 + 1 + (t / 2) % (2 ^ 52 - 1)) ∧ (t % 2) * 2 ^ 63 + 0x7ff0000000000000 + 1 + (t / 2) % (2 ^ 52 - 1) < 2 * W := by
  unfold rg I W
  generalize t / 2 = u
  have : t % 2 = 0 ∨ t % 2 = 1 := by omega
  rcases this with h | h <;> rw [h] <;> omega

theorem add_lt {x y r : Nat} (h : double.add x y = some r) : r < 2 * W := Format.add_lt double h
theorem mul_lt {x y r : Nat} (h : double.mul x y = some r) : r < 2 * W := Format.mul_lt double h
theorem div_lt {x y r : Nat} (h : double.div x y = some r) : r < 2 * W := Format.div_lt double h
theorem sub_lt {x y r : Nat} (h : double.sub x y = some r) : r < 2 * W := Format.sub_lt double h
theorem sqrt_lt {x r : Nat} (h : double.sqrt x = some r) : r < 2 * W := Format.sqrt_lt double h
theorem fma_lt {x y z r : Nat} (h : double.fma x y z = some r) : r < 2 * W := Format.fma_lt double h

theorem sub_self_fin (x : Nat) (hw : x < 2 * W) (h : rg x < I) : double.sub x x = some 0 := by
  rw [sub_any x x hw, add_fin x (ng x) h (by rw [rg_ng x hw]; exact h), vl_ng x hw, sg_ng x hw]
  have : vl x + -vl x = 0 := by omega
  rw [this]
  unfold sgn2
  cases sg x <;> decide
theorem sub_self_not (x : Nat) (h : ¬ rg x < I) : double.sub x x = none := by
  unfold Format.sub
  rcases Nat.lt_or_ge I (rg x) with h1 | h1
  · rw [read_nan x h1]; rfl
  · rw [read_inf x (by omega)]
    unfold Datum.opposite Datum.sum
    cases sg x <;> rfl

end Fl
end Go.Proofs.Ytgockebgcbmgoaa

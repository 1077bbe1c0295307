/-
  rosetteref09's plus.
  rosetteref09's times and plus.
  rosetteref09's up: the least float that is not below a number.
  rosetteref09's up: the least float that is not below a number.
  Walk of rosetteref09's up where Nearest tells infinity.
  Walk of rosetteref09's up.
  Walks: what the laws of fault use: Pick, tame, is, Nextafter, Roots, awake.
  Plain facts: bounds upward grow with what they are of, and of twice as much are at most twice as great.
-/
import Derived.Test.YtfpopdneokekiaaGreatDoorP27
import Derived.Deep.RegionWith
set_option linter.unusedVariables false
set_option linter.unusedSimpArgs false
namespace Go.Proofs.YtfpopdneokekiaaGreatDoor
namespace Fl
open Ieee

/-- Finite, not below 0. -/
def Pos (x : Nat) : Prop := rg x < I ∧ 0 ≤ key x
theorem vl_le {x y : Nat} : vl x ≤ vl y ↔ key x ≤ key y := by rw [vl_key, vl_key]; exact V_le_iff
theorem Pos.vl {x : Nat} (h : Pos x) : 0 ≤ vl x := by rw [vl_key, ← V_zero]; exact V_le h.2
theorem DirW.exact (k d w : Nat) (hk : k < I) (h : key w = k) (hw : rg w ≤ I) : DirW true (V k * 2 ^ d) d w := by
  refine ⟨hw, (k : Int), ?_, ?_⟩
  · unfold Dir
    rw [if_pos rfl]
    exact ⟨Int.le_refl _, Int.mul_lt_mul_of_pos_right (V_lt (by omega)) (pow_pos_int d)⟩
  · rw [h]
    unfold clamp
    rw [if_pos rfl]
    have : (0 : Int) < I := by decide
    generalize I = i at *
    omega
theorem DirW.nonneg {n : Int} {d w : Nat} (h : DirW true n d w) (hn : 0 ≤ n) : 0 ≤ key w := by
  have h0 := DirW.zero true d 0 (by decide)
  have := DirW.mono h0 h (.inr rfl) (by rw [Int.zero_mul]; exact Int.mul_nonneg hn (Int.le_of_lt (pow_pos_int d)))
  rwa [show key 0 = 0 by decide] at this
theorem DirW.grow {n m : Int} {d w x : Nat} (h1 : DirW true n d w) (h2 : DirW true m d x) (h : n ≤ m) : key w ≤ key x :=
  DirW.mono h1 h2 (.inr rfl) (Int.mul_le_mul_of_nonneg_right h (Int.le_of_lt (pow_pos_int d)))
theorem key_pos_rg {x : Nat} (h : 0 ≤ key x) : key x = rg x := by
  unfold key at *
  split
  · rename_i hs; rw [if_pos hs] at h; omega
  · rfl
theorem fin_of_le {x y : Nat} (hx : rg x ≤ I) (h : key x ≤ key y) (h0 : 0 ≤ key x) (hy : rg y < I) : rg x < I := by
  rw [key_pos_rg h0] at h
  have := (key_fin_range hy).2
  omega
/-- Twice a rung. -/
theorem dbl_rung (r : Nat) : ∃ t, rv t = 2 * rv r ∧ t ≤ r + B := by
  by_cases h : r < B
  · refine ⟨2 * r, ?_, by omega⟩
    have e1 := rv_of 0 r (by omega) (.inl rfl)
    have e2 := rv_of 0 (2 * r) (by omega) (.inl rfl)
    simp only [Nat.zero_mul, Nat.zero_add, Nat.pow_zero, Nat.mul_one] at e1 e2
    rw [e1, e2]
  · refine ⟨r + B, ?_, Nat.le_refl _⟩
    have hm := mant_lt r
    have hx := ex_mant r
    have hg : ex r = 0 ∨ B ≤ mant r := mant_ge r
    have hB : B ≤ mant r := by
      rcases hg with h0 | h0
      · rw [h0] at hx; omega
      · exact h0
    have e1 := rv_of (ex r) (mant r) (by omega) hg
    have e2 := rv_of (ex r + 1) (mant r) (by omega) (.inr hB)
    rw [← hx] at e1
    rw [show (ex r + 1) * B + mant r = r + B by rw [Nat.add_mul]; omega] at e2
    rw [e2, e1, Nat.pow_succ]
    generalize 2 ^ ex r = P
    generalize mant r = m
    grind
theorem DirW.twice {n m : Int} {d s t : Nat} (h1 : DirW true n d s) (h2 : DirW true m d t) (hn : 0 ≤ n) (hm : m ≤ 2 * n) (hs : rg s + B < I) : vl t ≤ 2 * vl s := by
  have hk0 := h1.nonneg hn
  obtain ⟨_, k, hk, hck⟩ := h1
  have hkr := key_pos_rg hk0
  have hI : 0 < I := by decide
  have hks : k = rg s := by
    unfold clamp at hck
    rw [if_pos rfl, hkr] at hck
    unfold Dir at hk
    rw [if_pos rfl] at hk
    have hV : 0 ≤ V k := by
      have := Int.le_trans hn hk.1
      rcases Int.lt_or_le (V k) 0 with h | h
      · have := Int.mul_neg_of_neg_of_pos h (pow_pos_int d); omega
      · exact h
    have : 0 ≤ k := by rw [← V_zero] at hV; exact V_le_iff.1 hV
    generalize I = i at *
    omega
  unfold Dir at hk
  rw [if_pos rfl, hks] at hk
  obtain ⟨q, hq, hql⟩ := dbl_rung (rg s)
  have hqI : q < I := by omega
  have hkey : key q = q := key_pos q (Nat.lt_trans hqI I_lt_W)
  have hrq : rg q = q := Nat.mod_eq_of_lt (Nat.lt_trans hqI I_lt_W)
  have h3 := DirW.exact q d q hqI hkey (by rw [hrq]; exact Nat.le_of_lt hqI)
  have hVq : V (q : Int) = 2 * V (rg s : Int) := by
    unfold V
    rw [if_neg (by omega), if_neg (by omega), Int.toNat_natCast, Int.toNat_natCast, hq]; omega
  have h4 : m ≤ V q * 2 ^ d := by
    rw [hVq, Int.mul_assoc]
    omega
  have h5 := DirW.grow h2 h3 h4
  rw [hkey] at h5
  rw [vl_key, vl_key, hkr, ← hVq]
  exact V_le h5
theorem mul_dir {x y s : Nat} (hx : Pos x) (hy : Pos y) (h : Is (mulS x y true) s) : DirW true (vl x * vl y) E s := by
  obtain ⟨r, h1, h2⟩ := mulS_dir x y true hx.1 hy.1
  rw [h1] at h
  have : s = r := h
  rw [this]; exact h2
theorem add_dir {x y s : Nat} (wx : x < 2 * W) (wy : y < 2 * W) (hx : Pos x) (hy : Pos y) (h : Is (addS x y true) s) : DirW true (vl x + vl y) 0 s := by
  have hd := addF_dir x y true wx wy hx.1 hy.1
  unfold addS at h
  rw [if_pos ⟨hx.1, hy.1⟩] at h
  have : s = addF x y true := h
  rw [this]; exact hd
/-- The bound's last step: a product, and a little more. -/
theorem prod_mono {a b a' b' : Int} (h0 : 0 ≤ a) (h1 : 0 ≤ b) (ha : a ≤ a') (hb : b ≤ b') : a * b ≤ a' * b' :=
  Int.mul_le_mul ha hb h1 (Int.le_trans h0 ha)
theorem least_pos : Pos 103582791429521408 := by unfold Pos; decide
/-- One product more: it grows, stays below a bound, and of twice as much is at most twice as great. -/
theorem step_pos {x y s X Y S : Nat} (hx : Pos x) (hy : Pos y) (h : Is (mulS x y true) s) (hX : Pos X) (hY : Pos Y) (hS : mulS X Y true = some S) (hf : rg S < I) (h1 : key x ≤ key X) (h2 : key y ≤ key Y) : Pos s ∧ key s ≤ key S := by
  have d1 := mul_dir hx hy h
  have d2 : DirW true (vl X * vl Y) E S := mul_dir hX hY (by rw [hS]; rfl)
  have k0 := d1.nonneg (Int.mul_nonneg hx.vl hy.vl)
  have k1 := d1.grow d2 (prod_mono hx.vl hy.vl (vl_le.2 h1) (vl_le.2 h2))
  exact ⟨⟨fin_of_le d1.1 k1 k0 hf, k0⟩, k1⟩
theorem step_mono {x y s x' y' s' : Nat} (hx : Pos x) (hy : Pos y) (hx' : Pos x') (hy' : Pos y') (h : Is (mulS x y true) s) (h' : Is (mulS x' y' true) s') (h1 : vl x ≤ vl x') (h2 : vl y ≤ vl y') : vl s ≤ vl s' :=
  vl_le.2 ((mul_dir hx hy h).grow (mul_dir hx' hy' h') (prod_mono hx.vl hy.vl h1 h2))
theorem step_twice {x y s y' s' : Nat} (hx : Pos x) (hy : Pos y) (hy' : Pos y') (h : Is (mulS x y true) s) (h' : Is (mulS x y' true) s') (h2 : vl y' = 2 * vl y) (hs : rg s + B < I) : vl s' ≤ 2 * vl s :=
  DirW.twice (mul_dir hx hy h) (mul_dir hx hy' h') (Int.mul_nonneg hx.vl hy.vl) (by rw [h2, ← Int.mul_assoc, Int.mul_comm (vl x) 2, Int.mul_assoc]; exact Int.le_refl _) hs
theorem last_ge {u s : Nat} (wu : u < 2 * W) (hu : Pos u) (h : Is (addS u 103582791429521408 true) s) : key 103582791429521408 ≤ key s := by
  have d1 := add_dir wu (by decide) hu least_pos h
  have k : key 103582791429521408 = (103582791429521408 : Nat) := by decide
  have d0 := DirW.exact 103582791429521408 0 103582791429521408 (by decide) k (by decide)
  refine d0.grow d1 ?_
  rw [Int.pow_zero, Int.mul_one, ← k, ← vl_key]
  have := hu.vl
  omega
theorem last_mono {u s u' s' : Nat} (wu : u < 2 * W) (wu' : u' < 2 * W) (hu : Pos u) (hu' : Pos u') (h : Is (addS u 103582791429521408 true) s) (h' : Is (addS u' 103582791429521408 true) s') (h1 : vl u ≤ vl u') : key s ≤ key s' :=
  (add_dir wu (by decide) hu least_pos h).grow (add_dir wu' (by decide) hu' least_pos h') (by omega)
theorem last_twice {u s u' s' : Nat} (wu : u < 2 * W) (wu' : u' < 2 * W) (hu : Pos u) (hu' : Pos u') (h : Is (addS u 103582791429521408 true) s) (h' : Is (addS u' 103582791429521408 true) s') (h1 : vl u' ≤ 2 * vl u) (hs : rg s + B < I) : vl s' ≤ 2 * vl s := by
  have := least_pos.vl
  exact DirW.twice (add_dir wu (by decide) hu least_pos h) (add_dir wu' (by decide) hu' least_pos h') (by have := hu.vl; omega) (by omega) hs
theorem last_fin {u s U S : Nat} (wu : u < 2 * W) (wU : U < 2 * W) (hu : Pos u) (hU : Pos U) (h : Is (addS u 103582791429521408 true) s) (hS : addS U 103582791429521408 true = some S) (hf : rg S < I) (h1 : key u ≤ key U) : Pos s ∧ key s ≤ key S := by
  have d1 := add_dir wu (by decide) hu least_pos h
  have d2 : DirW true (vl U + vl 103582791429521408) 0 S := add_dir wU (by decide) hU least_pos (by rw [hS]; rfl)
  have k0 := d1.nonneg (by have := hu.vl; have := least_pos.vl; omega)
  have k1 := d1.grow d2 (by have := vl_le.2 h1; omega)
  exact ⟨⟨fin_of_le d1.1 k1 k0 hf, k0⟩, k1⟩
end Fl
end Go.Proofs.YtfpopdneokekiaaGreatDoor

namespace Go.Proofs.YtfpopdneokekiaaGreatDoor
open Go.RowKit

/-! ### the closed answers -/
theorem z3_0 (s a b : Nat) : z3 s a b 0 = s := rfl
theorem z3_1 (s a b : Nat) : z3 s a b 1 = a := rfl
theorem z3_2 (s a b : Nat) : z3 s a b 2 = b := rfl
theorem Is_some {o : Option Nat} {r s : Nat} (h : Fl.Is o s) (ho : o = some r) : s = r := by rw [ho] at h; exact h
end Go.Proofs.YtfpopdneokekiaaGreatDoor

namespace Go.Proofs.YtfpopdneokekiaaGreatDoor
open Go.RowKit
end Go.Proofs.YtfpopdneokekiaaGreatDoor

namespace Go.Proofs.YtfpopdneokekiaaGreatDoor
open Go.RowKit
end Go.Proofs.YtfpopdneokekiaaGreatDoor

namespace Go.Proofs.YtfpopdneokekiaaGreatDoor
open Go.RowKit
end Go.Proofs.YtfpopdneokekiaaGreatDoor

namespace Go.Proofs.YtfpopdneokekiaaGreatDoor
open Go.RowKit
/-- k is the word of the least rung whose value is not below X units of 2^-2148. -/
def Fl.UpW (X k : Nat) : Prop := ∃ q, k = min q Fl.I ∧ X ≤ Fl.rv q * 2 ^ 1074 ∧ (0 < q → Fl.rv (q - 1) * 2 ^ 1074 < X)
end Go.Proofs.YtfpopdneokekiaaGreatDoor

namespace Go.Proofs.YtfpopdneokekiaaGreatDoor
open Go.RowKit
end Go.Proofs.YtfpopdneokekiaaGreatDoor

namespace Go.Proofs.YtfpopdneokekiaaGreatDoor
open Go.RowKit
end Go.Proofs.YtfpopdneokekiaaGreatDoor

/-
rosetteref09's plus.
-/
import Derived.Test.YtnpanpkahbcecaaGreatDoorP33
import Derived.Deep.RegionWith
import Derived.Lib.Hide
set_option linter.unusedVariables false
set_option linter.unusedSimpArgs false
namespace Go.Proofs.YtnpanpkahbcecaaGreatDoor
section
namespace Fl
open Ieee
def Pos (x : Nat) : Prop:=rg x < I /\ 0 <= key x
theorem vl_le {x y : Nat} : vl x <= vl y ↔ key x <= key y:=by rw [vl_key,vl_key]; exact V_le_iff
theorem Pos.vl {x : Nat} (h : Pos x) : 0 <= vl x:=by rw [vl_key,<- V_zero]; exact V_le h.2
theorem DirW.exact (k d w : Nat) (hk : k < I) (h : key w = k) (hw : rg w <= I) : DirW true (V k * 2 ^ d) d w:=by
 refine ⟨hw,(k : Int),?_,?_⟩
 ·unfold Dir
  rw [if_pos rfl]
  exact ⟨Int.le_refl _,Int.mul_lt_mul_of_pos_right (V_lt (by omega)) (pow_pos_int d)⟩
 ·rw [h]
  unfold clamp
  rw [if_pos rfl]
  have : (0 : Int) < I:=by decide
  generalize I = i at *
  omega
theorem DirW.nonneg {n : Int} {d w : Nat} (h : DirW true n d w) (hn : 0 <= n) : 0 <= key w:=by
 have h0:=DirW.zero true d 0 (by decide)
 have:=DirW.mono h0 h (.inr rfl) (by rw [Int.zero_mul]; exact Int.mul_nonneg hn (Int.le_of_lt (pow_pos_int d)))
 rwa [show key 0 = 0 by decide] at this
theorem DirW.grow {n m : Int} {d w x : Nat} (h1 : DirW true n d w) (h2 : DirW true m d x) (h : n <= m) : key w <= key x :=
 DirW.mono h1 h2 (.inr rfl) (Int.mul_le_mul_of_nonneg_right h (Int.le_of_lt (pow_pos_int d)))
theorem key_pos_rg {x : Nat} (h : 0 <= key x) : key x = rg x:=by
 unfold key at *
 split
 ·rename_i hs; rw [if_pos hs] at h; omega
 ·rfl
theorem fin_of_le {x y : Nat} (hx : rg x <= I) (h : key x <= key y) (h0 : 0 <= key x) (hy : rg y < I) : rg x < I:=by
 rw [key_pos_rg h0] at h
 have:=(key_fin_range hy).2
 omega
theorem mul_dir {x y s : Nat} (hx : Pos x) (hy : Pos y) (h : Is (mulS x y true) s) : DirW true (vl x * vl y) E s:=by
 obtain ⟨r,h1,h2⟩:=mulS_dir x y true hx.1 hy.1
 rw [h1] at h
 have : s = r:=h
 rw [this]; exact h2
theorem add_dir {x y s : Nat} (wx : x < 2 * W) (wy : y < 2 * W) (hx : Pos x) (hy : Pos y) (h : Is (addS x y true) s) : DirW true (vl x + vl y) 0 s:=by
 have hd:=addF_dir x y true wx wy hx.1 hy.1
 unfold addS at h
 rw [if_pos ⟨hx.1,hy.1⟩] at h
 have : s = addF x y true:=h
 rw [this]; exact hd
theorem prod_mono {a b a' b' : Int} (h0 : 0 <= a) (h1 : 0 <= b) (ha : a <= a') (hb : b <= b') : a * b <= a' * b' :=
 Int.mul_le_mul ha hb h1 (Int.le_trans h0 ha)
theorem least_pos : Pos 103582791429521408:=by unfold Pos; decide
theorem step_pos {x y s X Y S : Nat} (hx : Pos x) (hy : Pos y) (h : Is (mulS x y true) s) (hX : Pos X) (hY : Pos Y) (hS : mulS X Y true = some S) (hf : rg S < I) (h1 : key x <= key X) (h2 : key y <= key Y) : Pos s /\ key s <= key S:=by
 have d1:=mul_dir hx hy h
 have d2 : DirW true (vl X * vl Y) E S:=mul_dir hX hY (by rw [hS]; rfl)
 have k0:=d1.nonneg (Int.mul_nonneg hx.vl hy.vl)
 have k1:=d1.grow d2 (prod_mono hx.vl hy.vl (vl_le.2 h1) (vl_le.2 h2))
 exact ⟨⟨fin_of_le d1.1 k1 k0 hf,k0⟩,k1⟩
theorem step_mono {x y s x' y' s' : Nat} (hx : Pos x) (hy : Pos y) (hx' : Pos x') (hy' : Pos y') (h : Is (mulS x y true) s) (h' : Is (mulS x' y' true) s') (h1 : vl x <= vl x') (h2 : vl y <= vl y') : vl s <= vl s' :=
 vl_le.2 ((mul_dir hx hy h).grow (mul_dir hx' hy' h') (prod_mono hx.vl hy.vl h1 h2))
theorem last_ge {u s : Nat} (wu : u < 2 * W) (hu : Pos u) (h : Is (addS u 103582791429521408 true) s) : key 103582791429521408 <= key s:=by
 have d1:=add_dir wu (by decide) hu least_pos h
 have k : key 103582791429521408 = (103582791429521408 : Nat):=by decide
 have d0:=DirW.exact 103582791429521408 0 103582791429521408 (by decide) k (by decide)
 refine d0.grow d1 ?_
 rw [Int.pow_zero,Int.mul_one,<- k,<- vl_key]
 have:=hu.vl
 omega
theorem last_mono {u s u' s' : Nat} (wu : u < 2 * W) (wu' : u' < 2 * W) (hu : Pos u) (hu' : Pos u') (h : Is (addS u 103582791429521408 true) s) (h' : Is (addS u' 103582791429521408 true) s') (h1 : vl u <= vl u') : key s <= key s' :=
 (add_dir wu (by decide) hu least_pos h).grow (add_dir wu' (by decide) hu' least_pos h') (by omega)
theorem last_fin {u s U S : Nat} (wu : u < 2 * W) (wU : U < 2 * W) (hu : Pos u) (hU : Pos U) (h : Is (addS u 103582791429521408 true) s) (hS : addS U 103582791429521408 true = some S) (hf : rg S < I) (h1 : key u <= key U) : Pos s /\ key s <= key S:=by
 have d1:=add_dir wu (by decide) hu least_pos h
 have d2 : DirW true (vl U + vl 103582791429521408) 0 S:=add_dir wU (by decide) hU least_pos (by rw [hS]; rfl)
 have k0:=d1.nonneg (by have:=hu.vl; have:=least_pos.vl; omega)
 have k1:=d1.grow d2 (by have:=vl_le.2 h1; omega)
 exact ⟨⟨fin_of_le d1.1 k1 k0 hf,k0⟩,k1⟩
end Fl
end
section
open Go.RowKit
theorem z3_0 (s a b : Nat) : z3 s a b 0 = s:=rfl
theorem z3_1 (s a b : Nat) : z3 s a b 1 = a:=rfl
theorem z3_2 (s a b : Nat) : z3 s a b 2 = b:=rfl
theorem Is_some {o : Option Nat} {r s : Nat} (h : Fl.Is o s) (ho : o = some r) : s = r:=by rw [ho] at h; exact h
end
section
open Go.RowKit
end
section
open Go.RowKit
end
section
open Go.RowKit
end
section
open Go.RowKit
end
section
open Go.RowKit
end
section
open Go.RowKit
end
end Go.Proofs.YtnpanpkahbcecaaGreatDoor

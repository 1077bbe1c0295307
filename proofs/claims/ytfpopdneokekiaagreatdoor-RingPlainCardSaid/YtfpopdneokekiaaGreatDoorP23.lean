/-
  Walks: shuffle.turned, shuffle.Order.
  Walks: angle.Near; parts.Turn by a quarter; wheel.even.
  Own rows of complex numbers and of floats.
  Walks: parts' Mul, Add, Sub, Conj.
  Complex floats: sums, differences, products are near (the bits' own functions).
  Floats' sums, differences, products: near, where they are not too great.
  Floats' sums and products as rational numbers: how far they are off.
  The round product as it is told, whole: it lies near n times the round product.
  The round product as it is told: two transforms, place by place, a transform back: how far it is off.
  The transform there, place by place, and back: the round product, nearly.
  Sums of rational complex numbers; nearness by parts; the network with a table of roots is near the sums by definition.
  The errors of a whole transform.
-/
import Derived.Test.YtfpopdneokekiaaGreatDoorP2
import Derived.Test.YtfpopdneokekiaaGreatDoorP20
set_option linter.unusedVariables false
set_option linter.unusedSimpArgs false
namespace Go.Proofs.YtfpopdneokekiaaGreatDoor
open Cx (n2)
end Go.Proofs.YtfpopdneokekiaaGreatDoor

namespace Go.Proofs.YtfpopdneokekiaaGreatDoor
open Cx (n2)
namespace Cx
def one : Cx := ⟨1, 0⟩
def neg (a : Cx) : Cx := ⟨-a.re, -a.im⟩
/-- Near, part by part. -/
def near (z w : Cx) (t : Rat) : Prop := z.re - w.re ≤ t ∧ w.re - z.re ≤ t ∧ z.im - w.im ≤ t ∧ w.im - z.im ≤ t
theorem near.le {z w : Cx} {s t : Rat} (h : near z w s) (hl : s ≤ t) : near z w t := by unfold near at *; grind
theorem near.symm {z w : Cx} {s : Rat} (h : near z w s) : near w z s := by unfold near at *; grind
theorem near.trans {z w v : Cx} {s t : Rat} (h : near z w s) (h2 : near w v t) : near z v (s + t) := by unfold near at *; grind
theorem near.add {z w z' w' : Cx} {s t : Rat} (h : near z w s) (h2 : near z' w' t) : near (add z z') (add w w') (s + t) := by unfold near at *; simp only [Cx.add]; grind
theorem near.neg {z w : Cx} {s : Rat} (h : near z w s) : near (neg z) (neg w) s := by unfold near at *; simp only [Cx.neg]; grind
theorem near.sub {z w z' w' : Cx} {s t : Rat} (h : near z w s) (h2 : near z' w' t) : near (sub z z') (sub w w') (s + t) := by unfold near at *; simp only [Cx.sub]; grind
/-- Both parts at most A. -/
def lim (z : Cx) (A : Rat) : Prop := -A ≤ z.re ∧ z.re ≤ A ∧ -A ≤ z.im ∧ z.im ≤ A
theorem prod_lim {a d A t : Rat} (h1 : -A ≤ a) (h2 : a ≤ A) (h3 : -t ≤ d) (h4 : d ≤ t) : a * d ≤ A * t ∧ -(A * t) ≤ a * d := by
  have hA : 0 ≤ A := by grind
  have ht : 0 ≤ t := by grind
  rcases (Rat.le_total : 0 ≤ a ∨ a ≤ 0) with h | h
  · have k1 := rmul_le h4 h
    have k2 := Rat.mul_le_mul_of_nonneg_right h2 ht
    have k3 := rmul_le h3 h
    grind
  · have ha : 0 ≤ -a := by grind
    have k1 := rmul_le h4 ha
    have k2 := Rat.mul_le_mul_of_nonneg_right (show -a ≤ A by grind) ht
    have k3 := rmul_le h3 ha
    grind
theorem near.mul {z w a : Cx} {A t : Rat} (h : near z w t) (ha : lim a A) : near (mul a z) (mul a w) (2 * A * t) := by
  obtain ⟨n1, n2, n3, n4⟩ := h
  obtain ⟨a1, a2, a3, a4⟩ := ha
  have k1 := prod_lim a1 a2 (show -t ≤ z.re - w.re by grind) n1
  have k2 := prod_lim a1 a2 (show -t ≤ z.im - w.im by grind) n3
  have k3 := prod_lim a3 a4 (show -t ≤ z.re - w.re by grind) n1
  have k4 := prod_lim a3 a4 (show -t ≤ z.im - w.im by grind) n3
  unfold near
  simp only [Cx.mul]
  grind
theorem mul_comm (a b : Cx) : mul a b = mul b a := by apply ext <;> simp only [mul] <;> grind
theorem mul_assoc (a b c : Cx) : mul (mul a b) c = mul a (mul b c) := by apply ext <;> simp only [mul] <;> grind
theorem mul_add (a b c : Cx) : mul a (add b c) = add (mul a b) (mul a c) := by apply ext <;> simp only [mul, add] <;> grind
theorem mul_neg (a b : Cx) : mul a (neg b) = neg (mul a b) := by apply ext <;> simp only [mul, neg] <;> grind
theorem mul_one (a : Cx) : mul a one = a := by apply ext <;> simp only [mul, one] <;> grind
theorem add_comm (a b : Cx) : add a b = add b a := by apply ext <;> simp only [add] <;> grind
theorem add_assoc (a b c : Cx) : add (add a b) c = add a (add b c) := by apply ext <;> simp only [add] <;> grind
theorem mul_zero (a : Cx) : mul a zero = zero := by apply ext <;> simp only [mul, zero] <;> grind
end Cx
/-- Sums over the first n. -/
def sumC : Nat → (Nat → Cx) → Cx
  | 0, _ => Cx.zero
  | n + 1, f => Cx.add (sumC n f) (f n)
/-- The size of both parts together. -/
def ab (a : Rat) : Rat := if 0 ≤ a then a else -a
def s1 (z : Cx) : Rat := ab z.re + ab z.im
/-- A table of roots: n/2 on it is turned about; products are near. -/
structure Tab (n : Nat) (R : Nat → Cx) (tau : Rat) : Prop where
  ptau : 0 ≤ tau
  zero : R 0 = Cx.one
  half : ∀ m, R (m + n / 2) = Cx.neg (R m)
  even : n = n / 2 + n / 2
  lim : ∀ m, Cx.lim (R m) 2
  mul : ∀ a b, Cx.near (R (a + b)) (Cx.mul (R a) (R b)) tau
theorem Tab.period {n : Nat} {R : Nat → Cx} {tau : Rat} (T : Tab n R tau) (m : Nat) : R (m + n) = R m := by
  have e : m + n = (m + n / 2) + n / 2 := by have := T.even; omega
  rw [e, T.half, T.half]
  apply Cx.ext <;> simp only [Cx.neg] <;> grind
theorem Tab.periods {n : Nat} {R : Nat → Cx} {tau : Rat} (T : Tab n R tau) (m c : Nat) : R (m + c * n) = R m := by
  induction c with
  | zero => rw [Nat.zero_mul, Nat.add_zero]
  | succ c ih => rw [Nat.succ_mul, ← Nat.add_assoc, T.period, ih]
theorem Tab.odd {n : Nat} {R : Nat → Cx} {tau : Rat} (T : Tab n R tau) (m c : Nat) : R (m + (2 * c + 1) * (n / 2)) = Cx.neg (R m) := by
  have e : m + (2 * c + 1) * (n / 2) = (m + n / 2) + c * n := by
    have := T.even
    rw [Nat.add_mul, Nat.one_mul, Nat.mul_comm 2 c, Nat.mul_assoc, show 2 * (n / 2) = n by omega]
    omega
  rw [e, T.periods, T.half]
end Go.Proofs.YtfpopdneokekiaaGreatDoor

namespace Go.Proofs.YtfpopdneokekiaaGreatDoor
open Cx (n2)
/-- The round product, by definition. -/
def conv (n : Nat) (x y : Nat → Cx) (i : Nat) : Cx := sumC n (fun p => Cx.mul (x p) (y ((i + n - p) % n)))
end Go.Proofs.YtfpopdneokekiaaGreatDoor

namespace Go.Proofs.YtfpopdneokekiaaGreatDoor
open Cx (n2)
end Go.Proofs.YtfpopdneokekiaaGreatDoor

namespace Go.Proofs.YtfpopdneokekiaaGreatDoor
open Cx (n2)
end Go.Proofs.YtfpopdneokekiaaGreatDoor

namespace Go.Proofs.YtfpopdneokekiaaGreatDoor
open Cx (n2)
namespace Fl
theorem Rnd.near_d {n d r : Nat} (h : Rnd n d r) : 2 * n ≤ (2 * rv r + 2 ^ ex r) * 2 ^ d ∧ 2 * rv r * 2 ^ d ≤ 2 * n + 2 ^ ex r * 2 ^ d := by
  obtain ⟨h1, _, h3, _⟩ := h
  have hs := rv_succ r
  refine ⟨by rw [show 2 * rv r + 2 ^ ex r = rv r + rv (r + 1) by omega]; exact h1, ?_⟩
  rcases Nat.eq_zero_or_pos r with h0 | h0
  · subst h0; rw [rv_zero]; omega
  · have h4 := h3 h0
    have hp := rv_succ (r - 1)
    rw [show r - 1 + 1 = r by omega] at hp
    have h5 : 2 ^ ex (r - 1) ≤ 2 ^ ex r := Nat.pow_le_pow_right (by omega) (ex_le (by omega))
    have h6 : 2 * rv r ≤ (rv (r - 1) + rv r) + 2 ^ ex r := by omega
    have h7 := Nat.mul_le_mul_right (2 ^ d) h6
    rw [Nat.add_mul] at h7
    omega
theorem rv_big {r : Nat} (h : ex r ≠ 0) : B * 2 ^ ex r ≤ rv r := by
  unfold rv
  rcases mant_ge r with h0 | h0
  · exact absurd h0 h
  · exact Nat.mul_le_mul_right _ h0
/-- Off by at most a half of the last digit: of the size, or of the least float. -/
theorem Rnd.rel {n d r : Nat} (h : Rnd n d r) : 2 * B * n ≤ 2 * B * (rv r * 2 ^ d) + (rv r * 2 ^ d + B * 2 ^ d) ∧ 2 * B * (rv r * 2 ^ d) ≤ 2 * B * n + (rv r * 2 ^ d + B * 2 ^ d) := by
  obtain ⟨h1, h2⟩ := h.near_d
  have h3 : B * 2 ^ ex r ≤ rv r + B := by
    by_cases h0 : ex r = 0
    · rw [h0]; omega
    · have := rv_big h0; omega
  have h4 := Nat.mul_le_mul_right (2 ^ d) h3
  have h5 := Nat.mul_le_mul_left B h1
  have h6 := Nat.mul_le_mul_left B h2
  generalize 2 ^ ex r = e at *
  generalize 2 ^ d = D at *
  generalize rv r = v at *
  generalize B = b at *
  constructor <;> grind
end Fl
open Fl
/-- The least float above 0. -/
theorem eta_ex : ∃ e : Rat, 0 < e ∧ e * pw 1074 = 1 := by
  have h : pw 1074 ≠ 0 := by have := pw_pos 1074; grind
  have h1 : (pw 1074)⁻¹ * pw 1074 = 1 := Rat.inv_mul_cancel _ h
  refine ⟨(pw 1074)⁻¹, ?_, h1⟩
  exact Rat.inv_pos.2 (pw_pos 1074)
noncomputable def eta : Rat := Classical.choose eta_ex
/-- 2^1023. -/
noncomputable def top : Rat := ((rv (2046 * B) : Nat) : Rat) * eta
end Go.Proofs.YtfpopdneokekiaaGreatDoor

namespace Go.Proofs.YtfpopdneokekiaaGreatDoor
open Cx (n2)
open Fl
open Ieee
end Go.Proofs.YtfpopdneokekiaaGreatDoor

namespace Go.Proofs.YtfpopdneokekiaaGreatDoor
open Cx (n2)
open Fl
open Ieee
def fa (x y : Nat) : Nat := (double.add x y).getD 0
def fs (x y : Nat) : Nat := (double.sub x y).getD 0
def fm (x y : Nat) : Nat := (double.mul x y).getD 0
def cadd (a b : Nat × Nat) : Nat × Nat := (fa a.1 b.1, fa a.2 b.2)
def csub (a b : Nat × Nat) : Nat × Nat := (fs a.1 b.1, fs a.2 b.2)
def cmul (a b : Nat × Nat) : Nat × Nat := (fs (fm a.1 b.1) (fm a.2 b.2), fa (fm a.1 b.2) (fm a.2 b.1))
end Go.Proofs.YtfpopdneokekiaaGreatDoor

namespace Go.Proofs.YtfpopdneokekiaaGreatDoor
open Go.RowKit
theorem run_cadd (t : TypeId) (a b c d x y : Nat) (h1 : Ieee.double.add a c = some x) (h2 : Ieee.double.add b d = some y) (w : World) : (binOp .add t (.complex .f64 a b) (.complex .f64 c d)).run Tryz.prog w = .ok (.complex .f64 x y) w := by
  simp [binOp, Op.complexOp, Op.Complex.arith, Op.floatArith, h1, h2, FloatKind.format]
theorem run_csub (t : TypeId) (a b c d x y : Nat) (h1 : Ieee.double.sub a c = some x) (h2 : Ieee.double.sub b d = some y) (w : World) : (binOp .sub t (.complex .f64 a b) (.complex .f64 c d)).run Tryz.prog w = .ok (.complex .f64 x y) w := by
  simp [binOp, Op.complexOp, Op.Complex.arith, Op.floatArith, h1, h2, FloatKind.format]
/-- The sum (difference) of two complex numbers is no NaN's. -/
def CAdd (z t : Nat × Nat) : Prop := Ieee.double.add z.1 t.1 = some (cadd z t).1 ∧ Ieee.double.add z.2 t.2 = some (cadd z t).2
def CSub (z t : Nat × Nat) : Prop := Ieee.double.sub z.1 t.1 = some (csub z t).1 ∧ Ieee.double.sub z.2 t.2 = some (csub z t).2
def CMul (z t : Nat × Nat) : Prop := (Ieee.double.mul z.1 t.1 = some (fm z.1 t.1) ∧ Ieee.double.mul z.2 t.2 = some (fm z.2 t.2)) ∧ (Ieee.double.mul z.1 t.2 = some (fm z.1 t.2) ∧ Ieee.double.mul z.2 t.1 = some (fm z.2 t.1)) ∧ Ieee.double.sub (fm z.1 t.1) (fm z.2 t.2) = some (cmul z t).1 ∧ Ieee.double.add (fm z.1 t.2) (fm z.2 t.1) = some (cmul z t).2
theorem padd_any (z t : Nat × Nat) (w : World) (h : CAdd z t) : Calls Tryz.prog 153 #[.complex .f64 z.1 z.2, .complex .f64 t.1 t.2] w fun e w' => e = .returned (.complex .f64 (cadd z t).1 (cadd z t).2) ∧ w = w' := by
  have hr := run_cadd 103 z.1 z.2 t.1 t.2 _ _ h.1 h.2
  go_enter Tryz.func153, Tryz.ntmps153
  go_wp2
  go_ret
  exact ⟨rfl, rfl⟩
theorem psub_any (z t : Nat × Nat) (w : World) (h : CSub z t) : Calls Tryz.prog 154 #[.complex .f64 z.1 z.2, .complex .f64 t.1 t.2] w fun e w' => e = .returned (.complex .f64 (csub z t).1 (csub z t).2) ∧ w = w' := by
  have hr := run_csub 103 z.1 z.2 t.1 t.2 _ _ h.1 h.2
  go_enter Tryz.func154, Tryz.ntmps154
  go_wp2
  go_ret
  exact ⟨rfl, rfl⟩
theorem pmul_any (z t : Nat × Nat) (w : World) (h : CMul z t) : Calls Tryz.prog 63 #[.complex .f64 z.1 z.2, .complex .f64 t.1 t.2] w fun e w' => e = .returned (.complex .f64 (cmul z t).1 (cmul z t).2) ∧ w = w' := by
  obtain ⟨⟨h1, h2⟩, ⟨h3, h4⟩, h5, h6⟩ := h
  have r1 := fun w => run_float_arith (P := Tryz.prog) w .mul 32 .f64 _ _ _ h1
  have r2 := fun w => run_float_arith (P := Tryz.prog) w .mul 32 .f64 _ _ _ h2
  have r3 := fun w => run_float_arith (P := Tryz.prog) w .mul 32 .f64 _ _ _ h3
  have r4 := fun w => run_float_arith (P := Tryz.prog) w .mul 32 .f64 _ _ _ h4
  have r5 := fun w => run_float_arith (P := Tryz.prog) w .sub 32 .f64 _ _ _ h5
  have r6 := fun w => run_float_arith (P := Tryz.prog) w .add 32 .f64 _ _ _ h6
  clear h1 h2 h3 h4 h5 h6
  go_enter Tryz.func63, Tryz.ntmps63
  go_wp2
  go_ret
  exact ⟨rfl, rfl⟩
theorem pconj_any (a b : Nat) (w : World) (hb : b < 2 * Fl.W) : Calls Tryz.prog 115 #[.complex .f64 a b] w fun e w' => e = .returned (.complex .f64 a (Fl.ng b)) ∧ w = w' := by
  have hn : ∀ w, (Op.unary .neg (.float .f64 b)).run Tryz.prog w = .ok (.float .f64 (Fl.ng b)) w := fun w => by
    rw [← Fl.neg_word b hb]; rfl
  go_enter Tryz.func115, Tryz.ntmps115
  go_wp2
  go_ret
  exact ⟨rfl, rfl⟩
end Go.Proofs.YtfpopdneokekiaaGreatDoor

namespace Go.Proofs.YtfpopdneokekiaaGreatDoor
open Go.RowKit
theorem c128_info : (Tryz.prog.info? 103).map (fun i => (i.zero, i.size, i.bytes)) = some (some (.complex .f64 0 0), 1, 16) := by kernel_rfl
theorem f64_info : (Tryz.prog.info? 32).map (fun i => (i.zero, i.size, i.bytes)) = some (some (.float .f64 0), 1, 8) := by kernel_rfl
theorem run_store_complex {P : Program} {w : World} {a : Addr} {m : Mode} (k : FloatKind) (x y : Nat) : (store a (.complex k x y) m).run P w = stored P w a (.complex k x y) m := run_store P w a _ m rfl
def cvv (z : Nat × Nat) : Value := .complex .f64 z.1 z.2
def fvv (x : Nat) : Value := .float .f64 x
/-- An own row of complex numbers. -/
def CRow (w : World) (base g n : Nat) (l : List (Nat × Nat)) : Prop := RowV 103 w base g n n (l.map cvv)
def FRow (w : World) (base g n : Nat) (l : List Nat) : Prop := RowV 32 w base g n n (l.map fvv)
theorem CRow.len {w : World} {base g n : Nat} {l : List (Nat × Nat)} (h : CRow w base g n l) : l.length = n := by have := RowV.len h; simpa using this
theorem FRow.len {w : World} {base g n : Nat} {l : List Nat} (h : FRow w base g n l) : l.length = n := by have := RowV.len h; simpa using this
theorem CRow.cell {w : World} {base g n : Nat} {l : List (Nat × Nat)} (h : CRow w base g n l) (j : Nat) (z : Nat × Nat) (hj : l[j]? = some z) : w.cell? ⟨g, j, none⟩ = some (.complex .f64 z.1 z.2) := RowV.cell h j (cvv z) (by rw [List.getElem?_map, hj]; rfl)
theorem FRow.cell {w : World} {base g n : Nat} {l : List Nat} (h : FRow w base g n l) (j : Nat) (x : Nat) (hj : l[j]? = some x) : w.cell? ⟨g, j, none⟩ = some (.float .f64 x) := RowV.cell h j (fvv x) (by rw [List.getElem?_map, hj]; rfl)
theorem CRow.free {w : World} {base g n : Nat} {l : List (Nat × Nat)} (h : CRow w base g n l) (j : Nat) : w.frozen? ⟨g, j, none⟩ = false := RowV.free h j
theorem FRow.free {w : World} {base g n : Nat} {l : List Nat} (h : FRow w base g n l) (j : Nat) : w.frozen? ⟨g, j, none⟩ = false := RowV.free h j
theorem CRow.set {w : World} {base g n : Nat} {l : List (Nat × Nat)} (h : CRow w base g n l) (j : Nat) (z : Nat × Nat) : CRow (w.setCell ⟨g, j, none⟩ (.complex .f64 z.1 z.2)) base g n (l.set j z) := by
  have := RowV.set h j (cvv z)
  unfold CRow; rw [List.map_set]; exact this
theorem FRow.set {w : World} {base g n : Nat} {l : List Nat} (h : FRow w base g n l) (j : Nat) (x : Nat) : FRow (w.setCell ⟨g, j, none⟩ (.float .f64 x)) base g n (l.set j x) := by
  have := RowV.set h j (fvv x)
  unfold FRow; rw [List.map_set]; exact this
theorem CRow.lt {w : World} {base g n : Nat} {l : List (Nat × Nat)} (h : CRow w base g n l) : base ≤ g ∧ g < w.heap.size := RowV.lt h
theorem FRow.lt {w : World} {base g n : Nat} {l : List Nat} (h : FRow w base g n l) : base ≤ g ∧ g < w.heap.size := RowV.lt h
theorem CRow.drewN {w : World} {base g n : Nat} {l : List (Nat × Nat)} (h : CRow w base g n l) (m : Nat) : CRow (w.drewN m) base g n l := h
theorem FRow.drewN {w : World} {base g n : Nat} {l : List Nat} (h : FRow w base g n l) (m : Nat) : FRow (w.drewN m) base g n l := h
theorem CRow.drew {w : World} {base g n : Nat} {l : List (Nat × Nat)} (h : CRow w base g n l) : CRow w.drew base g n l := h
theorem FRow.drew {w : World} {base g n : Nat} {l : List Nat} (h : FRow w base g n l) : FRow w.drew base g n l := h
theorem CRow.below {w w' : World} {base g n : Nat} {l : List (Nat × Nat)} (h : CRow w base g n l) (hb : Below w.heap.size w w') : CRow w' base g n l := RowV.below h hb
theorem FRow.below {w w' : World} {base g n : Nat} {l : List Nat} (h : FRow w base g n l) (hb : Below w.heap.size w w') : FRow w' base g n l := RowV.below h hb
theorem CRow.base {w : World} {base base' g n : Nat} {l : List (Nat × Nat)} (h : CRow w base g n l) (hb : base' ≤ g) : CRow w base' g n l := RowV.base h hb
theorem FRow.base {w : World} {base base' g n : Nat} {l : List Nat} (h : FRow w base g n l) (hb : base' ≤ g) : FRow w base' g n l := RowV.base h hb
theorem CRow.made {w : World} {base n m : Nat} (h : w.ownsRow base 103 1 (.slice (some ⟨m, 0, none⟩) n n) n (madeCells (Value.complex .f64 0 0).cells (n * 1)).toList) : CRow w base m n (List.replicate n (0, 0)) := by
  have := RowV.made (z := .complex .f64 0 0) rfl h
  unfold CRow; rw [List.map_replicate]; exact this
theorem FRow.made {w : World} {base n m : Nat} (h : w.ownsRow base 32 1 (.slice (some ⟨m, 0, none⟩) n n) n (madeCells (Value.float .f64 0).cells (n * 1)).toList) : FRow w base m n (List.replicate n 0) := by
  have := RowV.made (z := .float .f64 0) rfl h
  unfold FRow; rw [List.map_replicate]; exact this
theorem RowV.setOther {e e' : TypeId} {w : World} {base g n c : Nat} {o : List Value} (h : RowV e w base g n c o) (g' j : Nat) (v : Value) (hg : g' ≠ g) (hb : base ≤ g') : RowV e (w.setCell ⟨g', j, none⟩ v) base g n c o := by
  obtain ⟨h1, h2⟩ := h
  refine ⟨h1, ?_⟩
  rcases h2 with h' | ⟨g0, cap', cur, h', hb', hgg, rest⟩
  · exact .inl h'
  · refine .inr ⟨g0, cap', cur, h', hb', ?_, rest⟩
    have e0 : g = g0 := by injection h' with e1; injection e1 with e1; injection e1
    have e1 : (w.setCell ⟨g', j, none⟩ v).heap[g0]? = w.heap[g0]? := by
      simp only [World.setCell, Array.getElem?_modify]
      rw [if_neg (by omega)]
    rw [e1]
    exact hgg
end Go.Proofs.YtfpopdneokekiaaGreatDoor

namespace Go.Proofs.YtfpopdneokekiaaGreatDoor
open Go.RowKit
/-- What a world holds for package angle. -/
structure AW (P : Nat) (w : World) : Prop where
  tab : TabAt 2 Lib.deBruijn64tab w
  lt : 2 < w.heap.size
  pi : An.piM 164 = some (P : Int)
  small : P < 2 ^ 200
theorem AW.below {P : Nat} {w w' : World} (h : AW P w) (hb : Below w.heap.size w w') : AW P w' := ⟨h.tab.below hb h.lt, Nat.lt_of_lt_of_le h.lt hb.size, h.pi, h.small⟩
theorem amay_any (order : Nat) (w : World) (ho : order ≤ 14) : Calls Tryz.prog 168 #[.int .i64 order] w fun e w' => e = .returned (.bool true) ∧ w = w' := by
  have h1 : (0 : Int) ≤ (order : Int) := by omega
  have h2 : (order : Int) ≤ 14 := by omega
  go_enter Tryz.func168, Tryz.ntmps168
  go_wp2
  go_ret
  exact ⟨rfl, rfl⟩
set_option maxHeartbeats 1000000 in
theorem anear_any (order step P : Nat) (z : Nat × Nat) (w : World) (ho : order ≤ 14) (hs : step ≤ 1048576) (hA : AW P w) (h : An.rootM P order step = some z) :
    Calls Tryz.prog 164 #[.int .i64 order, .int .i64 step] w fun e w' => e = .returned (.tuple #[.complex .f64 z.1 z.2, .int .i64 0]) ∧ Below w.heap.size w w' := by
  obtain ⟨a, b⟩ := z
  unfold An.rootM at h
  split at h
  case h_2 => exact absurd h (by simp)
  rename_i a' b' h1 h2
  simp only [Option.some.injEq, Prod.mk.injEq] at h
  obtain ⟨rfl, rfl⟩ := h
  have H1 := Lib.hid (fun u => reduced_false order step u ho hs)
  have H2 := Lib.hid (fun u => reduced_true order step u ho hs)
  have N1 := Lib.hid (fun u (hu : AW P u) => nearv_any order step P a' false u ho hu.tab hu.lt hu.pi hu.small h1)
  have N2 := Lib.hid (fun u (hu : AW P u) => nearv_any order step P b' true u ho hu.tab hu.lt hu.pi hu.small h2)
  have HA := Lib.hid hA
  clear h1 h2 hA
  go_enter Tryz.func164, Tryz.ntmps164
  go_wp2_with fail
  refine (amay_any order w ho).mono ?_
  rintro e w1 ⟨rfl, rfl⟩
  go_wp2_with fail
  refine (H1.out w).mono ?_
  rintro e w1 ⟨rfl, hb1⟩
  have A1 := Lib.hid (HA.out.below hb1)
  have B1 := Lib.hid hb1
  clear hb1
  go_wp2_with fail
  refine (N1.out w1 A1.out).mono ?_
  rintro e w2 ⟨rfl, hb2⟩
  have A2 := Lib.hid (A1.out.below hb2)
  have B2 := Lib.hid (B1.out.trans (hb2.mono B1.out.size))
  clear hb2 B1 A1
  go_wp2_with fail
  refine (H2.out w2).mono ?_
  rintro e w3 ⟨rfl, hb3⟩
  have A3 := Lib.hid (A2.out.below hb3)
  have B3 := Lib.hid (B2.out.trans (hb3.mono B2.out.size))
  clear hb3 B2 A2
  go_wp2_with fail
  refine (N2.out w3 A3.out).mono ?_
  rintro e w4 ⟨rfl, hb4⟩
  have B4 := Lib.hid (B3.out.trans (hb4.mono B3.out.size))
  clear hb4 B3 A3
  go_wp2
  go_ret2
  exact ⟨rfl, B4.out⟩
theorem pturn_one (a b : Nat) (w : World) (hb : b < 2 * Fl.W) : Calls Tryz.prog 166 #[.complex .f64 a b, .int .i64 1] w fun e w' => e = .returned (.complex .f64 (Fl.ng b) a) ∧ w = w' := by
  have hn : ∀ w, (Op.unary .neg (.float .f64 b)).run Tryz.prog w = .ok (.float .f64 (Fl.ng b)) w := fun w => by
    rw [← Fl.neg_word b hb]; rfl
  go_enter Tryz.func166, Tryz.ntmps166
  go_wp2
  go_ret
  exact ⟨rfl, rfl⟩
theorem even_any (a b x y : Nat) (w : World) (h1 : Ieee.double.add a 0 = some x) (h2 : Ieee.double.add b 0 = some y) : Calls Tryz.prog 165 #[.complex .f64 a b] w fun e w' => e = .returned (.complex .f64 x y) ∧ w = w' := by
  have r1 := fun w => run_float_arith (P := Tryz.prog) w .add 32 .f64 _ _ _ h1
  have r2 := fun w => run_float_arith (P := Tryz.prog) w .add 32 .f64 _ _ _ h2
  clear h1 h2
  go_enter Tryz.func165, Tryz.ntmps165
  go_wp2
  go_ret
  exact ⟨rfl, rfl⟩
end Go.Proofs.YtfpopdneokekiaaGreatDoor

namespace Go.Proofs.YtfpopdneokekiaaGreatDoor
open Go.RowKit
theorem rev_mod : ∀ (L p : Nat), rev L (p % 2 ^ L) = rev L p
  | 0, _ => rfl
  | L + 1, p => by
    have h := rev_mod L (p / 2)
    simp only [rev]
    have e1 : p % 2 ^ (L + 1) % 2 = p % 2 := Nat.mod_mod_of_dvd _ ⟨2 ^ L, by rw [Nat.pow_succ, Nat.mul_comm]⟩
    have e2 : p % 2 ^ (L + 1) / 2 = p / 2 % 2 ^ L := by
      rw [Nat.pow_succ, Nat.mul_comm, Nat.mod_mul_right_div_self]
    rw [e1, e2, h]
theorem rev_add : ∀ (a b p : Nat), rev (a + b) p = rev a p * 2 ^ b + rev b (p / 2 ^ a)
  | 0, b, p => by simp [rev]
  | a + 1, b, p => by
    have h := rev_add a b (p / 2)
    rw [show a + 1 + b = (a + b) + 1 by omega]
    simp only [rev]
    rw [h, Nat.pow_add, Nat.div_div_eq_div_mul, ← Nat.pow_succ', Nat.add_mul, Nat.mul_assoc, Nat.add_assoc]
def nibT : List Nat := [0, 8, 4, 12, 2, 10, 6, 14, 1, 9, 5, 13, 3, 11, 7, 15]
theorem nib_rev : ∀ q < 16, nibT.getD q 0 = rev 4 q := by decide
theorem i64_or16 (a b : Nat) (ha : a < 1099511627776) (hb : b < 16) : bits BinOp.or IntKind.i64 ((a : Int) * 16) (b : Int) = ((a * 16 + b : Nat) : Int) := by
  have h := bits_nat .i64 63 (by decide) (by intro n h0 h1; rw [IntKind.wrap_i64]; omega) (a * 16) b (by omega) (by omega)
  have e : ((a : Int) * 16) = ((a * 16 : Nat) : Int) := by simp
  rw [e, h.2]
  have := Nat.two_pow_add_eq_or_of_lt (i := 4) (b := b) (by omega) a
  rw [show a * 16 + b = 2 ^ 4 * a + b by omega, this]
  congr 2
  omega
theorem rev16_div (order p : Nat) (ho : order ≤ 16) (hp : p < 2 ^ order) : rev 16 p / 2 ^ (16 - order) = rev order p := by
  have h := rev_add order (16 - order) p
  rw [show order + (16 - order) = 16 by omega, Nat.div_eq_of_lt hp] at h
  have h0 : ∀ L, rev L 0 = 0 := fun L => by
    induction L with
    | zero => rfl
    | succ L ih => simp [rev, ih]
  rw [h, h0, Nat.add_zero, Nat.mul_div_cancel _ (Nat.two_pow_pos _)]
set_option maxHeartbeats 1000000 in
theorem turned_any (order p : Nat) (w : World) (ho : order ≤ 14) (hp : p < 2 ^ order) (hT : TabAt 3 nibT w) :
    Calls Tryz.prog 161 #[.int .i64 order, .int .i64 p] w fun e w' => e = .returned (.int .i64 (rev order p : Nat)) ∧ w = w' := by
  have hp2 : p < 16384 := Nat.lt_of_lt_of_le hp (Nat.le_trans (Nat.pow_le_pow_right (by decide) ho) (by decide))
  have hfin := rev16_div order p (by omega) hp
  have HT := Lib.hid hT
  obtain ⟨s, hs⟩ : ∃ s, s = 16 - order := ⟨_, rfl⟩
  rw [← hs] at hfin
  have e1 : IntKind.u64.wrap (order : Int) = (order : Int) := by rw [IntKind.wrap_u64]; omega
  have e2 : IntKind.u64.wrap ((16 : Int) - (order : Int)) = (s : Int) := by rw [IntKind.wrap_u64]; omega
  have hlt := rev_lt 16 p
  obtain ⟨R, hR⟩ : ∃ R, R = rev 16 p := ⟨_, rfl⟩
  rw [← hR] at hfin hlt
  have e3 : ((R : Int) / 2 ^ s) = ((rev order p : Nat) : Int) := by rw [← hfin]; simp
  have e4 : IntKind.i64.wrap ((rev order p : Nat) : Int) = ((rev order p : Nat) : Int) := by
    have h1 := rev_lt order p
    have h2 : 2 ^ order ≤ 2 ^ 14 := Nat.pow_le_pow_right (by decide) ho
    rw [IntKind.wrap_i64]; omega
  obtain ⟨Z, hZ⟩ : ∃ Z, Z = rev order p := ⟨_, rfl⟩
  rw [← hZ] at e3 e4 ⊢
  have hs2 : s ≤ 16 := by omega
  have HR := Lib.hid hR
  clear hs hfin hT hp hR hZ
  go_enter Tryz.func161, Tryz.ntmps161
  go_wp2_with fail
  go_loop [6, 5, 1] (fun iv ov pv => ∃ i : Nat, i ≤ 4 ∧ iv = .int .i64 i ∧ ov = .int .i64 (rev (4 * i) p : Nat) ∧ pv = .int .i64 (p / 2 ^ (4 * i) : Nat)) (fun iv _ _ => 4 - (intOf iv).toNat)
  case atStart => exact ⟨0, by omega, rfl, rfl, by simp⟩
  case round =>
    obtain ⟨i, hi, rfl, rfl, rfl⟩ := hrel
    by_cases hlt2 : i < 4
    · obtain ⟨q, hq⟩ : ∃ q, q = p / 2 ^ (4 * i) := ⟨_, rfl⟩
      have hql : q < 16384 := by rw [hq]; exact Nat.lt_of_le_of_lt (Nat.div_le_self _ _) hp2
      have hra := rev_add (4 * i) 4 p
      have hrl := rev_lt (4 * i) p
      have hrl2 : 2 ^ (4 * i) ≤ 2 ^ 16 := Nat.pow_le_pow_right (by decide) (by omega)
      obtain ⟨a, ha⟩ : ∃ a, a = rev (4 * i) p := ⟨_, rfl⟩
      rw [← hq] at hra ⊢
      rw [← ha] at hra hrl ⊢
      obtain ⟨b, hb⟩ : ∃ b, b = q % 16 := ⟨_, rfl⟩
      have hb16 : b < 16 := by rw [hb]; exact Nat.mod_lt _ (by decide)
      have hm : bits BinOp.and IntKind.i64 (q : Int) 15 = (b : Int) := by
        have := i64_mask q 4 (by omega) (by omega)
        rw [hb]; exact this
      have hcell := HT.out b (show b < 16 from hb16)
      rw [nib_rev b hb16] at hcell
      obtain ⟨y, hy⟩ : ∃ y, y = rev 4 b := ⟨_, rfl⟩
      have hy16 : y < 16 := by rw [hy]; exact rev_lt 4 b
      have hyq : rev 4 q = y := by rw [hy, hb]; exact (rev_mod 4 q).symm
      rw [hyq] at hra
      rw [← hy] at hcell
      have hor := i64_or16 a y (by omega) hy16
      have hw1 : IntKind.i64.wrap ((a : Int) * 16) = (a : Int) * 16 := by rw [IntKind.wrap_i64]; omega
      have hw2 : IntKind.i64.wrap (y : Int) = (y : Int) := by rw [IntKind.wrap_i64]; omega
      obtain ⟨a', ha'⟩ : ∃ a', a' = a * 16 + y := ⟨_, rfl⟩
      rw [← ha'] at hor
      obtain ⟨q', hq'⟩ : ∃ q', q' = q / 16 := ⟨_, rfl⟩
      have hw3 : (q : Int) / 16 = (q' : Int) := by rw [hq']; omega
      have hw4 : IntKind.i64.wrap (q' : Int) = (q' : Int) := by rw [IntKind.wrap_i64]; omega
      have HF1 : Hid (a' = rev (4 * (i + 1)) p) := Lib.hid (by rw [ha', show 4 * (i + 1) = 4 * i + 4 by omega, hra])
      have HF2 : Hid (q' = p / 2 ^ (4 * (i + 1))) := Lib.hid (by rw [hq', hq, Nat.div_div_eq_div_mul, show 4 * (i + 1) = 4 * i + 4 by omega, Nat.pow_add])
      clear ha hra hb hy hyq ha' hq' hrl hq
      go_wp2_with fail
      exact ⟨⟨i + 1, by omega, by go_num, by rw [HF1.out], by rw [HF2.out]⟩, by simp [intOf]; omega⟩
    · obtain rfl : i = 4 := by omega
      have e : rev (4 * 4) p = R := HR.out.symm
      rw [e]
      go_wp2_with fail
      go_ret
      exact ⟨rfl, rfl⟩
end Go.Proofs.YtfpopdneokekiaaGreatDoor

/-
  The network as the code runs it: places turned about, then level by level, in place.
  The transform as a network of levels; its errors, level by level.
  One level of a transform: how errors grow, in squares.
  Rational complex numbers, sums of squares of their sizes, the triangle in squares.
-/
set_option linter.unusedVariables false
set_option linter.unusedSimpArgs false
namespace Go.Proofs.YtfpopdneokekiaaGreatDoor
/-- Rational complex numbers. -/
structure Cx where
  re : Rat
  im : Rat
namespace Cx
def add (a b : Cx) : Cx := ⟨a.re + b.re, a.im + b.im⟩
def sub (a b : Cx) : Cx := ⟨a.re - b.re, a.im - b.im⟩
def mul (a b : Cx) : Cx := ⟨a.re * b.re - a.im * b.im, a.re * b.im + a.im * b.re⟩
def zero : Cx := ⟨0, 0⟩
/-- The size's square. -/
def n2 (a : Cx) : Rat := a.re * a.re + a.im * a.im
theorem ext {a b : Cx} (h1 : a.re = b.re) (h2 : a.im = b.im) : a = b := by cases a; cases b; simp_all
end Cx
theorem rmul_le {a b c : Rat} (h : a ≤ b) (hc : 0 ≤ c) : c * a ≤ c * b := Rat.mul_le_mul_of_nonneg_left h hc
namespace Cx
theorem add_zero (a : Cx) : add a zero = a := by apply ext <;> simp only [add, zero] <;> grind
theorem zero_add (a : Cx) : add zero a = a := by apply ext <;> simp only [add, zero] <;> grind
end Cx
/-- Sums over the first n. -/
def sumN : Nat → (Nat → Rat) → Rat
  | 0, _ => 0
  | n + 1, f => sumN n f + f n
/-- The sum of the sizes' squares. -/
def N2 (n : Nat) (f : Nat → Cx) : Rat := sumN n (fun i => Cx.n2 (f i))
end Go.Proofs.YtfpopdneokekiaaGreatDoor

namespace Go.Proofs.YtfpopdneokekiaaGreatDoor
open Cx (n2)
/-- Two rows as one. -/
def two (n : Nat) (f g : Nat → Cx) : Nat → Cx := fun i => if i < n then f i else g (i - n)
end Go.Proofs.YtfpopdneokekiaaGreatDoor

namespace Go.Proofs.YtfpopdneokekiaaGreatDoor
open Cx (n2)
/-- Every other one, from the first, from the second. -/
def ev {α : Type} (x : Nat → α) : Nat → α := fun i => x (2 * i)
def od {α : Type} (x : Nat → α) : Nat → α := fun i => x (2 * i + 1)
/-- 2 to the power k. -/
def pw : Nat → Rat
  | 0 => 1
  | k + 1 => 2 * pw k
theorem pw_pos : ∀ k, 0 < pw k
  | 0 => by decide
  | k + 1 => by have := pw_pos k; simp only [pw]; grind
/-- How numbers are reckoned with: what is told is near, where it is not too great. -/
structure Near (α : Type) where
  val : α → Cx
  ok : α → Prop
  add : α → α → α
  sub : α → α → α
  mul : α → α → α
  u : Rat
  mu : Rat
  theta : Rat
  big : Rat
  pu : 0 ≤ u
  pmu : 0 ≤ mu
  hadd : ∀ a b, ok a → ok b → n2 (val a) ≤ big → n2 (val b) ≤ big → ok (add a b) ∧ n2 (Cx.sub (val (add a b)) (Cx.add (val a) (val b))) ≤ u * u * n2 (Cx.add (val a) (val b))
  hsub : ∀ a b, ok a → ok b → n2 (val a) ≤ big → n2 (val b) ≤ big → ok (sub a b) ∧ n2 (Cx.sub (val (sub a b)) (Cx.sub (val a) (val b))) ≤ u * u * n2 (Cx.sub (val a) (val b))
  hbig : 2 ≤ big
  hmul : ∀ a b, ok a → ok b → n2 (val a) ≤ big → n2 (val b) ≤ big → n2 (val a) * n2 (val b) ≤ big → ok (mul a b) ∧ n2 (Cx.sub (val (mul a b)) (Cx.mul (val a) (val b))) ≤ mu * mu * (n2 (val a) * n2 (val b)) + theta
end Go.Proofs.YtfpopdneokekiaaGreatDoor

namespace Go.Proofs.YtfpopdneokekiaaGreatDoor
/-- A place's bits turned about. -/
def rev : Nat → Nat → Nat
  | 0, _ => 0
  | L + 1, b => b % 2 * 2 ^ L + rev L (b / 2)
theorem rev_lt : ∀ (L b : Nat), rev L b < 2 ^ L
  | 0, _ => by simp [rev]
  | L + 1, b => by
    have h := rev_lt L (b / 2)
    simp only [rev]
    rw [Nat.pow_succ]
    rcases Nat.mod_two_eq_zero_or_one b with h0 | h0 <;> rw [h0] <;> omega
/-- The row after k levels. -/
def lvl {α : Type} (add sub mul : α → α → α) (W : Nat → Nat → α) (K : Nat) (x : Nat → α) : Nat → Nat → α
  | 0, p => x (rev K p)
  | k + 1, p =>
    if p % 2 ^ (k + 1) < 2 ^ k then add (lvl add sub mul W K x k p) (mul (W k (p % 2 ^ k)) (lvl add sub mul W K x k (p + 2 ^ k)))
    else sub (lvl add sub mul W K x k (p - 2 ^ k)) (mul (W k (p % 2 ^ k)) (lvl add sub mul W K x k p))
end Go.Proofs.YtfpopdneokekiaaGreatDoor

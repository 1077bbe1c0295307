/-
Floats' roots held against the table, by whole numbers that the kernel reckons.
-/
import Derived.Test.YtfpopdneokekiaaGreatDoorF3
import Derived.Lib.Hide
set_option linter.unusedVariables false
set_option linter.unusedSimpArgs false
namespace Go.Proofs.YtfpopdneokekiaaGreatDoor
section
structure Cx where
 re : Rat
 im : Rat
namespace Cx
def add (a b : Cx) : Cx:=⟨a.re + b.re,a.im + b.im⟩
def sub (a b : Cx) : Cx:=⟨a.re - b.re,a.im - b.im⟩
def mul (a b : Cx) : Cx:=⟨a.re * b.re - a.im * b.im,a.re * b.im + a.im * b.re⟩
def conj (a : Cx) : Cx:=⟨a.re,-a.im⟩
def zero : Cx:=⟨0,0⟩
def n2 (a : Cx) : Rat:=a.re * a.re + a.im * a.im
theorem ext {a b : Cx} (h1 : a.re = b.re) (h2 : a.im = b.im) : a = b:=by cases a; cases b; simp_all
theorem n2_mul (a b : Cx) : n2 (mul a b) = n2 a * n2 b:=by simp only [n2,mul]; grind
theorem n2_pair (a b : Cx) : n2 (add a b) + n2 (sub a b) = 2 * (n2 a + n2 b):=by simp only [n2,add,sub]; grind
end Cx
theorem sq_nonneg (a : Rat) : 0 <= a * a:=by
 rcases (Rat.le_total : 0 <= a \/ a <= 0) with h | h
 ·exact Rat.mul_nonneg h h
 ·have h1 : 0 <= -a:=by grind
  have:=Rat.mul_nonneg h1 h1
  grind
theorem rmul_le {a b c : Rat} (h : a <= b) (hc : 0 <= c) : c * a <= c * b:=Rat.mul_le_mul_of_nonneg_left h hc
theorem rdiv_le {a b c : Rat} (hc : 0 < c) (h : c * a <= c * b) : a <= b:=by
 rcases (Rat.le_total : a <= b \/ b <= a) with h1 | h1
 ·exact h1
 ·by_cases h2 : b = a
  ·rw [h2]; exact Rat.le_refl
  ·have h3 : 0 < a - b:=by grind
   have h4:=Rat.mul_pos hc h3
   grind
theorem sq_zero {a : Rat} (h : a * a <= 0) : a = 0:=by
 by_cases h0 : a = 0
 ·exact h0
 ·rcases (Rat.le_total : 0 <= a \/ a <= 0) with h1 | h1
  ·have h2 : 0 < a:=by grind
   have:=Rat.mul_pos h2 h2
   grind
  ·have h2 : 0 < -a:=by grind
   have:=Rat.mul_pos h2 h2
   grind
theorem sq_le {a b : Rat} (ha : 0 <= a) (hb : 0 <= b) (h : a <= b) : a * a <= b * b:=by
 have h1:=rmul_le h ha
 have h2:=rmul_le h hb
 grind
theorem le_of_sq {a b : Rat} (hb : 0 <= b) (h : a * a <= b * b) : a <= b:=by
 rcases (Rat.le_total : a <= b \/ b <= a) with h1 | h1
 ·exact h1
 ·by_cases h2 : a = b
  ·rw [h2]; exact Rat.le_refl
  ·have h3 : 0 < a - b:=by grind
   have h4 : 0 < a + b:=by grind
   have:=Rat.mul_pos h3 h4
   grind
namespace Cx
theorem n2_nonneg (a : Cx) : 0 <= n2 a:=by
 have h1:=sq_nonneg a.re
 have h2:=sq_nonneg a.im
 simp only [n2]; grind
theorem n2_zero {a : Cx} (h : n2 a <= 0) : a = zero:=by
 have h1:=sq_nonneg a.re
 have h2:=sq_nonneg a.im
 simp only [n2] at h
 exact ext (sq_zero (by grind)) (sq_zero (by grind))
theorem n2_tri (a b : Cx) (p q : Rat) : p * q * n2 (add a b) <= (p + q) * (q * n2 a + p * n2 b):=by
 have h1:=sq_nonneg (q * a.re - p * b.re)
 have h2:=sq_nonneg (q * a.im - p * b.im)
 simp only [n2,add]
 grind
theorem add_zero (a : Cx) : add a zero = a:=by apply ext <;> simp only [add,zero] <;> grind
theorem zero_add (a : Cx) : add zero a = a:=by apply ext <;> simp only [add,zero] <;> grind
end Cx
def sumN : Nat -> (Nat -> Rat) -> Rat
 | 0,_=>0
 | n + 1,f=>sumN n f + f n
theorem sumN_congr {n : Nat} {f g : Nat -> Rat} (h : ∀ i,i < n -> f i = g i) : sumN n f = sumN n g:=by
 induction n with
 | zero=>rfl
 | succ n ih=>simp only [sumN]; rw [ih (fun i hi=>h i (by omega)),h n (by omega)]
theorem sumN_le {n : Nat} {f g : Nat -> Rat} (h : ∀ i,i < n -> f i <= g i) : sumN n f <= sumN n g:=by
 induction n with
 | zero=>exact Rat.le_refl
 | succ n ih =>
   have h1:=ih (fun i hi=>h i (by omega))
   have h2:=h n (by omega)
   simp only [sumN]; grind
theorem sumN_add (n : Nat) (f g : Nat -> Rat) : sumN n (fun i=>f i + g i) = sumN n f + sumN n g:=by
 induction n with
 | zero=>simp only [sumN]; grind
 | succ n ih=>simp only [sumN,ih]; grind
theorem sumN_mul (n : Nat) (c : Rat) (f : Nat -> Rat) : sumN n (fun i=>c * f i) = c * sumN n f:=by
 induction n with
 | zero=>simp only [sumN]; grind
 | succ n ih=>simp only [sumN,ih]; grind
theorem sumN_zero (n : Nat) : sumN n (fun _=>0) = 0:=by
 induction n with
 | zero=>rfl
 | succ n ih=>simp only [sumN,ih]; grind
theorem sumN_nonneg {n : Nat} {f : Nat -> Rat} (h : ∀ i,i < n -> 0 <= f i) : 0 <= sumN n f:=by
 have:=sumN_le (n:=n) (f:=fun _=>0) (g:=f) h
 rw [sumN_zero] at this
 exact this
theorem sumN_one {n : Nat} {f : Nat -> Rat} (h : ∀ i,i < n -> 0 <= f i) {j : Nat} (hj : j < n) : f j <= sumN n f:=by
 induction n with
 | zero=>omega
 | succ n ih =>
   simp only [sumN]
   by_cases hjn : j = n
   ·subst hjn
    have:=sumN_nonneg (n:=j) (f:=f) (fun i hi=>h i (by omega))
    grind
   ·have h1:=ih (fun i hi=>h i (by omega)) (by omega)
    have h2:=h n (by omega)
    grind
theorem sumN_split (m k : Nat) (f : Nat -> Rat) : sumN (m + k) f = sumN m f + sumN k (fun i=>f (m + i)):=by
 induction k with
 | zero=>simp only [sumN,Nat.add_zero]; grind
 | succ k ih=>rw [<- Nat.add_assoc]; simp only [sumN,ih]; grind
theorem sumN_even (m : Nat) (f : Nat -> Rat) : sumN (2 * m) f = sumN m (fun i=>f (2 * i)) + sumN m (fun i=>f (2 * i + 1)):=by
 induction m with
 | zero=>simp only [sumN]; grind
 | succ m ih=>rw [show 2 * (m + 1) = 2 * m + 1 + 1 by omega]; simp only [sumN,ih]; grind
def N2 (n : Nat) (f : Nat -> Cx) : Rat:=sumN n (fun i=>Cx.n2 (f i))
theorem N2_nonneg (n : Nat) (f : Nat -> Cx) : 0 <= N2 n f:=sumN_nonneg (fun i _=>Cx.n2_nonneg _)
theorem N2_at {n j : Nat} (f : Nat -> Cx) (hj : j < n) : Cx.n2 (f j) <= N2 n f:=sumN_one (f:=fun i=>Cx.n2 (f i)) (fun i _=>Cx.n2_nonneg _) hj
theorem N2_tri {n : Nat} {f g : Nat -> Cx} {a b R : Rat} (ha : 0 <= a) (hb : 0 <= b) (hR : 0 <= R) (hf : N2 n f <= a * a * R) (hg : N2 n g <= b * b * R) : N2 n (fun i=>Cx.add (f i) (g i)) <= (a + b) * (a + b) * R:=by
 have zero : ∀ (h : Nat -> Cx),N2 n h <= 0 -> ∀ i,i < n -> h i = Cx.zero:=fun h hh i hi=>Cx.n2_zero (Rat.le_trans (N2_at h hi) hh)
 by_cases ha0 : a = 0
 ·subst ha0
  have h1:=zero f (by grind)
  have h2 : N2 n (fun i=>Cx.add (f i) (g i)) = N2 n g:=sumN_congr (fun i hi=>by show Cx.n2 (Cx.add (f i) (g i)) = _; rw [h1 i hi,Cx.zero_add])
  rw [h2]
  grind
 ·by_cases hb0 : b = 0
  ·subst hb0
   have h1:=zero g (by grind)
   have h2 : N2 n (fun i=>Cx.add (f i) (g i)) = N2 n f:=sumN_congr (fun i hi=>by show Cx.n2 (Cx.add (f i) (g i)) = _; rw [h1 i hi,Cx.add_zero])
   rw [h2]
   grind
  ·have pa : 0 < a:=by grind
   have pb : 0 < b:=by grind
   have pab:=Rat.mul_pos pa pb
   have key : a * b * N2 n (fun i=>Cx.add (f i) (g i)) <= (a + b) * (b * N2 n f + a * N2 n g):=by
    unfold N2
    rw [<- sumN_mul,<- sumN_mul,<- sumN_mul,<- sumN_add,<- sumN_mul]
    exact sumN_le (fun i _=>Cx.n2_tri (f i) (g i) a b)
   refine rdiv_le pab (Rat.le_trans key ?_)
   have h1:=rmul_le hf hb
   have h2:=rmul_le hg ha
   have h3 : b * N2 n f + a * N2 n g <= a * b * (a + b) * R:=by grind
   have h4:=rmul_le h3 (show 0 <= a + b by grind)
   grind
end
section
open Cx (n2)
def dif (f g : Nat -> Cx) : Nat -> Cx:=fun i=>Cx.sub (f i) (g i)
theorem Cx.n2_sub_comm (a b : Cx) : n2 (Cx.sub a b) = n2 (Cx.sub b a):=by simp only [n2,Cx.sub]; grind
theorem N2_congr {n : Nat} {f g : Nat -> Cx} (h : ∀ i,i < n -> f i = g i) : N2 n f = N2 n g:=sumN_congr (fun i hi=>by rw [h i hi])
theorem N2_off {n : Nat} {f g : Nat -> Cx} {a b R : Rat} (ha : 0 <= a) (hb : 0 <= b) (hR : 0 <= R) (hg : N2 n g <= a * a * R) (hd : N2 n (dif f g) <= b * b * R) : N2 n f <= (a + b) * (a + b) * R:=by
 have h:=N2_tri ha hb hR hg hd
 have e : N2 n (fun i=>Cx.add (g i) (dif f g i)) = N2 n f:=N2_congr (fun i _=>by apply Cx.ext <;> simp only [dif,Cx.add,Cx.sub] <;> grind)
 rw [e] at h
 exact h
theorem N2_pair (n : Nat) (f g : Nat -> Cx) : N2 n (fun i=>Cx.add (f i) (g i)) + N2 n (fun i=>Cx.sub (f i) (g i)) = 2 * (N2 n f + N2 n g):=by
 unfold N2
 rw [<- sumN_add,<- sumN_add,<- sumN_mul]
 exact sumN_congr (fun i _=>Cx.n2_pair _ _)
theorem N2_scale {n : Nat} {f g : Nat -> Cx} {c : Rat} (h : ∀ i,i < n -> n2 (f i) <= c * n2 (g i)) : N2 n f <= c * N2 n g:=by
 unfold N2
 rw [<- sumN_mul]
 exact sumN_le h
def two (n : Nat) (f g : Nat -> Cx) : Nat -> Cx:=fun i=>if i < n then f i else g (i - n)
theorem N2_two (n : Nat) (f g : Nat -> Cx) : N2 (n + n) (two n f g) = N2 n f + N2 n g:=by
 unfold N2
 rw [sumN_split]
 congr 1
 ·exact sumN_congr (fun i hi=>by simp only [two,if_pos hi])
 ·exact sumN_congr (fun i hi=>by simp only [two]; rw [if_neg (by omega),Nat.add_sub_cancel_left])
theorem two_add (n : Nat) (f g f' g' : Nat -> Cx) : (fun i=>Cx.add (two n f g i) (two n f' g' i)) = two n (fun i=>Cx.add (f i) (f' i)) (fun i=>Cx.add (g i) (g' i)):=by
 funext i
 simp only [two]
 split <;> rfl
theorem two_tri {n : Nat} {f g f' g' : Nat -> Cx} {a b R : Rat} (ha : 0 <= a) (hb : 0 <= b) (hR : 0 <= R) (h1 : N2 n f + N2 n g <= a * a * R) (h2 : N2 n f' + N2 n g' <= b * b * R) :
  N2 n (fun i=>Cx.add (f i) (f' i)) + N2 n (fun i=>Cx.add (g i) (g' i)) <= (a + b) * (a + b) * R:=by
 rw [<- N2_two] at h1 h2
 have h:=N2_tri ha hb hR h1 h2
 rw [two_add,N2_two] at h
 exact h
theorem mul3 {a b c d : Rat} (h : a <= b) (hc : 0 <= c) (hd : 0 <= d) : c * a * d <= c * b * d:=by
 have h1:=rmul_le h hc
 have h2:=rmul_le h1 hd
 grind
theorem level {n : Nat} {e o e' o' t' W C s' d' : Nat -> Cx} {eps gam u mu om rho tau kap theta M Qe Qo e1 : Rat}
  (p1 : 0 <= eps) (p2 : 0 <= gam) (p3 : 0 <= u) (p4 : 0 <= mu) (p5 : 0 <= om) (p6 : 0 <= rho) (p7 : 0 <= tau) (p8 : 0 <= kap) (pM : 0 <= M) (pe : 0 <= Qe) (po : 0 <= Qo)
  (he : N2 n (dif e' e) <= eps * eps * (M * Qe)) (ho : N2 n (dif o' o) <= eps * eps * (M * Qo))
  (ge : N2 n e <= gam * gam * (M * Qe)) (go : N2 n o <= gam * gam * (M * Qo))
  (hW : ∀ i,i < n -> n2 (W i) <= om * om) (hC : ∀ i,i < n -> n2 (C i) <= 1 + tau) (hWC : ∀ i,i < n -> n2 (Cx.sub (W i) (C i)) <= rho * rho)
  (ht : ∀ i,i < n -> n2 (Cx.sub (t' i) (Cx.mul (W i) (o' i))) <= mu * mu * (n2 (W i) * n2 (o' i)) + theta)
  (hth : sumN n (fun _=>theta) <= kap * kap * (M * Qo))
  (hs : ∀ i,i < n -> n2 (Cx.sub (s' i) (Cx.add (e' i) (t' i))) <= u * u * n2 (Cx.add (e' i) (t' i)))
  (hd : ∀ i,i < n -> n2 (Cx.sub (d' i) (Cx.sub (e' i) (t' i))) <= u * u * n2 (Cx.sub (e' i) (t' i)))
  (h1 : e1 = (1 + tau) * eps + ((mu * om + rho) * (gam + eps) + kap)) :
  N2 n (dif s' (fun i=>Cx.add (e i) (Cx.mul (C i) (o i)))) + N2 n (dif d' (fun i=>Cx.sub (e i) (Cx.mul (C i) (o i)))) <=
   (e1 + u * ((1 + tau) * gam + e1)) * (e1 + u * ((1 + tau) * gam + e1)) * (2 * M * (Qe + Qo)):=by
 have pMo:=Rat.mul_nonneg pM po
 have pMe:=Rat.mul_nonneg pM pe
 have pQ : 0 <= M * (Qe + Qo):=by grind
 have pge : 0 <= gam + eps:=by grind
 -- the told half
 have go' : N2 n o' <= (gam + eps) * (gam + eps) * (M * Qo):=N2_off p2 p1 pMo go ho
 -- the product's own error
 have hA : N2 n (dif t' (fun i=>Cx.mul (W i) (o' i))) <= (mu * om * (gam + eps) + kap) * (mu * om * (gam + eps) + kap) * (M * Qo):=by
  have k1 : N2 n (dif t' (fun i=>Cx.mul (W i) (o' i))) <= mu * mu * (om * om) * N2 n o' + sumN n (fun _=>theta):=by
   unfold N2
   rw [<- sumN_mul,<- sumN_add]
   refine sumN_le (fun i hi=>Rat.le_trans (ht i hi) ?_)
   have k2:=mul3 (hW i hi) (sq_nonneg mu) (Cx.n2_nonneg (o' i))
   grind
  have k3:=rmul_le go' (Rat.mul_nonneg (sq_nonneg mu) (sq_nonneg om))
  have k4 : 0 <= mu * om * (gam + eps) * kap * (M * Qo):=Rat.mul_nonneg (Rat.mul_nonneg (Rat.mul_nonneg (Rat.mul_nonneg p4 p5) pge) p8) pMo
  grind
 have hB : N2 n (fun i=>Cx.mul (Cx.sub (W i) (C i)) (o' i)) <= (rho * (gam + eps)) * (rho * (gam + eps)) * (M * Qo):=by
  have k1 : N2 n (fun i=>Cx.mul (Cx.sub (W i) (C i)) (o' i)) <= rho * rho * N2 n o':=N2_scale (fun i hi=>by
   rw [Cx.n2_mul]
   have:=mul3 (hWC i hi) (show (0 : Rat) <= 1 by decide) (Cx.n2_nonneg (o' i))
   grind)
  have k2:=rmul_le go' (sq_nonneg rho)
  grind
 have hCo : N2 n (fun i=>Cx.mul (C i) (dif o' o i)) <= ((1 + tau) * eps) * ((1 + tau) * eps) * (M * Qo):=by
  have k1 : N2 n (fun i=>Cx.mul (C i) (dif o' o i)) <= (1 + tau) * N2 n (dif o' o):=N2_scale (fun i hi=>by
   rw [Cx.n2_mul]
   have:=mul3 (hC i hi) (show (0 : Rat) <= 1 by decide) (Cx.n2_nonneg (dif o' o i))
   grind)
  have k2:=rmul_le ho (show 0 <= 1 + tau by grind)
  have k3 : 0 <= tau * (1 + tau) * (eps * eps * (M * Qo)):=Rat.mul_nonneg (Rat.mul_nonneg p7 (by grind)) (Rat.mul_nonneg (sq_nonneg eps) pMo)
  grind
 have pa : 0 <= mu * om * (gam + eps) + kap:=by have:=Rat.mul_nonneg (Rat.mul_nonneg p4 p5) pge; grind
 have pb : 0 <= rho * (gam + eps):=Rat.mul_nonneg p6 pge
 have hAB:=N2_tri pa pb pMo hA hB
 -- both halves' errors at once
 have hte : N2 n (fun i=>Cx.add (dif e' e i) Cx.zero) + N2 n (fun i=>Cx.add (Cx.mul (C i) (dif o' o i)) (Cx.add (dif t' (fun i=>Cx.mul (W i) (o' i)) i) (Cx.mul (Cx.sub (W i) (C i)) (o' i)))) <= e1 * e1 * (M * (Qe + Qo)):=by
  have q1 : 0 <= (1 + tau) * eps:=Rat.mul_nonneg (by grind) p1
  have q2 : 0 <= (mu * om + rho) * (gam + eps) + kap:=by grind
  have e2 : (mu * om * (gam + eps) + kap) + rho * (gam + eps) = (mu * om + rho) * (gam + eps) + kap:=by grind
  rw [e2] at hAB
  rw [h1]
  refine two_tri q1 q2 pQ ?_ ?_
  ·have k3 : 0 <= (tau * tau + 2 * tau) * (eps * eps * (M * Qe)):=Rat.mul_nonneg (by have:=sq_nonneg tau; grind) (Rat.mul_nonneg (sq_nonneg eps) pMe)
   grind
  ·have z : N2 n (fun _=>Cx.zero) = 0:=by
    unfold N2
    rw [show (fun i : Nat=>n2 Cx.zero) = (fun _=>(0 : Rat)) from funext (fun _=>by simp only [n2,Cx.zero]; grind),sumN_zero]
   rw [z]
   have k4 : 0 <= ((mu * om + rho) * (gam + eps) + kap) * ((mu * om + rho) * (gam + eps) + kap) * (M * Qe):=Rat.mul_nonneg (sq_nonneg _) pMe
   grind
 have pe1 : 0 <= e1:=by
  rw [h1]
  have q1 : 0 <= (1 + tau) * eps:=Rat.mul_nonneg (by grind) p1
  grind
 have E1 : N2 n (fun i=>Cx.add (dif e' e i) Cx.zero) = N2 n (dif e' e):=N2_congr (fun i _=>Cx.add_zero _)
 have E2 : N2 n (fun i=>Cx.add (Cx.mul (C i) (dif o' o i)) (Cx.add (dif t' (fun i=>Cx.mul (W i) (o' i)) i) (Cx.mul (Cx.sub (W i) (C i)) (o' i)))) = N2 n (dif t' (fun i=>Cx.mul (C i) (o i))):=N2_congr (fun i _=>by apply Cx.ext <;> simp only [dif,Cx.add,Cx.sub,Cx.mul] <;> grind)
 rw [E1,E2] at hte
 -- the exact sums
 have hex : N2 n (fun i=>Cx.add (e i) (Cx.mul (C i) (o i))) + N2 n (fun i=>Cx.sub (e i) (Cx.mul (C i) (o i))) <= ((1 + tau) * gam) * ((1 + tau) * gam) * (2 * M * (Qe + Qo)):=by
  rw [N2_pair]
  have k1 : N2 n (fun i=>Cx.mul (C i) (o i)) <= (1 + tau) * N2 n o:=N2_scale (fun i hi=>by
   rw [Cx.n2_mul]
   have:=mul3 (hC i hi) (show (0 : Rat) <= 1 by decide) (Cx.n2_nonneg (o i))
   grind)
  have k2:=rmul_le go (show 0 <= 1 + tau by grind)
  have k3 : 0 <= (tau * tau + 2 * tau) * (gam * gam * (M * Qe)):=Rat.mul_nonneg (by have:=sq_nonneg tau; grind) (Rat.mul_nonneg (sq_nonneg gam) pMe)
  have k4 : 0 <= (tau * tau + tau) * (gam * gam * (M * Qo)):=Rat.mul_nonneg (by have:=sq_nonneg tau; grind) (Rat.mul_nonneg (sq_nonneg gam) pMo)
  grind
 -- the told sums before rounding
 have hraw : N2 n (dif (fun i=>Cx.add (e' i) (t' i)) (fun i=>Cx.add (e i) (Cx.mul (C i) (o i)))) + N2 n (dif (fun i=>Cx.sub (e' i) (t' i)) (fun i=>Cx.sub (e i) (Cx.mul (C i) (o i)))) <= e1 * e1 * (2 * M * (Qe + Qo)):=by
  have k1:=N2_pair n (dif e' e) (dif t' (fun i=>Cx.mul (C i) (o i)))
  have E3 : N2 n (dif (fun i=>Cx.add (e' i) (t' i)) (fun i=>Cx.add (e i) (Cx.mul (C i) (o i)))) = N2 n (fun i=>Cx.add (dif e' e i) (dif t' (fun i=>Cx.mul (C i) (o i)) i)):=N2_congr (fun i _=>by apply Cx.ext <;> simp only [dif,Cx.add,Cx.sub,Cx.mul] <;> grind)
  have E4 : N2 n (dif (fun i=>Cx.sub (e' i) (t' i)) (fun i=>Cx.sub (e i) (Cx.mul (C i) (o i)))) = N2 n (fun i=>Cx.sub (dif e' e i) (dif t' (fun i=>Cx.mul (C i) (o i)) i)):=N2_congr (fun i _=>by apply Cx.ext <;> simp only [dif,Cx.add,Cx.sub,Cx.mul] <;> grind)
  rw [E3,E4,k1]
  grind
 have p2Q : 0 <= 2 * M * (Qe + Qo):=by grind
 have pg : 0 <= (1 + tau) * gam:=Rat.mul_nonneg (by grind) p2
 have htold : N2 n (fun i=>Cx.add (e' i) (t' i)) + N2 n (fun i=>Cx.sub (e' i) (t' i)) <= ((1 + tau) * gam + e1) * ((1 + tau) * gam + e1) * (2 * M * (Qe + Qo)):=by
  have h:=two_tri pg pe1 p2Q hex hraw
  have E5 : N2 n (fun i=>Cx.add (Cx.add (e i) (Cx.mul (C i) (o i))) (dif (fun i=>Cx.add (e' i) (t' i)) (fun i=>Cx.add (e i) (Cx.mul (C i) (o i))) i)) = N2 n (fun i=>Cx.add (e' i) (t' i)):=N2_congr (fun i _=>by apply Cx.ext <;> simp only [dif,Cx.add,Cx.sub,Cx.mul] <;> grind)
  have E6 : N2 n (fun i=>Cx.add (Cx.sub (e i) (Cx.mul (C i) (o i))) (dif (fun i=>Cx.sub (e' i) (t' i)) (fun i=>Cx.sub (e i) (Cx.mul (C i) (o i))) i)) = N2 n (fun i=>Cx.sub (e' i) (t' i)):=N2_congr (fun i _=>by apply Cx.ext <;> simp only [dif,Cx.add,Cx.sub,Cx.mul] <;> grind)
  rw [E5,E6] at h
  exact h
 have hround : N2 n (dif s' (fun i=>Cx.add (e' i) (t' i))) + N2 n (dif d' (fun i=>Cx.sub (e' i) (t' i))) <= (u * ((1 + tau) * gam + e1)) * (u * ((1 + tau) * gam + e1)) * (2 * M * (Qe + Qo)):=by
  have k1 : N2 n (dif s' (fun i=>Cx.add (e' i) (t' i))) <= u * u * N2 n (fun i=>Cx.add (e' i) (t' i)):=N2_scale hs
  have k2 : N2 n (dif d' (fun i=>Cx.sub (e' i) (t' i))) <= u * u * N2 n (fun i=>Cx.sub (e' i) (t' i)):=N2_scale hd
  have k3:=rmul_le htold (sq_nonneg u)
  grind
 have pu : 0 <= u * ((1 + tau) * gam + e1):=Rat.mul_nonneg p3 (by grind)
 have h:=two_tri pe1 pu p2Q hraw hround
 have E7 : N2 n (fun i=>Cx.add (dif (fun i=>Cx.add (e' i) (t' i)) (fun i=>Cx.add (e i) (Cx.mul (C i) (o i))) i) (dif s' (fun i=>Cx.add (e' i) (t' i)) i)) = N2 n (dif s' (fun i=>Cx.add (e i) (Cx.mul (C i) (o i)))):=N2_congr (fun i _=>by apply Cx.ext <;> simp only [dif,Cx.add,Cx.sub,Cx.mul] <;> grind)
 have E8 : N2 n (fun i=>Cx.add (dif (fun i=>Cx.sub (e' i) (t' i)) (fun i=>Cx.sub (e i) (Cx.mul (C i) (o i))) i) (dif d' (fun i=>Cx.sub (e' i) (t' i)) i)) = N2 n (dif d' (fun i=>Cx.sub (e i) (Cx.mul (C i) (o i)))):=N2_congr (fun i _=>by apply Cx.ext <;> simp only [dif,Cx.add,Cx.sub,Cx.mul] <;> grind)
 rw [E7,E8] at h
 exact h
end
section
open Cx (n2)
def ev {α : Type} (x : Nat -> α) : Nat -> α:=fun i=>x (2 * i)
def od {α : Type} (x : Nat -> α) : Nat -> α:=fun i=>x (2 * i + 1)
def net {α : Type} (add sub mul : α -> α -> α) (W : Nat -> Nat -> α) : Nat -> (Nat -> α) -> Nat -> α
 | 0,x,_=>x 0
 | k + 1,x,j =>
   if j < 2 ^ k then add (net add sub mul W k (ev x) j) (mul (W k j) (net add sub mul W k (od x) j))
   else sub (net add sub mul W k (ev x) (j - 2 ^ k)) (mul (W k (j - 2 ^ k)) (net add sub mul W k (od x) (j - 2 ^ k)))
def netC (C : Nat -> Nat -> Cx) : Nat -> (Nat -> Cx) -> Nat -> Cx:=net Cx.add Cx.sub Cx.mul C
def pw : Nat -> Rat
 | 0=>1
 | k + 1=>2 * pw k
theorem pw_pos : ∀ k,0 < pw k
 | 0=>by decide
 | k + 1=>by have:=pw_pos k; simp only [pw]; grind
theorem pw_one : ∀ k,1 <= pw k
 | 0=>by decide
 | k + 1=>by have:=pw_one k; simp only [pw]; grind
theorem sumN_const (c : Rat) : ∀ k : Nat,sumN (2 ^ k) (fun _=>c) = pw k * c
 | 0=>by simp only [Nat.pow_zero,sumN,pw]; grind
 | k + 1=>by rw [Nat.pow_succ,Nat.mul_two,sumN_split,sumN_const c k]; simp only [pw]; grind
def Qf (phi : Rat) (k : Nat) (x : Nat -> Cx) : Rat:=N2 (2 ^ k) x + pw k * phi
theorem Qf_next (phi : Rat) (k : Nat) (x : Nat -> Cx) : Qf phi (k + 1) x = Qf phi k (ev x) + Qf phi k (od x):=by
 unfold Qf N2
 rw [Nat.pow_succ,Nat.mul_comm,sumN_even]
 simp only [pw,ev,od]
 grind
theorem Qf_nonneg {phi : Rat} (hp : 0 <= phi) (k : Nat) (x : Nat -> Cx) : 0 <= Qf phi k x:=by
 have h1:=N2_nonneg (2 ^ k) x
 have h2:=Rat.mul_nonneg (Rat.le_of_lt (pw_pos k)) hp
 unfold Qf; grind
theorem Qf_floor {phi : Rat} (hp : 0 <= phi) (k : Nat) (x : Nat -> Cx) : phi <= Qf phi k x:=by
 have h1:=N2_nonneg (2 ^ k) x
 have h2:=rmul_le (pw_one k) hp
 unfold Qf; grind
structure Near (α : Type) where
 val : α -> Cx
 ok : α -> Prop
 add : α -> α -> α
 sub : α -> α -> α
 mul : α -> α -> α
 u : Rat
 mu : Rat
 theta : Rat
 big : Rat
 pu : 0 <= u
 pmu : 0 <= mu
 hadd : ∀ a b,ok a -> ok b -> n2 (val a) <= big -> n2 (val b) <= big -> ok (add a b) /\ n2 (Cx.sub (val (add a b)) (Cx.add (val a) (val b))) <= u * u * n2 (Cx.add (val a) (val b))
 hsub : ∀ a b,ok a -> ok b -> n2 (val a) <= big -> n2 (val b) <= big -> ok (sub a b) /\ n2 (Cx.sub (val (sub a b)) (Cx.sub (val a) (val b))) <= u * u * n2 (Cx.sub (val a) (val b))
 hbig : 2 <= big
 hmul : ∀ a b,ok a -> ok b -> n2 (val a) <= big -> n2 (val b) <= big -> n2 (val a) * n2 (val b) <= big -> ok (mul a b) /\ n2 (Cx.sub (val (mul a b)) (Cx.mul (val a) (val b))) <= mu * mu * (n2 (val a) * n2 (val b)) + theta
theorem netC_low {C : Nat -> Nat -> Cx} {k : Nat} {x : Nat -> Cx} {j : Nat} (hj : j < 2 ^ k) : netC C (k + 1) x j = Cx.add (netC C k (ev x) j) (Cx.mul (C k j) (netC C k (od x) j)):=by
 unfold netC; rw [net,if_pos hj]
theorem netC_high {C : Nat -> Nat -> Cx} {k : Nat} {x : Nat -> Cx} (j : Nat) : netC C (k + 1) x (2 ^ k + j) = Cx.sub (netC C k (ev x) j) (Cx.mul (C k j) (netC C k (od x) j)):=by
 unfold netC; rw [net,if_neg (by omega),Nat.add_sub_cancel_left]
def gamK (tau : Rat) : Nat -> Rat
 | 0=>1
 | k + 1=>(1 + tau) * gamK tau k
theorem gamK_pos {tau : Rat} (h : 0 <= tau) : ∀ k,1 <= gamK tau k
 | 0=>Rat.le_refl
 | k + 1=>by
   have h1:=gamK_pos h k
   have h2:=rmul_le h1 h
   simp only [gamK]; grind
theorem netC_size {C : Nat -> Nat -> Cx} {tau : Rat} (ht : 0 <= tau) {kmax : Nat} (hC : ∀ k j,k < kmax -> j < 2 ^ k -> n2 (C k j) <= 1 + tau) : ∀ k,k <= kmax -> ∀ x : Nat -> Cx,N2 (2 ^ k) (netC C k x) <= gamK tau k * gamK tau k * (pw k * N2 (2 ^ k) x)
 | 0,_,x=>by
   have : N2 (2 ^ 0) (netC C 0 x) = N2 (2 ^ 0) x:=N2_congr (fun i hi=>by
    have : i = 0:=by omega
    subst this; rfl)
   rw [this]
   simp only [gamK,pw]; grind
 | k + 1,hk,x=>by
   have h1:=netC_size ht hC k (by omega) (ev x)
   have h2:=netC_size ht hC k (by omega) (od x)
   have e1 : N2 (2 ^ (k + 1)) (netC C (k + 1) x) = N2 (2 ^ k) (fun j=>Cx.add (netC C k (ev x) j) (Cx.mul (C k j) (netC C k (od x) j))) + N2 (2 ^ k) (fun j=>Cx.sub (netC C k (ev x) j) (Cx.mul (C k j) (netC C k (od x) j))):=by
    unfold N2
    rw [Nat.pow_succ,Nat.mul_two,sumN_split]
    congr 1
    ·exact sumN_congr (fun i hi=>by rw [netC_low hi])
    ·exact sumN_congr (fun i hi=>by rw [netC_high i])
   have e2 : N2 (2 ^ (k + 1)) x = N2 (2 ^ k) (ev x) + N2 (2 ^ k) (od x):=by
    unfold N2
    rw [Nat.pow_succ,Nat.mul_comm,sumN_even]; rfl
   rw [e1,N2_pair,e2]
   have k1 : N2 (2 ^ k) (fun j=>Cx.mul (C k j) (netC C k (od x) j)) <= (1 + tau) * N2 (2 ^ k) (netC C k (od x)):=N2_scale (fun i hi=>by
    rw [Cx.n2_mul]
    have:=mul3 (hC k i (by omega) hi) (show (0 : Rat) <= 1 by decide) (Cx.n2_nonneg (netC C k (od x) i))
    grind)
   have k2:=rmul_le h2 (show 0 <= 1 + tau by grind)
   have pe:=Rat.mul_nonneg (Rat.le_of_lt (pw_pos k)) (N2_nonneg (2 ^ k) (ev x))
   have po:=Rat.mul_nonneg (Rat.le_of_lt (pw_pos k)) (N2_nonneg (2 ^ k) (od x))
   have k3 : 0 <= (tau * tau + 2 * tau) * (gamK tau k * gamK tau k * (pw k * N2 (2 ^ k) (ev x))):=Rat.mul_nonneg (by have:=sq_nonneg tau; grind) (Rat.mul_nonneg (sq_nonneg _) pe)
   have k4 : 0 <= (tau * tau + tau) * (gamK tau k * gamK tau k * (pw k * N2 (2 ^ k) (od x))):=Rat.mul_nonneg (by have:=sq_nonneg tau; grind) (Rat.mul_nonneg (sq_nonneg _) po)
   simp only [gamK,pw]
   grind
end
section
open Cx (n2)
structure Roots {α : Type} (N : Near α) (W : Nat -> Nat -> α) (C : Nat -> Nat -> Cx) (kmax : Nat) where
 om : Rat
 rho : Rat
 tau : Rat
 kap : Rat
 phi : Rat
 eps : Nat -> Rat
 pom : 0 <= om
 prho : 0 <= rho
 ptau : 0 <= tau
 pkap : 0 <= kap
 pphi : 0 <= phi
 peps : ∀ k,k <= kmax -> 0 <= eps k
 pth : 0 <= N.theta
 lom : om * om <= 2
 lmu : N.mu <= 1
 lkap : kap <= 1
 lge : ∀ k,k <= kmax -> gamK tau k + eps k <= 2
 hth : N.theta <= kap * kap * phi
 hW : ∀ k j,k < kmax -> j < 2 ^ k -> N.ok (W k j) /\ n2 (N.val (W k j)) <= om * om /\ n2 (Cx.sub (N.val (W k j)) (C k j)) <= rho * rho
 hC : ∀ k j,k < kmax -> j < 2 ^ k -> n2 (C k j) <= 1 + tau
 step : ∀ k,k < kmax -> ((1 + tau) * eps k + ((N.mu * om + rho) * (gamK tau k + eps k) + kap)) + N.u * ((1 + tau) * gamK tau k + ((1 + tau) * eps k + ((N.mu * om + rho) * (gamK tau k + eps k) + kap))) <= eps (k + 1)
theorem n2_two (a b : Cx) : n2 (Cx.add a b) <= 2 * (n2 a + n2 b):=by
 have:=Cx.n2_tri a b 1 1
 grind
theorem net_err {α : Type} {N : Near α} {W : Nat -> Nat -> α} {C : Nat -> Nat -> Cx} {kmax : Nat} (R : Roots N W C kmax) : ∀ k,k <= kmax -> ∀ x : Nat -> α,(∀ i,i < 2 ^ k -> N.ok (x i)) -> 40 * (pw k * Qf R.phi k (fun i=>N.val (x i))) <= N.big ->
  (∀ j,j < 2 ^ k -> N.ok (net N.add N.sub N.mul W k x j)) /\ N2 (2 ^ k) (dif (fun j=>N.val (net N.add N.sub N.mul W k x j)) (netC C k (fun i=>N.val (x i)))) <= R.eps k * R.eps k * (pw k * Qf R.phi k (fun i=>N.val (x i)))
 | 0,_,x,hx,hbig=>by
   refine ⟨fun j hj=>by rw [net]; exact hx 0 (by decide),?_⟩
   have e : N2 (2 ^ 0) (dif (fun j=>N.val (net N.add N.sub N.mul W 0 x j)) (netC C 0 (fun i=>N.val (x i)))) = 0:=by
    have : ∀ j : Nat,dif (fun j=>N.val (net N.add N.sub N.mul W 0 x j)) (netC C 0 (fun i=>N.val (x i))) j = Cx.zero:=fun j=>by
     unfold netC
     simp only [dif,net]
     apply Cx.ext <;> simp only [Cx.sub,Cx.zero] <;> grind
    unfold N2
    rw [sumN_congr (g:=fun _=>0) (fun i _=>by rw [this i]; simp only [n2,Cx.zero]; grind),sumN_zero]
   rw [e]
   exact Rat.mul_nonneg (sq_nonneg _) (Rat.mul_nonneg (Rat.le_of_lt (pw_pos 0)) (Qf_nonneg R.pphi 0 _))
 | k + 1,hk,x,hx,hbig=>by
   have hxe : ∀ i,i < 2 ^ k -> N.ok (ev x i):=fun i hi=>hx _ (by rw [Nat.pow_succ]; omega)
   have hxo : ∀ i,i < 2 ^ k -> N.ok (od x i):=fun i hi=>hx _ (by rw [Nat.pow_succ]; omega)
   obtain ⟨M,hM⟩ : ∃ M,M = pw k:=⟨_,rfl⟩
   have pM : 0 < M:=by rw [hM]; exact pw_pos k
   have lM : 1 <= M:=by rw [hM]; exact pw_one k
   obtain ⟨Qe,hQe⟩ : ∃ Q,Q = Qf R.phi k (fun i=>N.val (ev x i)):=⟨_,rfl⟩
   obtain ⟨Qo,hQo⟩ : ∃ Q,Q = Qf R.phi k (fun i=>N.val (od x i)):=⟨_,rfl⟩
   have pQe : 0 <= Qe:=by rw [hQe]; exact Qf_nonneg R.pphi k _
   have pQo : 0 <= Qo:=by rw [hQo]; exact Qf_nonneg R.pphi k _
   have hQ : Qf R.phi (k + 1) (fun i=>N.val (x i)) = Qe + Qo:=by rw [hQe,hQo]; exact Qf_next _ _ _
   have hpw : pw (k + 1) = 2 * M:=by rw [hM]; rfl
   rw [hQ,hpw] at hbig ⊢
   have pMe:=Rat.mul_nonneg (Rat.le_of_lt pM) pQe
   have pMo:=Rat.mul_nonneg (Rat.le_of_lt pM) pQo
   have IHe:=net_err R k (by omega) (ev x) hxe (by rw [<- hM,<- hQe]; grind)
   have IHo:=net_err R k (by omega) (od x) hxo (by rw [<- hM,<- hQo]; grind)
   rw [<- hM,<- hQe] at IHe
   rw [<- hM,<- hQo] at IHo
   obtain ⟨oke,he⟩:=IHe
   obtain ⟨oko,ho⟩:=IHo
   obtain ⟨e',he'⟩ : ∃ e',e' = net N.add N.sub N.mul W k (ev x):=⟨_,rfl⟩
   obtain ⟨o',ho'⟩ : ∃ o',o' = net N.add N.sub N.mul W k (od x):=⟨_,rfl⟩
   obtain ⟨e,hee⟩ : ∃ e,e = netC C k (fun i=>N.val (ev x i)):=⟨_,rfl⟩
   obtain ⟨o,hoo⟩ : ∃ o,o = netC C k (fun i=>N.val (od x i)):=⟨_,rfl⟩
   rw [<- he'] at oke he
   rw [<- ho'] at oko ho
   rw [<- hee] at he
   rw [<- hoo] at ho
   have gpos:=gamK_pos R.ptau k
   have epos:=R.peps k (by omega)
   have ge : N2 (2 ^ k) e <= gamK R.tau k * gamK R.tau k * (M * Qe):=by
    have h1:=netC_size R.ptau R.hC k (by omega) (fun i=>N.val (ev x i))
    rw [<- hee,<- hM] at h1
    have h2 : N2 (2 ^ k) (fun i=>N.val (ev x i)) <= Qe:=by
     have:=Rat.mul_nonneg (Rat.le_of_lt (pw_pos k)) R.pphi
     rw [hQe]; unfold Qf; grind
    have h3:=rmul_le (rmul_le h2 (Rat.le_of_lt pM)) (sq_nonneg (gamK R.tau k))
    exact Rat.le_trans h1 h3
   have go : N2 (2 ^ k) o <= gamK R.tau k * gamK R.tau k * (M * Qo):=by
    have h1:=netC_size R.ptau R.hC k (by omega) (fun i=>N.val (od x i))
    rw [<- hoo,<- hM] at h1
    have h2 : N2 (2 ^ k) (fun i=>N.val (od x i)) <= Qo:=by
     have:=Rat.mul_nonneg (Rat.le_of_lt (pw_pos k)) R.pphi
     rw [hQo]; unfold Qf; grind
    have h3:=rmul_le (rmul_le h2 (Rat.le_of_lt pM)) (sq_nonneg (gamK R.tau k))
    exact Rat.le_trans h1 h3
   have pge : 0 <= gamK R.tau k + R.eps k:=by grind
   have four : (gamK R.tau k + R.eps k) * (gamK R.tau k + R.eps k) <= 4:=by
    have:=sq_le pge (show (0 : Rat) <= 2 by decide) (R.lge k (by omega))
    grind
   have be : ∀ j,j < 2 ^ k -> n2 (N.val (e' j)) <= 4 * (M * Qe):=fun j hj=>by
    have h1:=N2_off (by grind) epos pMe ge he
    have h2:=N2_at (fun j=>N.val (e' j)) hj
    have h3:=Rat.mul_le_mul_of_nonneg_right four pMe
    grind
   have bo : ∀ j,j < 2 ^ k -> n2 (N.val (o' j)) <= 4 * (M * Qo):=fun j hj=>by
    have h1:=N2_off (by grind) epos pMo go ho
    have h2:=N2_at (fun j=>N.val (o' j)) hj
    have h3:=Rat.mul_le_mul_of_nonneg_right four pMo
    grind
   have hW:=fun j (hj : j < 2 ^ k)=>R.hW k j (by omega) hj
   obtain ⟨t',ht'⟩ : ∃ t' : Nat -> α,t' = fun j=>N.mul (W k j) (o' j):=⟨_,rfl⟩
   have hmul : ∀ j,j < 2 ^ k -> N.ok (t' j) /\ n2 (Cx.sub (N.val (t' j)) (Cx.mul (N.val (W k j)) (N.val (o' j)))) <= N.mu * N.mu * (n2 (N.val (W k j)) * n2 (N.val (o' j))) + N.theta:=fun j hj=>by
    rw [ht']
    have h1:=Rat.le_trans (hW j hj).2.1 R.lom
    have h2:=Rat.mul_le_mul_of_nonneg_right h1 (Cx.n2_nonneg (N.val (o' j)))
    exact N.hmul _ _ (hW j hj).1 (oko j hj) (Rat.le_trans h1 N.hbig) (by have:=bo j hj; grind) (by have:=bo j hj; grind)
   have thl : N.theta <= M * Qo:=by
    have h1:=R.hth
    have h2:=sq_le R.pkap (show (0 : Rat) <= 1 by decide) R.lkap
    have h3:=Rat.mul_le_mul_of_nonneg_right h2 R.pphi
    have h4 : R.phi <= Qo:=by rw [hQo]; exact Qf_floor R.pphi k _
    have h5:=Rat.mul_le_mul_of_nonneg_right lM pQo
    grind
   have bt : ∀ j,j < 2 ^ k -> n2 (N.val (t' j)) <= 34 * (M * Qo):=fun j hj=>by
    have h1:=n2_two (Cx.mul (N.val (W k j)) (N.val (o' j))) (Cx.sub (N.val (t' j)) (Cx.mul (N.val (W k j)) (N.val (o' j))))
    have e1 : Cx.add (Cx.mul (N.val (W k j)) (N.val (o' j))) (Cx.sub (N.val (t' j)) (Cx.mul (N.val (W k j)) (N.val (o' j)))) = N.val (t' j):=by apply Cx.ext <;> simp only [Cx.add,Cx.sub] <;> grind
    rw [e1,Cx.n2_mul] at h1
    have h2:=(hmul j hj).2
    have h3:=Rat.le_trans (hW j hj).2.1 R.lom
    have h4:=Rat.mul_le_mul_of_nonneg_right h3 (Cx.n2_nonneg (N.val (o' j)))
    have h5:=bo j hj
    have h6:=sq_le N.pmu (show (0 : Rat) <= 1 by decide) R.lmu
    have h7:=Rat.mul_le_mul_of_nonneg_right h6 (Rat.mul_nonneg (Cx.n2_nonneg (N.val (W k j))) (Cx.n2_nonneg (N.val (o' j))))
    grind
   have hadd : ∀ j,j < 2 ^ k -> N.ok (N.add (e' j) (t' j)) /\ n2 (Cx.sub (N.val (N.add (e' j) (t' j))) (Cx.add (N.val (e' j)) (N.val (t' j)))) <= N.u * N.u * n2 (Cx.add (N.val (e' j)) (N.val (t' j))):=fun j hj =>
    N.hadd _ _ (oke j hj) (hmul j hj).1 (by have:=be j hj; grind) (by have:=bt j hj; grind)
   have hsub : ∀ j,j < 2 ^ k -> N.ok (N.sub (e' j) (t' j)) /\ n2 (Cx.sub (N.val (N.sub (e' j) (t' j))) (Cx.sub (N.val (e' j)) (N.val (t' j)))) <= N.u * N.u * n2 (Cx.sub (N.val (e' j)) (N.val (t' j))):=fun j hj =>
    N.hsub _ _ (oke j hj) (hmul j hj).1 (by have:=be j hj; grind) (by have:=bt j hj; grind)
   have low : ∀ j,j < 2 ^ k -> net N.add N.sub N.mul W (k + 1) x j = N.add (e' j) (t' j):=fun j hj=>by rw [net,if_pos hj,he',ht',ho']
   have high : ∀ j,j < 2 ^ k -> net N.add N.sub N.mul W (k + 1) x (2 ^ k + j) = N.sub (e' j) (t' j):=fun j hj=>by rw [net,if_neg (by omega),Nat.add_sub_cancel_left,he',ht',ho']
   refine ⟨fun j hj=>?_,?_⟩
   ·by_cases hl : j < 2 ^ k
    ·rw [low j hl]; exact (hadd j hl).1
    ·obtain ⟨i,rfl⟩ : ∃ i,j = 2 ^ k + i:=⟨j - 2 ^ k,by omega⟩
     have hi : i < 2 ^ k:=by rw [Nat.pow_succ] at hj; omega
     rw [high i hi]; exact (hsub i hi).1
   ·have hlev:=level (n:=2 ^ k) (e:=e) (o:=o) (e':=fun j=>N.val (e' j)) (o':=fun j=>N.val (o' j)) (t':=fun j=>N.val (t' j)) (W:=fun j=>N.val (W k j)) (C:=C k) (s':=fun j=>N.val (N.add (e' j) (t' j))) (d':=fun j=>N.val (N.sub (e' j) (t' j)))
     epos (show 0 <= gamK R.tau k by grind) N.pu N.pmu R.pom R.prho R.ptau R.pkap (Rat.le_of_lt pM) pQe pQo he ho ge go (fun i hi=>(hW i hi).2.1) (fun i hi=>R.hC k i (by omega) hi) (fun i hi=>(hW i hi).2.2) (fun i hi=>(hmul i hi).2)
     (by
      rw [sumN_const,<- hM]
      have h1:=rmul_le R.hth (Rat.le_of_lt pM)
      have h4 : R.phi <= Qo:=by rw [hQo]; exact Qf_floor R.pphi k _
      have h5:=rmul_le (rmul_le h4 (sq_nonneg R.kap)) (Rat.le_of_lt pM)
      grind) (fun i hi=>(hadd i hi).2) (fun i hi=>(hsub i hi).2) rfl
    have e1 : N2 (2 ^ (k + 1)) (dif (fun j=>N.val (net N.add N.sub N.mul W (k + 1) x j)) (netC C (k + 1) (fun i=>N.val (x i)))) = N2 (2 ^ k) (dif (fun j=>N.val (N.add (e' j) (t' j))) (fun i=>Cx.add (e i) (Cx.mul (C k i) (o i)))) + N2 (2 ^ k) (dif (fun j=>N.val (N.sub (e' j) (t' j))) (fun i=>Cx.sub (e i) (Cx.mul (C k i) (o i)))):=by
     unfold N2
     rw [Nat.pow_succ,Nat.mul_two,sumN_split]
     congr 1
     ·exact sumN_congr (fun i hi=>by simp only [dif]; rw [low i hi,netC_low hi,hee,hoo]; rfl)
     ·exact sumN_congr (fun i hi=>by simp only [dif]; rw [high i hi,netC_high i,hee,hoo]; rfl)
    rw [e1]
    refine Rat.le_trans hlev ?_
    have st:=R.step k (by omega)
    have ps : 0 <= ((1 + R.tau) * R.eps k + ((N.mu * R.om + R.rho) * (gamK R.tau k + R.eps k) + R.kap)) + N.u * ((1 + R.tau) * gamK R.tau k + ((1 + R.tau) * R.eps k + ((N.mu * R.om + R.rho) * (gamK R.tau k + R.eps k) + R.kap))):=by
     have q0 : 0 <= 1 + R.tau:=by have:=R.ptau; grind
     have q1:=Rat.mul_nonneg q0 epos
     have q2:=Rat.mul_nonneg (show 0 <= N.mu * R.om + R.rho by have:=Rat.mul_nonneg N.pmu R.pom; have:=R.prho; grind) pge
     have q3:=Rat.mul_nonneg q0 (show 0 <= gamK R.tau k by grind)
     have q4:=R.pkap
     have q5:=Rat.mul_nonneg N.pu (show 0 <= (1 + R.tau) * gamK R.tau k + ((1 + R.tau) * R.eps k + ((N.mu * R.om + R.rho) * (gamK R.tau k + R.eps k) + R.kap)) by grind)
     grind
    have h1:=sq_le ps (R.peps (k + 1) (by omega)) st
    exact Rat.mul_le_mul_of_nonneg_right h1 (show 0 <= 2 * M * (Qe + Qo) by grind)
end
section
open Cx (n2)
namespace Cx
def one : Cx:=⟨1,0⟩
def neg (a : Cx) : Cx:=⟨-a.re,-a.im⟩
def near (z w : Cx) (t : Rat) : Prop:=z.re - w.re <= t /\ w.re - z.re <= t /\ z.im - w.im <= t /\ w.im - z.im <= t
theorem near_refl (z : Cx) : near z z 0:=by unfold near; grind
theorem near.le {z w : Cx} {s t : Rat} (h : near z w s) (hl : s <= t) : near z w t:=by unfold near at *; grind
theorem near.symm {z w : Cx} {s : Rat} (h : near z w s) : near w z s:=by unfold near at *; grind
theorem near.trans {z w v : Cx} {s t : Rat} (h : near z w s) (h2 : near w v t) : near z v (s + t):=by unfold near at *; grind
theorem near.add {z w z' w' : Cx} {s t : Rat} (h : near z w s) (h2 : near z' w' t) : near (add z z') (add w w') (s + t):=by unfold near at *; simp only [Cx.add]; grind
theorem near.neg {z w : Cx} {s : Rat} (h : near z w s) : near (neg z) (neg w) s:=by unfold near at *; simp only [Cx.neg]; grind
def lim (z : Cx) (A : Rat) : Prop:=-A <= z.re /\ z.re <= A /\ -A <= z.im /\ z.im <= A
theorem prod_lim {a d A t : Rat} (h1 : -A <= a) (h2 : a <= A) (h3 : -t <= d) (h4 : d <= t) : a * d <= A * t /\ -(A * t) <= a * d:=by
 have hA : 0 <= A:=by grind
 have ht : 0 <= t:=by grind
 rcases (Rat.le_total : 0 <= a \/ a <= 0) with h | h
 ·have k1:=rmul_le h4 h
  have k2:=Rat.mul_le_mul_of_nonneg_right h2 ht
  have k3:=rmul_le h3 h
  grind
 ·have ha : 0 <= -a:=by grind
  have k1:=rmul_le h4 ha
  have k2:=Rat.mul_le_mul_of_nonneg_right (show -a <= A by grind) ht
  have k3:=rmul_le h3 ha
  grind
theorem near.mul {z w a : Cx} {A t : Rat} (h : near z w t) (ha : lim a A) : near (mul a z) (mul a w) (2 * A * t):=by
 obtain ⟨n1,n2,n3,n4⟩:=h
 obtain ⟨a1,a2,a3,a4⟩:=ha
 have k1:=prod_lim a1 a2 (show -t <= z.re - w.re by grind) n1
 have k2:=prod_lim a1 a2 (show -t <= z.im - w.im by grind) n3
 have k3:=prod_lim a3 a4 (show -t <= z.re - w.re by grind) n1
 have k4:=prod_lim a3 a4 (show -t <= z.im - w.im by grind) n3
 unfold near
 simp only [Cx.mul]
 grind
theorem mul_comm (a b : Cx) : mul a b = mul b a:=by apply ext <;> simp only [mul] <;> grind
theorem mul_assoc (a b c : Cx) : mul (mul a b) c = mul a (mul b c):=by apply ext <;> simp only [mul] <;> grind
theorem mul_add (a b c : Cx) : mul a (add b c) = add (mul a b) (mul a c):=by apply ext <;> simp only [mul,add] <;> grind
theorem mul_neg (a b : Cx) : mul a (neg b) = neg (mul a b):=by apply ext <;> simp only [mul,neg] <;> grind
theorem mul_one (a : Cx) : mul a one = a:=by apply ext <;> simp only [mul,one] <;> grind
theorem add_comm (a b : Cx) : add a b = add b a:=by apply ext <;> simp only [add] <;> grind
theorem add_assoc (a b c : Cx) : add (add a b) c = add a (add b c):=by apply ext <;> simp only [add] <;> grind
theorem add_neg (a b : Cx) : add a (neg b) = sub a b:=by apply ext <;> simp only [add,neg,sub] <;> grind
theorem mul_zero (a : Cx) : mul a zero = zero:=by apply ext <;> simp only [mul,zero] <;> grind
end Cx
def sumC : Nat -> (Nat -> Cx) -> Cx
 | 0,_=>Cx.zero
 | n + 1,f=>Cx.add (sumC n f) (f n)
theorem sumC_congr {n : Nat} {f g : Nat -> Cx} (h : ∀ i,i < n -> f i = g i) : sumC n f = sumC n g:=by
 induction n with
 | zero=>rfl
 | succ n ih=>simp only [sumC]; rw [ih (fun i hi=>h i (by omega)),h n (by omega)]
theorem sumC_add (n : Nat) (f g : Nat -> Cx) : sumC n (fun i=>Cx.add (f i) (g i)) = Cx.add (sumC n f) (sumC n g):=by
 induction n with
 | zero=>simp only [sumC]; rw [Cx.add_zero]
 | succ n ih=>simp only [sumC,ih]; apply Cx.ext <;> simp only [Cx.add] <;> grind
theorem sumC_mul (n : Nat) (c : Cx) (f : Nat -> Cx) : sumC n (fun i=>Cx.mul c (f i)) = Cx.mul c (sumC n f):=by
 induction n with
 | zero=>simp only [sumC]; rw [Cx.mul_zero]
 | succ n ih=>simp only [sumC,ih]; rw [Cx.mul_add]
theorem sumC_neg (n : Nat) (f : Nat -> Cx) : sumC n (fun i=>Cx.neg (f i)) = Cx.neg (sumC n f):=by
 induction n with
 | zero=>simp only [sumC]; apply Cx.ext <;> simp only [Cx.neg,Cx.zero] <;> grind
 | succ n ih=>simp only [sumC,ih]; apply Cx.ext <;> simp only [Cx.neg,Cx.add] <;> grind
theorem sumC_zero (n : Nat) : sumC n (fun _=>Cx.zero) = Cx.zero:=by
 induction n with
 | zero=>rfl
 | succ n ih=>simp only [sumC,ih]; rw [Cx.add_zero]
theorem sumC_even (m : Nat) (f : Nat -> Cx) : sumC (2 * m) f = Cx.add (sumC m (fun i=>f (2 * i))) (sumC m (fun i=>f (2 * i + 1))):=by
 induction m with
 | zero=>simp only [sumC]; rw [Cx.add_zero]
 | succ m ih=>rw [show 2 * (m + 1) = 2 * m + 1 + 1 by omega]; simp only [sumC,ih]; apply Cx.ext <;> simp only [Cx.add] <;> grind
theorem sumC_split (m k : Nat) (f : Nat -> Cx) : sumC (m + k) f = Cx.add (sumC m f) (sumC k (fun i=>f (m + i))):=by
 induction k with
 | zero=>simp only [sumC,Nat.add_zero]; rw [Cx.add_zero]
 | succ k ih=>rw [<- Nat.add_assoc]; simp only [sumC,ih]; rw [Cx.add_assoc]
theorem sumC_swap (m n : Nat) (f : Nat -> Nat -> Cx) : sumC m (fun i=>sumC n (fun j=>f i j)) = sumC n (fun j=>sumC m (fun i=>f i j)):=by
 induction m with
 | zero=>simp only [sumC]; rw [sumC_zero]
 | succ m ih=>simp only [sumC]; rw [ih,<- sumC_add]
theorem sumC_near {n : Nat} {f g : Nat -> Cx} {t : Nat -> Rat} (h : ∀ i,i < n -> Cx.near (f i) (g i) (t i)) : Cx.near (sumC n f) (sumC n g) (sumN n t):=by
 induction n with
 | zero=>exact Cx.near_refl _
 | succ n ih=>simp only [sumC,sumN]; exact (ih (fun i hi=>h i (by omega))).add (h n (by omega))
def ab (a : Rat) : Rat:=if 0 <= a then a else -a
theorem ab_le (a : Rat) : a <= ab a /\ -a <= ab a /\ 0 <= ab a:=by
 unfold ab
 split <;> grind
def s1 (z : Cx) : Rat:=ab z.re + ab z.im
theorem s1_nonneg (z : Cx) : 0 <= s1 z:=by
 have:=(ab_le z.re).2.2
 have:=(ab_le z.im).2.2
 unfold s1; grind
theorem near_s1 {z w a : Cx} {t : Rat} (h : Cx.near z w t) : Cx.near (Cx.mul a z) (Cx.mul a w) (s1 a * t):=by
 obtain ⟨n1,n2,n3,n4⟩:=h
 have r:=ab_le a.re
 have i:=ab_le a.im
 have k1:=Cx.prod_lim (show -(ab a.re) <= a.re by grind) r.1 (show -t <= z.re - w.re by grind) n1
 have k2:=Cx.prod_lim (show -(ab a.re) <= a.re by grind) r.1 (show -t <= z.im - w.im by grind) n3
 have k3:=Cx.prod_lim (show -(ab a.im) <= a.im by grind) i.1 (show -t <= z.re - w.re by grind) n1
 have k4:=Cx.prod_lim (show -(ab a.im) <= a.im by grind) i.1 (show -t <= z.im - w.im by grind) n3
 unfold Cx.near s1
 simp only [Cx.mul]
 grind
def X1 (k : Nat) (x : Nat -> Cx) : Rat:=sumN (2 ^ k) (fun i=>s1 (x i))
theorem X1_nonneg (k : Nat) (x : Nat -> Cx) : 0 <= X1 k x:=sumN_nonneg (fun i _=>s1_nonneg _)
theorem X1_next (k : Nat) (x : Nat -> Cx) : X1 (k + 1) x = X1 k (ev x) + X1 k (od x):=by
 unfold X1
 rw [Nat.pow_succ,Nat.mul_comm,sumN_even]; rfl
structure Tab (n : Nat) (R : Nat -> Cx) (tau : Rat) : Prop where
 ptau : 0 <= tau
 zero : R 0 = Cx.one
 half : ∀ m,R (m + n / 2) = Cx.neg (R m)
 even : n = n / 2 + n / 2
 lim : ∀ m,Cx.lim (R m) 2
 mul : ∀ a b,Cx.near (R (a + b)) (Cx.mul (R a) (R b)) tau
theorem Tab.period {n : Nat} {R : Nat -> Cx} {tau : Rat} (T : Tab n R tau) (m : Nat) : R (m + n) = R m:=by
 have e : m + n = (m + n / 2) + n / 2:=by have:=T.even; omega
 rw [e,T.half,T.half]
 apply Cx.ext <;> simp only [Cx.neg] <;> grind
theorem Tab.periods {n : Nat} {R : Nat -> Cx} {tau : Rat} (T : Tab n R tau) (m c : Nat) : R (m + c * n) = R m:=by
 induction c with
 | zero=>rw [Nat.zero_mul,Nat.add_zero]
 | succ c ih=>rw [Nat.succ_mul,<- Nat.add_assoc,T.period,ih]
theorem Tab.odd {n : Nat} {R : Nat -> Cx} {tau : Rat} (T : Tab n R tau) (m c : Nat) : R (m + (2 * c + 1) * (n / 2)) = Cx.neg (R m):=by
 have e : m + (2 * c + 1) * (n / 2) = (m + n / 2) + c * n:=by
  have:=T.even
  rw [Nat.add_mul,Nat.one_mul,Nat.mul_comm 2 c,Nat.mul_assoc,show 2 * (n / 2) = n by omega]
  omega
 rw [e,T.periods,T.half]
def dft (R : Nat -> Cx) (k s : Nat) (x : Nat -> Cx) (j : Nat) : Cx:=sumC (2 ^ k) (fun i=>Cx.mul (x i) (R (i * j * s)))
theorem dft_next (R : Nat -> Cx) (k s : Nat) (x : Nat -> Cx) (j : Nat) : dft R (k + 1) s x j = Cx.add (dft R k (2 * s) (ev x) j) (sumC (2 ^ k) (fun i=>Cx.mul (od x i) (R ((2 * i + 1) * j * s)))):=by
 unfold dft
 rw [Nat.pow_succ,Nat.mul_comm (2 ^ k) 2,sumC_even]
 congr 1
 exact sumC_congr (fun i _=>by
  show Cx.mul (x (2 * i)) _ = Cx.mul (x (2 * i)) _
  rw [show 2 * i * j * s = i * j * (2 * s) by rw [Nat.mul_assoc 2 i j,Nat.mul_comm 2 (i * j),Nat.mul_assoc]])
def lev (R : Nat -> Cx) (K : Nat) : Nat -> Nat -> Cx:=fun k j=>R (j * 2 ^ (K - 1 - k))
def tk (tau : Rat) : Nat -> Rat
 | 0=>0
 | k + 1=>4 * tk tau k + tau
theorem tk_pos {tau : Rat} (h : 0 <= tau) : ∀ k,0 <= tk tau k
 | 0=>Rat.le_refl
 | k + 1=>by have:=tk_pos h k; simp only [tk]; grind
theorem net_dft {K : Nat} {R : Nat -> Cx} {tau : Rat} (T : Tab (2 ^ K) R tau) : ∀ k,k <= K -> ∀ (x : Nat -> Cx) (j : Nat),j < 2 ^ k -> Cx.near (netC (lev R K) k x j) (dft R k (2 ^ (K - k)) x j) (tk tau k * X1 k x)
 | 0,_,x,j,hj=>by
   have h0 : j = 0:=by omega
   subst h0
   have e : dft R 0 (2 ^ (K - 0)) x 0 = netC (lev R K) 0 x 0:=by
    unfold dft netC
    rw [net,Nat.pow_zero]
    simp only [sumC,Nat.zero_mul]
    rw [T.zero,Cx.mul_one,Cx.zero_add]
   rw [e]
   exact (Cx.near_refl _).le (by simp only [tk]; grind)
 | k + 1,hk,x,j,hj=>by
   have hs : 2 ^ (K - k) = 2 * 2 ^ (K - (k + 1)):=by rw [<- Nat.pow_succ',show (K - (k + 1)).succ = K - k by omega]
   have hhalf : 2 ^ k * 2 ^ (K - (k + 1)) = 2 ^ K / 2:=by
    rw [<- Nat.pow_add,show k + (K - (k + 1)) = K - 1 by omega]
    have : 2 ^ K = 2 ^ (K - 1) * 2:=by rw [<- Nat.pow_succ,show (K - 1).succ = K by omega]
    omega
   obtain ⟨s,hs0⟩ : ∃ s,s = 2 ^ (K - (k + 1)):=⟨_,rfl⟩
   rw [<- hs0] at hs hhalf ⊢
   have pt:=tk_pos T.ptau k
   have pe:=X1_nonneg k (ev x)
   have po:=X1_nonneg k (od x)
   -- the second half of the sum
   have second : ∀ i,i < 2 ^ k -> Cx.near (Cx.mul (R (i * s)) (netC (lev R K) k (od x) i)) (sumC (2 ^ k) (fun p=>Cx.mul (od x p) (R ((2 * p + 1) * i * s)))) (4 * (tk tau k * X1 k (od x)) + tau * X1 k (od x)):=fun i hi=>by
    have h1:=(net_dft T k (by omega) (od x) i hi).mul (T.lim (i * s))
    have h2 : Cx.near (Cx.mul (R (i * s)) (dft R k (2 ^ (K - k)) (od x) i)) (sumC (2 ^ k) (fun p=>Cx.mul (od x p) (R ((2 * p + 1) * i * s)))) (tau * X1 k (od x)):=by
     unfold dft
     rw [<- sumC_mul]
     have h3:=sumC_near (n:=2 ^ k) (f:=fun p=>Cx.mul (R (i * s)) (Cx.mul (od x p) (R (p * i * 2 ^ (K - k))))) (g:=fun p=>Cx.mul (od x p) (R ((2 * p + 1) * i * s))) (t:=fun p=>tau * s1 (od x p)) (fun p _=>by
      have e1 : Cx.mul (R (i * s)) (Cx.mul (od x p) (R (p * i * 2 ^ (K - k)))) = Cx.mul (od x p) (Cx.mul (R (i * s)) (R (p * i * 2 ^ (K - k)))):=by
       rw [<- Cx.mul_assoc,Cx.mul_comm (R (i * s)) (od x p),Cx.mul_assoc]
      have e2 : (2 * p + 1) * i * s = i * s + p * i * 2 ^ (K - k):=by
       rw [hs,Nat.add_mul,Nat.add_mul,Nat.one_mul,Nat.add_comm]
       congr 1
       rw [Nat.mul_assoc 2 p i,Nat.mul_comm 2 (p * i),Nat.mul_assoc]
      rw [e1,e2]
      have h4:=near_s1 (a:=od x p) (T.mul (i * s) (p * i * 2 ^ (K - k))).symm
      exact h4.le (by grind))
     rw [sumN_mul] at h3
     exact h3
    exact (h1.trans h2).le (by grind)
   rw [dft_next,X1_next]
   by_cases hl : j < 2 ^ k
   ·rw [netC_low hl]
    have h1:=net_dft T k (by omega) (ev x) j hl
    rw [hs] at h1
    have h2:=second j hl
    have e : lev R K k j = R (j * s):=by unfold lev; rw [hs0,show K - 1 - k = K - (k + 1) by omega]
    rw [e]
    exact (h1.add h2).le (by
     have:=Rat.mul_nonneg pt pe
     have:=Rat.mul_nonneg T.ptau pe
     simp only [tk]; grind)
   ·obtain ⟨i,rfl⟩ : ∃ i,j = 2 ^ k + i:=⟨j - 2 ^ k,by omega⟩
    have hi : i < 2 ^ k:=by rw [Nat.pow_succ] at hj; omega
    rw [netC_high]
    have e : lev R K k i = R (i * s):=by unfold lev; rw [hs0,show K - 1 - k = K - (k + 1) by omega]
    have h1:=net_dft T k (by omega) (ev x) i hi
    rw [hs] at h1
    have h2:=(second i hi).neg
    have e1 : dft R k (2 * s) (ev x) (2 ^ k + i) = dft R k (2 * s) (ev x) i:=by
     unfold dft
     refine sumC_congr (fun p _=>?_)
     congr 1
     have e2 : p * (2 ^ k + i) * (2 * s) = p * i * (2 * s) + p * 2 ^ K:=by
      have e3 : 2 ^ k * (2 * s) = 2 ^ K:=by
       have : 2 ^ K = 2 ^ K / 2 + 2 ^ K / 2:=T.even
       rw [Nat.mul_left_comm,hhalf]; omega
      rw [Nat.mul_add,Nat.add_mul,Nat.mul_assoc p (2 ^ k),e3,Nat.add_comm]
     rw [e2,T.periods]
    have e2 : sumC (2 ^ k) (fun p=>Cx.mul (od x p) (R ((2 * p + 1) * (2 ^ k + i) * s))) = Cx.neg (sumC (2 ^ k) (fun p=>Cx.mul (od x p) (R ((2 * p + 1) * i * s)))):=by
     rw [<- sumC_neg]
     refine sumC_congr (fun p _=>?_)
     have e3 : (2 * p + 1) * (2 ^ k + i) * s = (2 * p + 1) * i * s + (2 * p + 1) * (2 ^ K / 2):=by
      rw [Nat.mul_add,Nat.add_mul,Nat.mul_assoc (2 * p + 1) (2 ^ k) s,hhalf,Nat.add_comm]
     rw [e3,T.odd,Cx.mul_neg]
    rw [e1,e2,e,<- Cx.add_neg]
    exact (h1.add h2).le (by
     have:=Rat.mul_nonneg pt pe
     have:=Rat.mul_nonneg T.ptau pe
     simp only [tk]; grind)
end
section
open Cx (n2)
theorem odd_part : ∀ (K m : Nat),m % 2 ^ K ≠ 0 -> ∃ v c,v < K /\ m = 2 ^ v * (2 * c + 1)
 | 0,m,h=>absurd (Nat.mod_one m) h
 | K + 1,m,h=>by
   by_cases ho : m % 2 = 1
   ·exact ⟨0,m / 2,by omega,by rw [Nat.pow_zero]; omega⟩
   ·obtain ⟨q,rfl⟩ : ∃ q,m = 2 * q:=⟨m / 2,by omega⟩
    have hq : q % 2 ^ K ≠ 0:=fun h0=>h (by rw [Nat.pow_succ,Nat.mul_comm (2 ^ K) 2,Nat.mul_mod_mul_left,h0])
    obtain ⟨v,c,hv,e⟩:=odd_part K q hq
    exact ⟨v + 1,c,by omega,by rw [e,Nat.pow_succ,Nat.mul_comm (2 ^ v) 2,Nat.mul_assoc]⟩
theorem sum_turns (h : Nat) (f : Nat -> Cx) (hf : ∀ j,f (j + h) = Cx.neg (f j)) : ∀ c,sumC (c * (h + h)) f = Cx.zero
 | 0=>by rw [Nat.zero_mul]; rfl
 | c + 1=>by
   rw [Nat.succ_mul,sumC_split,sum_turns h f hf c,Cx.zero_add,sumC_split]
   have e : sumC h (fun i=>f (c * (h + h) + (h + i))) = Cx.neg (sumC h (fun i=>f (c * (h + h) + i))):=by
    rw [<- sumC_neg]
    exact sumC_congr (fun i _=>by rw [<- hf]; congr 1; omega)
   rw [e]
   apply Cx.ext <;> simp only [Cx.add,Cx.neg,Cx.zero] <;> grind
theorem sumC_const (c : Cx) : ∀ n : Nat,sumC n (fun _=>c) = Cx.mul ⟨(n : Rat),0⟩ c
 | 0=>by simp only [sumC]; apply Cx.ext <;> simp only [Cx.mul,Cx.zero] <;> grind
 | n + 1=>by
   simp only [sumC]
   rw [sumC_const c n]
   apply Cx.ext <;> simp only [Cx.mul,Cx.add] <;> grind
theorem orth {K : Nat} {R : Nat -> Cx} {tau : Rat} (T : Tab (2 ^ K) R tau) (m : Nat) : sumC (2 ^ K) (fun j=>R (m * j)) = if m % 2 ^ K = 0 then ⟨((2 ^ K : Nat) : Rat),0⟩ else Cx.zero:=by
 by_cases h : m % 2 ^ K = 0
 ·rw [if_pos h]
  have e : sumC (2 ^ K) (fun j=>R (m * j)) = sumC (2 ^ K) (fun _=>Cx.one):=sumC_congr (fun j _=>by
   have e1 : m = 2 ^ K * (m / 2 ^ K):=by have:=Nat.mod_add_div m (2 ^ K); omega
   have e2 : m * j = 0 + (m / 2 ^ K * j) * 2 ^ K:=by
    rw [Nat.zero_add]
    calc m * j = 2 ^ K * (m / 2 ^ K) * j:=by rw [<- e1]
     _ = (m / 2 ^ K * j) * 2 ^ K:=by rw [Nat.mul_assoc,Nat.mul_comm]
   rw [e2,T.periods,T.zero])
  rw [e,sumC_const,Cx.mul_one]
 ·rw [if_neg h]
  obtain ⟨v,c,hv,rfl⟩:=odd_part K m h
  have hpow : 2 ^ K = 2 ^ v * (2 ^ (K - 1 - v) + 2 ^ (K - 1 - v)):=by
   rw [<- Nat.mul_two,<- Nat.pow_succ,<- Nat.pow_add]
   congr 1; omega
  rw [hpow]
  refine sum_turns _ _ (fun j=>?_) _
  have hh : 2 ^ v * 2 ^ (K - 1 - v) = 2 ^ K / 2:=by
   have:=T.even
   rw [hpow] at this ⊢
   rw [Nat.mul_add]
   omega
  have e : 2 ^ v * (2 * c + 1) * (j + 2 ^ (K - 1 - v)) = 2 ^ v * (2 * c + 1) * j + (2 * c + 1) * (2 ^ K / 2):=by
   rw [Nat.mul_add,<- hh]
   congr 1
   rw [Nat.mul_comm (2 ^ v),Nat.mul_assoc]
  rw [e,T.odd]
def cj (R : Nat -> Cx) : Nat -> Cx:=fun m=>Cx.conj (R m)
theorem Tab.cj {n : Nat} {R : Nat -> Cx} {tau : Rat} (T : Tab n R tau) : Tab n (cj R) tau where
 ptau:=T.ptau
 zero:=by unfold Go.Proofs.YtfpopdneokekiaaGreatDoor.cj; rw [T.zero]; apply Cx.ext <;> simp only [Cx.conj,Cx.one] <;> grind
 half:=fun m=>by unfold Go.Proofs.YtfpopdneokekiaaGreatDoor.cj; rw [T.half]; apply Cx.ext <;> simp only [Cx.conj,Cx.neg]
 even:=T.even
 lim:=fun m=>by have:=T.lim m; unfold Go.Proofs.YtfpopdneokekiaaGreatDoor.cj Cx.lim at *; simp only [Cx.conj]; grind
 mul:=fun a b=>by have:=T.mul a b; unfold Go.Proofs.YtfpopdneokekiaaGreatDoor.cj Cx.near at *; simp only [Cx.conj,Cx.mul] at *; grind
def conv (n : Nat) (x y : Nat -> Cx) (i : Nat) : Cx:=sumC n (fun p=>Cx.mul (x p) (y ((i + n - p) % n)))
theorem sumC_single (n : Nat) (f : Nat -> Cx) (q : Nat) (hq : q < n) (h : ∀ j,j < n -> j ≠ q -> f j = Cx.zero) : sumC n f = f q:=by
 induction n with
 | zero=>omega
 | succ n ih =>
   simp only [sumC]
   by_cases hqn : q = n
   ·subst hqn
    have : sumC q f = Cx.zero:=by
     rw [sumC_congr (g:=fun _=>Cx.zero) (fun i hi=>h i (by omega) (by omega)),sumC_zero]
    rw [this,Cx.zero_add]
   ·rw [ih (by omega) (fun j hj hne=>h j (by omega) hne),h n (by omega) (by omega),Cx.add_zero]
theorem conj_at {K : Nat} {R : Nat -> Cx} {tau : Rat} (T : Tab (2 ^ K) R tau) (hc : ∀ m,Cx.near (Cx.conj (R m)) (R (m * (2 ^ K - 1))) tau) (i j : Nat) (hi : i < 2 ^ K) : Cx.near (cj R (j * i)) (R ((2 ^ K - i) * j)) tau:=by
 have h:=hc (j * i)
 have e : R (j * i * (2 ^ K - 1)) = R ((2 ^ K - i) * j):=by
  by_cases hi0 : i = 0
  ·subst hi0
   rw [Nat.mul_zero,Nat.zero_mul,Nat.sub_zero,show 2 ^ K * j = 0 + j * 2 ^ K by rw [Nat.mul_comm]; omega,T.periods]
  ·have hn : 0 < 2 ^ K:=Nat.two_pow_pos K
   have e1 : j * i * (2 ^ K - 1) = (2 ^ K - i) * j + (j * (i - 1)) * 2 ^ K:=by
    obtain ⟨n1,hn1⟩ : ∃ n1,2 ^ K = n1 + 1:=⟨2 ^ K - 1,by omega⟩
    obtain ⟨i1,rfl⟩ : ∃ i1,i = i1 + 1:=⟨i - 1,by omega⟩
    obtain ⟨d,hd⟩ : ∃ d,n1 = i1 + d:=⟨n1 - i1,by omega⟩
    rw [hn1,hd,Nat.add_sub_cancel,Nat.add_sub_cancel,show i1 + d + 1 - (i1 + 1) = d by omega]
    grind
   rw [e1,T.periods]
 rw [e] at h
 exact h
theorem back_near {K : Nat} {R : Nat -> Cx} {tau : Rat} (T : Tab (2 ^ K) R tau) (hc : ∀ m,Cx.near (Cx.conj (R m)) (R (m * (2 ^ K - 1))) tau) (x y : Nat -> Cx) (i : Nat) (hi : i < 2 ^ K) :
  Cx.near (dft (cj R) K 1 (fun j=>Cx.mul (dft R K 1 x j) (dft R K 1 y j)) i) (Cx.mul ⟨((2 ^ K : Nat) : Rat),0⟩ (conv (2 ^ K) x y i)) (pw K * (X1 K x * (X1 K y * (9 * tau)))):=by
 have pt:=T.ptau
 -- the triple products
 have triple : ∀ p q j,Cx.near (Cx.mul (Cx.mul (R (p * j)) (R (q * j))) (cj R (j * i))) (R ((p + q + (2 ^ K - i)) * j)) (9 * tau):=fun p q j=>by
  have lc : Cx.lim (cj R (j * i)) 2:=T.cj.lim _
  have h1:=(T.mul (p * j) (q * j)).symm.mul lc
  have h2:=(conj_at T hc i j hi).mul (T.lim (p * j + q * j))
  have h3:=(T.mul (p * j + q * j) ((2 ^ K - i) * j)).symm
  rw [Cx.mul_comm (cj R (j * i)),Cx.mul_comm (cj R (j * i))] at h1
  have e : (p + q + (2 ^ K - i)) * j = p * j + q * j + (2 ^ K - i) * j:=by rw [Nat.add_mul,Nat.add_mul]
  rw [e]
  exact ((h1.trans h2).trans h3).le (by grind)
 -- the sums out of each other
 have e1 : dft (cj R) K 1 (fun j=>Cx.mul (dft R K 1 x j) (dft R K 1 y j)) i = sumC (2 ^ K) (fun j=>sumC (2 ^ K) (fun p=>Cx.mul (x p) (sumC (2 ^ K) (fun q=>Cx.mul (y q) (Cx.mul (Cx.mul (R (p * j)) (R (q * j))) (cj R (j * i))))))):=by
  show sumC (2 ^ K) _ = _
  refine sumC_congr (fun j _=>?_)
  show Cx.mul (Cx.mul (dft R K 1 x j) (dft R K 1 y j)) (cj R (j * i * 1)) = _
  rw [Nat.mul_one]
  have ex : dft R K 1 x j = sumC (2 ^ K) (fun p=>Cx.mul (x p) (R (p * j))):=sumC_congr (fun p _=>by rw [Nat.mul_one])
  have ey : dft R K 1 y j = sumC (2 ^ K) (fun q=>Cx.mul (y q) (R (q * j))):=sumC_congr (fun q _=>by rw [Nat.mul_one])
  rw [Cx.mul_assoc,ex,Cx.mul_comm,<- sumC_mul]
  refine sumC_congr (fun p _=>?_)
  have e5 : sumC (2 ^ K) (fun q=>Cx.mul (y q) (Cx.mul (Cx.mul (R (p * j)) (R (q * j))) (cj R (j * i)))) = Cx.mul (Cx.mul (R (p * j)) (cj R (j * i))) (dft R K 1 y j):=by
   rw [ey,<- sumC_mul]
   exact sumC_congr (fun q _=>by apply Cx.ext <;> simp only [Cx.mul] <;> grind)
  rw [e5]
  apply Cx.ext <;> simp only [Cx.mul] <;> grind
 have e2 : Cx.mul ⟨((2 ^ K : Nat) : Rat),0⟩ (conv (2 ^ K) x y i) = sumC (2 ^ K) (fun j=>sumC (2 ^ K) (fun p=>Cx.mul (x p) (sumC (2 ^ K) (fun q=>Cx.mul (y q) (R ((p + q + (2 ^ K - i)) * j)))))):=by
  rw [sumC_swap]
  unfold conv
  rw [<- sumC_mul]
  refine sumC_congr (fun p hp=>?_)
  rw [sumC_mul,sumC_swap]
  have e3 : sumC (2 ^ K) (fun q=>sumC (2 ^ K) (fun j=>Cx.mul (y q) (R ((p + q + (2 ^ K - i)) * j)))) = Cx.mul (y ((i + 2 ^ K - p) % 2 ^ K)) ⟨((2 ^ K : Nat) : Rat),0⟩:=by
   have hn : 0 < 2 ^ K:=Nat.two_pow_pos K
   have e4 : ∀ q,sumC (2 ^ K) (fun j=>Cx.mul (y q) (R ((p + q + (2 ^ K - i)) * j))) = Cx.mul (y q) (if (p + q + (2 ^ K - i)) % 2 ^ K = 0 then ⟨((2 ^ K : Nat) : Rat),0⟩ else Cx.zero):=fun q=>by rw [sumC_mul,orth T]
   have hq : ∀ q,q < 2 ^ K -> ((p + q + (2 ^ K - i)) % 2 ^ K = 0 ↔ q = (i + 2 ^ K - p) % 2 ^ K):=fun q hqn=>by
    generalize 2 ^ K = n at *
    have hb : (i + n - p) % n = if i + n - p < n then i + n - p else i - p:=by
     split
     ·exact Nat.mod_eq_of_lt (by assumption)
     ·rw [show i + n - p = (i - p) + n by omega,Nat.add_mod_right,Nat.mod_eq_of_lt (by omega)]
    have ha : (p + q + (n - i)) % n = if p + q + (n - i) < n then p + q + (n - i) else if p + q + (n - i) < 2 * n then p + q - i else p + q - i - n:=by
     split
     ·exact Nat.mod_eq_of_lt (by assumption)
     ·split
      ·rw [show p + q + (n - i) = (p + q - i) + n by omega,Nat.add_mod_right,Nat.mod_eq_of_lt (by omega)]
      ·rw [show p + q + (n - i) = ((p + q - i - n) + n) + n by omega,Nat.add_mod_right,Nat.add_mod_right,Nat.mod_eq_of_lt (by omega)]
    rw [ha,hb]
    split <;> split <;> (try split) <;> omega
   rw [sumC_congr (fun q _=>e4 q),sumC_single (2 ^ K) _ ((i + 2 ^ K - p) % 2 ^ K) (Nat.mod_lt _ hn) (fun q hqn hne=>by
    rw [if_neg (fun h=>hne ((hq q hqn).1 h)),Cx.mul_zero])]
   rw [if_pos ((hq _ (Nat.mod_lt _ hn)).2 rfl)]
  rw [e3]
  apply Cx.ext <;> simp only [Cx.mul] <;> grind
 rw [e1,e2]
 have h:=sumC_near (n:=2 ^ K) (t:=fun _=>X1 K x * (X1 K y * (9 * tau))) (f:=fun j=>sumC (2 ^ K) (fun p=>Cx.mul (x p) (sumC (2 ^ K) (fun q=>Cx.mul (y q) (Cx.mul (Cx.mul (R (p * j)) (R (q * j))) (cj R (j * i))))))) (g:=fun j=>sumC (2 ^ K) (fun p=>Cx.mul (x p) (sumC (2 ^ K) (fun q=>Cx.mul (y q) (R ((p + q + (2 ^ K - i)) * j)))))) (fun j _=>by
  have h1:=sumC_near (n:=2 ^ K) (t:=fun p=>(X1 K y * (9 * tau)) * s1 (x p)) (f:=fun p=>Cx.mul (x p) (sumC (2 ^ K) (fun q=>Cx.mul (y q) (Cx.mul (Cx.mul (R (p * j)) (R (q * j))) (cj R (j * i)))))) (g:=fun p=>Cx.mul (x p) (sumC (2 ^ K) (fun q=>Cx.mul (y q) (R ((p + q + (2 ^ K - i)) * j))))) (fun p _=>by
   have h2:=sumC_near (n:=2 ^ K) (t:=fun q=>(9 * tau) * s1 (y q)) (f:=fun q=>Cx.mul (y q) (Cx.mul (Cx.mul (R (p * j)) (R (q * j))) (cj R (j * i)))) (g:=fun q=>Cx.mul (y q) (R ((p + q + (2 ^ K - i)) * j))) (fun q _=>(near_s1 (triple p q j)).le (by grind))
   rw [sumN_mul] at h2
   exact (near_s1 h2).le (by unfold X1; grind))
  rw [sumN_mul] at h1
  exact h1.le (by unfold X1; grind))
 rw [sumN_const] at h
 exact h
end
section
open Cx (n2)
theorem netC_sub (C : Nat -> Nat -> Cx) : ∀ (k : Nat) (x y : Nat -> Cx) (j : Nat),netC C k (dif x y) j = Cx.sub (netC C k x j) (netC C k y j)
 | 0,x,y,j=>by unfold netC; simp only [net,dif]
 | k + 1,x,y,j=>by
   have he:=netC_sub C k (ev x) (ev y)
   have ho:=netC_sub C k (od x) (od y)
   have e1 : ev (dif x y) = dif (ev x) (ev y):=rfl
   have e2 : od (dif x y) = dif (od x) (od y):=rfl
   unfold netC at *
   simp only [net]
   split
   ·rw [e1,e2,he,ho]; apply Cx.ext <;> simp only [Cx.add,Cx.sub,Cx.mul] <;> grind
   ·rw [e1,e2,he,ho]; apply Cx.ext <;> simp only [Cx.add,Cx.sub,Cx.mul] <;> grind
theorem point_err {n : Nat} {U V u' v' w' : Nat -> Cx} {g eps mu kap theta Su Sv : Rat} (pg : 0 <= g) (pe : 0 <= eps) (pm : 0 <= mu) (pk : 0 <= kap) (pu : 0 <= Su) (pv : 0 <= Sv)
  (gu : N2 n U <= g * g * Su) (gv : N2 n V <= g * g * Sv) (eu : N2 n (dif u' U) <= eps * eps * Su) (ev : N2 n (dif v' V) <= eps * eps * Sv)
  (hw : ∀ j,j < n -> n2 (Cx.sub (w' j) (Cx.mul (u' j) (v' j))) <= mu * mu * (n2 (u' j) * n2 (v' j)) + theta) (hth : sumN n (fun _=>theta) <= kap * kap * (Su * Sv)) :
  N2 n (dif w' (fun j=>Cx.mul (U j) (V j))) <= ((mu * ((g + eps) * (g + eps)) + kap) + (eps * (g + eps) + g * eps)) * ((mu * ((g + eps) * (g + eps)) + kap) + (eps * (g + eps) + g * eps)) * (Su * Sv) /\
  N2 n (fun j=>Cx.mul (U j) (V j)) <= (g * g) * (g * g) * (Su * Sv):=by
 have puv:=Rat.mul_nonneg pu pv
 have pge : 0 <= g + eps:=by grind
 have gu':=N2_off pg pe pu gu eu
 have gv':=N2_off pg pe pv gv ev
 have prod : ∀ (f h : Nat -> Cx) (a b : Rat),0 <= a -> 0 <= b -> N2 n f <= a * a * Su -> N2 n h <= b * b * Sv -> N2 n (fun j=>Cx.mul (f j) (h j)) <= (a * b) * (a * b) * (Su * Sv):=fun f h a b ha hb hf hh=>by
  have k1 : N2 n (fun j=>Cx.mul (f j) (h j)) <= (b * b * Sv) * N2 n f:=N2_scale (fun j hj=>by
   rw [Cx.n2_mul,Rat.mul_comm]
   exact Rat.mul_le_mul_of_nonneg_right (Rat.le_trans (N2_at h hj) hh) (Cx.n2_nonneg _))
  have k2:=rmul_le hf (Rat.mul_nonneg (sq_nonneg b) pv)
  grind
 have h1 : N2 n (dif w' (fun j=>Cx.mul (u' j) (v' j))) <= (mu * ((g + eps) * (g + eps)) + kap) * (mu * ((g + eps) * (g + eps)) + kap) * (Su * Sv):=by
  have k1 : N2 n (dif w' (fun j=>Cx.mul (u' j) (v' j))) <= mu * mu * N2 n (fun j=>Cx.mul (u' j) (v' j)) + sumN n (fun _=>theta):=by
   unfold N2
   rw [<- sumN_mul,<- sumN_add]
   exact sumN_le (fun j hj=>by rw [Cx.n2_mul]; exact hw j hj)
  have k2:=rmul_le (prod u' v' _ _ pge pge gu' gv') (sq_nonneg mu)
  have k3 : 0 <= mu * ((g + eps) * (g + eps)) * kap * (Su * Sv):=Rat.mul_nonneg (Rat.mul_nonneg (Rat.mul_nonneg pm (sq_nonneg _)) pk) puv
  grind
 have h2:=prod (dif u' U) v' _ _ pe pge eu gv'
 have h3:=prod U (dif v' V) _ _ pg pe gu ev
 have q1 : 0 <= eps * (g + eps):=Rat.mul_nonneg pe pge
 have q2 : 0 <= g * eps:=Rat.mul_nonneg pg pe
 have q3 : 0 <= mu * ((g + eps) * (g + eps)) + kap:=by have:=Rat.mul_nonneg pm (sq_nonneg (g + eps)); grind
 have h4:=N2_tri q1 q2 puv h2 h3
 have h5:=N2_tri q3 (show 0 <= eps * (g + eps) + g * eps by grind) puv h1 h4
 have e : N2 n (fun i=>Cx.add (dif w' (fun j=>Cx.mul (u' j) (v' j)) i) (Cx.add (Cx.mul (dif u' U i) (v' i)) (Cx.mul (U i) (dif v' V i)))) = N2 n (dif w' (fun j=>Cx.mul (U j) (V j))):=N2_congr (fun i _=>by apply Cx.ext <;> simp only [dif,Cx.add,Cx.sub,Cx.mul] <;> grind)
 rw [e] at h5
 exact ⟨h5,prod U V g g pg pg gu gv⟩
def farT (K : Nat) (tau a b : Rat) : Rat :=
 let tX:=tk tau K * a
 let tY:=tk tau K * b
 let LU:=2 * a + tX
 let LV:=2 * b + tY
 tk tau K * (pw K * (4 * LU * LV)) + (pw K * (4 * (2 * LV * tX + 4 * a * tY)) + pw K * (a * (b * (9 * tau))))
theorem dft_lim {K : Nat} {R : Nat -> Cx} {tau : Rat} (T : Tab (2 ^ K) R tau) (x : Nat -> Cx) (j : Nat) : Cx.lim (dft R K 1 x j) (2 * X1 K x):=by
 have h:=sumC_near (n:=2 ^ K) (f:=fun i=>Cx.mul (x i) (R (i * j * 1))) (g:=fun _=>Cx.zero) (t:=fun i=>2 * s1 (x i)) (fun i _=>by
  have hz : Cx.near (R (i * j * 1)) Cx.zero 2:=by have:=T.lim (i * j * 1); unfold Cx.near Cx.lim at *; simp only [Cx.zero]; grind
  have h1:=near_s1 (a:=x i) hz
  rw [Cx.mul_zero] at h1
  exact h1.le (by grind))
 rw [sumC_zero,sumN_mul] at h
 unfold Cx.near at h
 unfold Cx.lim X1
 show -(2 * sumN (2 ^ K) fun i=>s1 (x i)) <= (sumC (2 ^ K) fun i=>Cx.mul (x i) (R (i * j * 1))).re /\ _
 simp only [Cx.zero] at h
 unfold dft
 grind
theorem near_lim {z w : Cx} {A t : Rat} (h : Cx.near z w t) (hl : Cx.lim w A) : Cx.lim z (A + t):=by unfold Cx.near Cx.lim at *; grind
theorem lim_mul {z w : Cx} {A B : Rat} (hz : Cx.lim z A) (hw : Cx.lim w B) : Cx.lim (Cx.mul z w) (2 * A * B):=by
 have h : Cx.near w Cx.zero B:=by unfold Cx.near Cx.lim at *; simp only [Cx.zero]; grind
 have h1:=h.mul hz
 rw [Cx.mul_zero] at h1
 unfold Cx.near at h1
 unfold Cx.lim
 simp only [Cx.zero] at h1
 grind
theorem lim_s1 {z : Cx} {A : Rat} (h : Cx.lim z A) : s1 z <= 2 * A:=by
 unfold Cx.lim at h
 unfold s1 ab
 split <;> split <;> grind
theorem exact_near {K : Nat} {R : Nat -> Cx} {tau : Rat} (T : Tab (2 ^ K) R tau) (hc : ∀ m,Cx.near (Cx.conj (R m)) (R (m * (2 ^ K - 1))) tau) (x y : Nat -> Cx) (i : Nat) (hi : i < 2 ^ K) :
  Cx.near (netC (lev (cj R) K) K (fun j=>Cx.mul (netC (lev R K) K x j) (netC (lev R K) K y j)) i) (Cx.mul ⟨((2 ^ K : Nat) : Rat),0⟩ (conv (2 ^ K) x y i)) (farT K tau (X1 K x) (X1 K y)):=by
 have pt:=T.ptau
 have ptk:=tk_pos pt K
 have pa:=X1_nonneg K x
 have pb:=X1_nonneg K y
 obtain ⟨a,ha⟩ : ∃ a,a = X1 K x:=⟨_,rfl⟩
 obtain ⟨b,hb⟩ : ∃ b,b = X1 K y:=⟨_,rfl⟩
 obtain ⟨d,hd⟩ : ∃ d,d = tk tau K:=⟨_,rfl⟩
 have hx : ∀ j,j < 2 ^ K -> Cx.near (netC (lev R K) K x j) (dft R K 1 x j) (d * a):=fun j hj=>by
  have h:=net_dft T K (Nat.le_refl _) x j hj
  rw [Nat.sub_self,Nat.pow_zero] at h
  rw [hd,ha]; exact h
 have hy : ∀ j,j < 2 ^ K -> Cx.near (netC (lev R K) K y j) (dft R K 1 y j) (d * b):=fun j hj=>by
  have h:=net_dft T K (Nat.le_refl _) y j hj
  rw [Nat.sub_self,Nat.pow_zero] at h
  rw [hd,hb]; exact h
 have lx : ∀ j,Cx.lim (dft R K 1 x j) (2 * a):=fun j=>by rw [ha]; exact dft_lim T x j
 have ly : ∀ j,Cx.lim (dft R K 1 y j) (2 * b):=fun j=>by rw [hb]; exact dft_lim T y j
 have hP : ∀ j,j < 2 ^ K -> Cx.near (Cx.mul (netC (lev R K) K x j) (netC (lev R K) K y j)) (Cx.mul (dft R K 1 x j) (dft R K 1 y j)) (2 * (2 * b + d * b) * (d * a) + 4 * a * (d * b)):=fun j hj=>by
  have h1:=(hx j hj).mul (near_lim (hy j hj) (ly j))
  have h2:=(hy j hj).mul (lx j)
  rw [Cx.mul_comm,Cx.mul_comm (netC (lev R K) K y j)] at h1
  exact (h1.trans h2).le (by grind)
 have hLP : ∀ j,j < 2 ^ K -> s1 (Cx.mul (netC (lev R K) K x j) (netC (lev R K) K y j)) <= 4 * (2 * a + d * a) * (2 * b + d * b):=fun j hj=>by
  have h:=lim_s1 (lim_mul (near_lim (hx j hj) (lx j)) (near_lim (hy j hj) (ly j)))
  grind
 have n1:=net_dft T.cj K (Nat.le_refl _) (fun j=>Cx.mul (netC (lev R K) K x j) (netC (lev R K) K y j)) i hi
 rw [Nat.sub_self,Nat.pow_zero] at n1
 have hX1 : X1 K (fun j=>Cx.mul (netC (lev R K) K x j) (netC (lev R K) K y j)) <= pw K * (4 * (2 * a + d * a) * (2 * b + d * b)):=by
  rw [<- sumN_const]
  exact sumN_le (fun j hj=>hLP j hj)
 have n2' : Cx.near (dft (cj R) K 1 (fun j=>Cx.mul (netC (lev R K) K x j) (netC (lev R K) K y j)) i) (dft (cj R) K 1 (fun j=>Cx.mul (dft R K 1 x j) (dft R K 1 y j)) i) (pw K * (4 * (2 * (2 * b + d * b) * (d * a) + 4 * a * (d * b)))):=by
  rw [<- sumN_const]
  refine sumC_near (fun j hj=>?_)
  have h:=(hP j hj).mul (T.cj.lim (j * i * 1))
  rw [Cx.mul_comm (cj R (j * i * 1)),Cx.mul_comm (cj R (j * i * 1))] at h
  exact h.le (by grind)
 have n3:=back_near T hc x y i hi
 have h:=(n1.trans n2').trans n3
 refine h.le ?_
 have k1:=rmul_le hX1 ptk
 rw [<- hd] at k1
 unfold farT
 simp only
 rw [<- ha,<- hb,<- hd]
 grind
end
section
open Cx (n2)
def etaW (mu g eps kp : Rat) : Rat:=(mu * ((g + eps) * (g + eps)) + kp) + (eps * (g + eps) + g * eps)
theorem netC_N2_sub {C : Nat -> Nat -> Cx} {tau : Rat} (ht : 0 <= tau) {K : Nat} (hC : ∀ k j,k < K -> j < 2 ^ k -> n2 (C k j) <= 1 + tau) (f h : Nat -> Cx) : N2 (2 ^ K) (dif (netC C K f) (netC C K h)) <= gamK tau K * gamK tau K * (pw K * N2 (2 ^ K) (dif f h)):=by
 have h1:=netC_size ht hC K (Nat.le_refl _) (dif f h)
 have e : N2 (2 ^ K) (netC C K (dif f h)) = N2 (2 ^ K) (dif (netC C K f) (netC C K h)):=N2_congr (fun i _=>netC_sub C K f h i)
 rw [e] at h1
 exact h1
theorem cyc_err {α : Type} {N : Near α} {K : Nat} {R : Nat -> Cx} {W W2 : Nat -> Nat -> α} (A : Roots N W (lev R K) K) (B : Roots N W2 (lev (cj R) K) K) (x y : Nat -> α) (hx : ∀ i,i < 2 ^ K -> N.ok (x i)) (hy : ∀ i,i < 2 ^ K -> N.ok (y i))
  {Su Sv kp S2 : Rat} (hSu : Su = pw K * Qf A.phi K (fun i=>N.val (x i))) (hSv : Sv = pw K * Qf A.phi K (fun i=>N.val (y i))) (pkp : 0 <= kp) (hkp : pw K * N.theta <= kp * kp * (Su * Sv)) (hS2 : S2 = Su * Sv + pw K * B.phi)
  (b1 : 40 * Su <= N.big) (b2 : 40 * Sv <= N.big) (b3 : 16 * (Su * Sv) <= N.big)
  (b4 : 40 * (pw K * ((gamK A.tau K * gamK A.tau K + etaW N.mu (gamK A.tau K) (A.eps K) kp) * (gamK A.tau K * gamK A.tau K + etaW N.mu (gamK A.tau K) (A.eps K) kp) * S2)) <= N.big) :
  (∀ i,i < 2 ^ K -> N.ok (net N.add N.sub N.mul W2 K (fun j=>N.mul (net N.add N.sub N.mul W K x j) (net N.add N.sub N.mul W K y j)) i)) /\
  N2 (2 ^ K) (dif (fun i=>N.val (net N.add N.sub N.mul W2 K (fun j=>N.mul (net N.add N.sub N.mul W K x j) (net N.add N.sub N.mul W K y j)) i)) (netC (lev (cj R) K) K (fun j=>Cx.mul (netC (lev R K) K (fun i=>N.val (x i)) j) (netC (lev R K) K (fun i=>N.val (y i)) j)))) <=
   (B.eps K * (gamK A.tau K * gamK A.tau K + etaW N.mu (gamK A.tau K) (A.eps K) kp) + gamK B.tau K * etaW N.mu (gamK A.tau K) (A.eps K) kp) * (B.eps K * (gamK A.tau K * gamK A.tau K + etaW N.mu (gamK A.tau K) (A.eps K) kp) + gamK B.tau K * etaW N.mu (gamK A.tau K) (A.eps K) kp) * (pw K * S2):=by
 obtain ⟨g,hg⟩ : ∃ g,g = gamK A.tau K:=⟨_,rfl⟩
 obtain ⟨e,he⟩ : ∃ e,e = A.eps K:=⟨_,rfl⟩
 obtain ⟨gB,hgB⟩ : ∃ g,g = gamK B.tau K:=⟨_,rfl⟩
 obtain ⟨eB,heB⟩ : ∃ e,e = B.eps K:=⟨_,rfl⟩
 rw [<- hg,<- he] at b4 ⊢
 rw [<- hgB,<- heB]
 have g1 : 1 <= g:=by rw [hg]; exact gamK_pos A.ptau K
 have gB1 : 1 <= gB:=by rw [hgB]; exact gamK_pos B.ptau K
 have pe : 0 <= e:=by rw [he]; exact A.peps K (Nat.le_refl _)
 have peB : 0 <= eB:=by rw [heB]; exact B.peps K (Nat.le_refl _)
 have pM:=pw_pos K
 have pSu : 0 <= Su:=by rw [hSu]; exact Rat.mul_nonneg (Rat.le_of_lt pM) (Qf_nonneg A.pphi K _)
 have pSv : 0 <= Sv:=by rw [hSv]; exact Rat.mul_nonneg (Rat.le_of_lt pM) (Qf_nonneg A.pphi K _)
 have pSS:=Rat.mul_nonneg pSu pSv
 have pS2 : 0 <= S2:=by have:=Rat.mul_nonneg (Rat.le_of_lt pM) B.pphi; rw [hS2]; grind
 obtain ⟨U,hU⟩ : ∃ U,U = netC (lev R K) K (fun i=>N.val (x i)):=⟨_,rfl⟩
 obtain ⟨V,hV⟩ : ∃ V,V = netC (lev R K) K (fun i=>N.val (y i)):=⟨_,rfl⟩
 obtain ⟨u,hu⟩ : ∃ u,u = net N.add N.sub N.mul W K x:=⟨_,rfl⟩
 obtain ⟨v,hv⟩ : ∃ v,v = net N.add N.sub N.mul W K y:=⟨_,rfl⟩
 have EU:=net_err A K (Nat.le_refl _) x hx (by rw [<- hSu]; exact b1)
 have EV:=net_err A K (Nat.le_refl _) y hy (by rw [<- hSv]; exact b2)
 rw [<- hSu,<- hU,<- hu,<- he] at EU
 rw [<- hSv,<- hV,<- hv,<- he] at EV
 have size : ∀ (f : Nat -> Cx),pw K * N2 (2 ^ K) f <= pw K * Qf A.phi K f:=fun f=>rmul_le (by unfold Qf; have:=Rat.mul_nonneg (Rat.le_of_lt pM) A.pphi; grind) (Rat.le_of_lt pM)
 have GU : N2 (2 ^ K) U <= g * g * Su:=by
  have h:=netC_size A.ptau A.hC K (Nat.le_refl _) (fun i=>N.val (x i))
  rw [<- hU,<- hg] at h
  rw [hSu]
  exact Rat.le_trans h (rmul_le (size _) (sq_nonneg g))
 have GV : N2 (2 ^ K) V <= g * g * Sv:=by
  have h:=netC_size A.ptau A.hC K (Nat.le_refl _) (fun i=>N.val (y i))
  rw [<- hV,<- hg] at h
  rw [hSv]
  exact Rat.le_trans h (rmul_le (size _) (sq_nonneg g))
 have lge:=A.lge K (Nat.le_refl _)
 rw [<- hg,<- he] at lge
 have four : (g + e) * (g + e) <= 4:=by have:=sq_le (show 0 <= g + e by grind) (show (0 : Rat) <= 2 by decide) lge; grind
 have BU : ∀ j,j < 2 ^ K -> n2 (N.val (u j)) <= 4 * Su:=fun j hj=>by
  have h1:=N2_off (by grind) pe pSu GU EU.2
  have h2:=N2_at (fun j=>N.val (u j)) hj
  have h3:=Rat.mul_le_mul_of_nonneg_right four pSu
  grind
 have BV : ∀ j,j < 2 ^ K -> n2 (N.val (v j)) <= 4 * Sv:=fun j hj=>by
  have h1:=N2_off (by grind) pe pSv GV EV.2
  have h2:=N2_at (fun j=>N.val (v j)) hj
  have h3:=Rat.mul_le_mul_of_nonneg_right four pSv
  grind
 have HW : ∀ j,j < 2 ^ K -> N.ok (N.mul (u j) (v j)) /\ n2 (Cx.sub (N.val (N.mul (u j) (v j))) (Cx.mul (N.val (u j)) (N.val (v j)))) <= N.mu * N.mu * (n2 (N.val (u j)) * n2 (N.val (v j))) + N.theta:=fun j hj=>by
  have h1:=BU j hj
  have h2:=BV j hj
  have h3:=Rat.mul_le_mul_of_nonneg_right h1 (Cx.n2_nonneg (N.val (v j)))
  have h4:=rmul_le h2 (show 0 <= 4 * Su by grind)
  exact N.hmul _ _ (EU.1 j hj) (EV.1 j hj) (by grind) (by grind) (by grind)
 obtain ⟨eta,heta⟩ : ∃ eta,eta = etaW N.mu g e kp:=⟨_,rfl⟩
 rw [<- heta] at b4 ⊢
 have P:=point_err (n:=2 ^ K) (U:=U) (V:=V) (u':=fun j=>N.val (u j)) (v':=fun j=>N.val (v j)) (w':=fun j=>N.val (N.mul (u j) (v j))) (show 0 <= g by grind) pe N.pmu pkp pSu pSv GU GV EU.2 EV.2 (fun j hj=>(HW j hj).2) (by rw [sumN_const]; exact hkp)
 have peta : 0 <= eta:=by
  rw [heta]; unfold etaW
  have q1:=Rat.mul_nonneg pe (show 0 <= g + e by grind)
  have q2:=Rat.mul_nonneg (show 0 <= g by grind) pe
  have q3:=Rat.mul_nonneg N.pmu (sq_nonneg (g + e))
  grind
 have P1 : N2 (2 ^ K) (dif (fun j=>N.val (N.mul (u j) (v j))) (fun j=>Cx.mul (U j) (V j))) <= eta * eta * (Su * Sv):=by rw [heta]; exact P.1
 have gg : 1 <= g * g:=by have:=sq_le (show (0 : Rat) <= 1 by decide) (show 0 <= g by grind) g1; grind
 have NW : N2 (2 ^ K) (fun j=>N.val (N.mul (u j) (v j))) <= (g * g + eta) * (g * g + eta) * (Su * Sv):=N2_off (by grind) peta pSS P.2 P1
 have QW : Qf B.phi K (fun j=>N.val (N.mul (u j) (v j))) <= (g * g + eta) * (g * g + eta) * S2:=by
  have h1 : 1 <= (g * g + eta) * (g * g + eta):=by have:=sq_le (show (0 : Rat) <= 1 by decide) (show 0 <= g * g + eta by grind) (show 1 <= g * g + eta by grind); grind
  have h2:=Rat.mul_le_mul_of_nonneg_right h1 (Rat.mul_nonneg (Rat.le_of_lt pM) B.pphi)
  rw [hS2]
  unfold Qf
  grind
 have MQ:=rmul_le QW (Rat.le_of_lt pM)
 have EB:=net_err B K (Nat.le_refl _) (fun j=>N.mul (u j) (v j)) (fun i hi=>(HW i hi).1) (by grind)
 rw [<- heB] at EB
 rw [<- hu,<- hv,<- hU,<- hV]
 refine ⟨EB.1,?_⟩
 have D1 : N2 (2 ^ K) (dif (fun i=>N.val (net N.add N.sub N.mul W2 K (fun j=>N.mul (u j) (v j)) i)) (netC (lev (cj R) K) K (fun i=>N.val (N.mul (u i) (v i))))) <= (eB * (g * g + eta)) * (eB * (g * g + eta)) * (pw K * S2):=by
  have h1:=EB.2
  have h2:=rmul_le MQ (sq_nonneg eB)
  grind
 have D2 : N2 (2 ^ K) (dif (netC (lev (cj R) K) K (fun i=>N.val (N.mul (u i) (v i)))) (netC (lev (cj R) K) K (fun j=>Cx.mul (U j) (V j)))) <= (gB * eta) * (gB * eta) * (pw K * S2):=by
  have h1:=netC_N2_sub B.ptau B.hC (fun i=>N.val (N.mul (u i) (v i))) (fun j=>Cx.mul (U j) (V j))
  rw [<- hgB] at h1
  have h2 : Su * Sv <= S2:=by rw [hS2]; have:=Rat.mul_nonneg (Rat.le_of_lt pM) B.pphi; grind
  have h3:=rmul_le (Rat.le_trans P1 (rmul_le h2 (sq_nonneg eta))) (Rat.le_of_lt pM)
  have h4:=rmul_le h3 (sq_nonneg gB)
  grind
 have pQ:=Rat.mul_nonneg (Rat.le_of_lt pM) pS2
 have h:=N2_tri (Rat.mul_nonneg peB (show 0 <= g * g + eta by grind)) (Rat.mul_nonneg (show 0 <= gB by grind) peta) pQ D1 D2
 have e1 : N2 (2 ^ K) (fun i=>Cx.add (dif (fun i=>N.val (net N.add N.sub N.mul W2 K (fun j=>N.mul (u j) (v j)) i)) (netC (lev (cj R) K) K (fun i=>N.val (N.mul (u i) (v i)))) i) (dif (netC (lev (cj R) K) K (fun i=>N.val (N.mul (u i) (v i)))) (netC (lev (cj R) K) K (fun j=>Cx.mul (U j) (V j))) i)) = N2 (2 ^ K) (dif (fun i=>N.val (net N.add N.sub N.mul W2 K (fun j=>N.mul (u j) (v j)) i)) (netC (lev (cj R) K) K (fun j=>Cx.mul (U j) (V j)))):=N2_congr (fun i _=>by apply Cx.ext <;> simp only [dif,Cx.add,Cx.sub] <;> grind)
 rw [e1] at h
 exact h
end
section
open Cx (n2)
namespace Fl
theorem Rnd.near_d {n d r : Nat} (h : Rnd n d r) : 2 * n <= (2 * rv r + 2 ^ ex r) * 2 ^ d /\ 2 * rv r * 2 ^ d <= 2 * n + 2 ^ ex r * 2 ^ d:=by
 obtain ⟨h1,_,h3,_⟩:=h
 have hs:=rv_succ r
 refine ⟨by rw [show 2 * rv r + 2 ^ ex r = rv r + rv (r + 1) by omega]; exact h1,?_⟩
 rcases Nat.eq_zero_or_pos r with h0 | h0
 ·subst h0; rw [rv_zero]; omega
 ·have h4:=h3 h0
  have hp:=rv_succ (r - 1)
  rw [show r - 1 + 1 = r by omega] at hp
  have h5 : 2 ^ ex (r - 1) <= 2 ^ ex r:=Nat.pow_le_pow_right (by omega) (ex_le (by omega))
  have h6 : 2 * rv r <= (rv (r - 1) + rv r) + 2 ^ ex r:=by omega
  have h7:=Nat.mul_le_mul_right (2 ^ d) h6
  rw [Nat.add_mul] at h7
  omega
theorem rv_big {r : Nat} (h : ex r ≠ 0) : B * 2 ^ ex r <= rv r:=by
 unfold rv
 rcases mant_ge r with h0 | h0
 ·exact absurd h0 h
 ·exact Nat.mul_le_mul_right _ h0
theorem Rnd.rel {n d r : Nat} (h : Rnd n d r) : 2 * B * n <= 2 * B * (rv r * 2 ^ d) + (rv r * 2 ^ d + B * 2 ^ d) /\ 2 * B * (rv r * 2 ^ d) <= 2 * B * n + (rv r * 2 ^ d + B * 2 ^ d):=by
 obtain ⟨h1,h2⟩:=h.near_d
 have h3 : B * 2 ^ ex r <= rv r + B:=by
  by_cases h0 : ex r = 0
  ·rw [h0]; omega
  ·have:=rv_big h0; omega
 have h4:=Nat.mul_le_mul_right (2 ^ d) h3
 have h5:=Nat.mul_le_mul_left B h1
 have h6:=Nat.mul_le_mul_left B h2
 generalize 2 ^ ex r = e at *
 generalize 2 ^ d = D at *
 generalize rv r = v at *
 generalize B = b at *
 constructor <;> grind
theorem Rnd.rel0 {n r : Nat} (h : Rnd n 0 r) : 2 * B * n <= 2 * B * rv r + rv r /\ 2 * B * rv r <= 2 * B * n + rv r:=by
 obtain ⟨h1,h2⟩:=h.near
 by_cases h0 : ex r = 0
 ·rw [h0,Nat.pow_zero] at h1 h2
  have : n = rv r:=by omega
  rw [this]; omega
 ·have h3:=rv_big h0
  have h5:=Nat.mul_le_mul_left B h1
  have h6:=Nat.mul_le_mul_left B h2
  generalize 2 ^ ex r = e at *
  generalize rv r = v at *
  generalize B = b at *
  constructor <;> grind
end Fl
open Fl
theorem pw_cast : ∀ k : Nat,((2 ^ k : Nat) : Rat) = pw k
 | 0=>by simp [pw]
 | k + 1=>by
   have ih:=pw_cast k
   rw [Nat.pow_succ,Rat.natCast_mul,ih]
   simp only [pw]
   grind
theorem eta_ex : ∃ e : Rat,0 < e /\ e * pw 1074 = 1:=by
 have h : pw 1074 ≠ 0:=by have:=pw_pos 1074; grind
 have h1 : (pw 1074)⁻¹ * pw 1074 = 1:=Rat.inv_mul_cancel _ h
 refine ⟨(pw 1074)⁻¹,?_,h1⟩
 exact Rat.inv_pos.2 (pw_pos 1074)
noncomputable def eta : Rat:=Classical.choose eta_ex
theorem eta_pos : 0 < eta:=(Classical.choose_spec eta_ex).1
theorem eta_one : eta * pw 1074 = 1:=(Classical.choose_spec eta_ex).2
noncomputable def fv (w : Nat) : Rat:=(vl w : Rat) * eta
noncomputable def top : Rat:=((rv (2046 * B) : Nat) : Rat) * eta
def uu : Rat:=1 / 9007199254740991
theorem uu_pos : 0 < uu:=by decide +kernel
theorem ab_nonneg (a : Rat) : 0 <= ab a:=(ab_le a).2.2
theorem ab_of {a b : Rat} (h1 : a <= b) (h2 : -a <= b) : ab a <= b:=by unfold ab; split <;> grind
theorem ab_mul (a b : Rat) : ab (a * b) = ab a * ab b:=by
 unfold ab
 rcases (Rat.le_total : 0 <= a \/ a <= 0) with h1 | h1 <;> rcases (Rat.le_total : 0 <= b \/ b <= 0) with h2 | h2
 ·have:=Rat.mul_nonneg h1 h2
  rw [if_pos h1,if_pos h2,if_pos this]
 ·have h3:=Rat.mul_nonneg h1 (show 0 <= -b by grind)
  by_cases hb : 0 <= b
  ·have : b = 0:=by grind
   subst this; simp
  ·rw [if_pos h1,if_neg hb]
   by_cases hab : 0 <= a * b
   ·rw [if_pos hab]; grind
   ·rw [if_neg hab]; grind
 ·have h3:=Rat.mul_nonneg (show 0 <= -a by grind) h2
  by_cases ha : 0 <= a
  ·have : a = 0:=by grind
   subst this; simp
  ·rw [if_neg ha,if_pos h2]
   by_cases hab : 0 <= a * b
   ·rw [if_pos hab]; grind
   ·rw [if_neg hab]; grind
 ·have h3:=Rat.mul_nonneg (show 0 <= -a by grind) (show 0 <= -b by grind)
  have h4 : 0 <= a * b:=by grind
  rw [if_pos h4]
  by_cases ha : 0 <= a
  ·have : a = 0:=by grind
   subst this; simp
  ·by_cases hb : 0 <= b
   ·have : b = 0:=by grind
    subst this; simp
   ·rw [if_neg ha,if_neg hb]; grind
theorem ab_int (n : Int) : ab (n : Rat) = ((n.natAbs : Nat) : Rat):=by
 rcases Int.natAbs_eq n with h | h
 ·have h1 : (n : Rat) = ((n.natAbs : Nat) : Rat):=by rw [<- Rat.intCast_natCast,<- h]
  rw [h1]
  unfold ab
  rw [if_pos (Rat.natCast_nonneg)]
 ·have h1 : (n : Rat) = -((n.natAbs : Nat) : Rat):=by rw [<- Rat.intCast_natCast,<- Rat.intCast_neg,<- h]
  rw [h1]
  have h2 : (0 : Rat) <= ((n.natAbs : Nat) : Rat):=Rat.natCast_nonneg
  exact Rat.le_antisymm (ab_of (by grind) (by grind)) (by have:=(ab_le (-((n.natAbs : Nat) : Rat))).2.1; grind)
theorem ab_fv (w : Nat) : ab (fv w) = ((rv (rg w) : Nat) : Rat) * eta:=by
 unfold fv
 rw [ab_mul,ab_int,vl_abs]
 congr 1
 unfold ab
 rw [if_pos (Rat.le_of_lt eta_pos)]
end
section
open Cx (n2)
open Fl
open Ieee
theorem q_lt : 2046 * B < I:=by decide
theorem r_fin {n d r : Nat} (h : Rnd n d r) (hn : n <= rv (2046 * B) * 2 ^ d) : r < I:=by
 have h2:=Rnd.exact (2046 * B) d
 have h3:=Rnd.mono h h2 (Nat.mul_le_mul_right _ hn)
 exact Nat.lt_of_le_of_lt h3 q_lt
theorem add_int {x y : Nat} (fx : rg x < I) (fy : rg y < I) (hb : (vl x + vl y).natAbs <= rv (2046 * B)) : ∃ s,double.add x y = some s /\ s < 2 * W /\ rg s < I /\ (2 * B - 1) * (vl s - (vl x + vl y)).natAbs <= (vl x + vl y).natAbs:=by
 obtain ⟨N,hN⟩ : ∃ N,N = vl x + vl y:=⟨_,rfl⟩
 have ha:=add_fin x y fx fy
 rw [<- hN] at ha hb ⊢
 obtain ⟨r,h1,h2⟩:=rnd_spec (sgn2 (sg x) (sg y) N) N.natAbs
 have hr : r < I:=r_fin h2 (by rw [Nat.pow_zero,Nat.mul_one]; exact hb)
 have hrW : r < W:=Nat.lt_trans hr I_lt_W
 rw [Nat.min_eq_left (Nat.le_of_lt hr)] at h1
 refine ⟨_,ha,?_,?_,?_⟩
 ·rw [h1]; exact wd_lt _ _ hrW
 ·rw [h1,rg_wd _ _ hrW]; exact hr
 ·rw [h1,vl_wd _ _ hrW]
  obtain ⟨k1,k2⟩:=h2.rel0
  obtain ⟨v,hv⟩ : ∃ v,v = rv r:=⟨_,rfl⟩
  rw [<- hv] at k1 k2 ⊢
  have hB : B = 4503599627370496:=rfl
  rw [hB] at k1 k2 ⊢
  unfold sgn2
  by_cases h0 : N = 0
  ·subst h0
   have : v = 0:=by omega
   subst this
   split <;> simp
  ·rw [if_neg h0]
   by_cases hlt : N < 0
   ·rw [decide_eq_true hlt,if_pos rfl]
    omega
   ·rw [decide_eq_false hlt,if_neg (by decide)]
    omega
theorem ab_eta : ab eta = eta:=by unfold ab; rw [if_pos (Rat.le_of_lt eta_pos)]
theorem le_nat {a b : Nat} (h : a <= b) : (a : Rat) <= (b : Rat):=Rat.natCast_le_natCast.2 h
theorem nat_le {a b : Nat} (h : (a : Rat) <= (b : Rat)) : a <= b:=Rat.natCast_le_natCast.1 h
theorem eta_cancel {a b : Rat} (h : a * eta <= b * eta) : a <= b:=rdiv_le eta_pos (by rw [Rat.mul_comm eta a,Rat.mul_comm eta b]; exact h)
theorem uu_of {a b : Rat} (h : 9007199254740991 * a <= b) : a <= uu * b:=by
 unfold uu; grind
theorem fadd_ok {x y : Nat} (fx : rg x < I) (fy : rg y < I) (hb : ab (fv x + fv y) <= top) : ∃ s,double.add x y = some s /\ s < 2 * W /\ rg s < I /\ ab (fv s - (fv x + fv y)) <= uu * ab (fv x + fv y):=by
 have e1 : fv x + fv y = ((vl x + vl y : Int) : Rat) * eta:=by unfold fv; rw [Rat.intCast_add]; grind
 have e2 : ab (fv x + fv y) = (((vl x + vl y).natAbs : Nat) : Rat) * eta:=by rw [e1,ab_mul,ab_int,ab_eta]
 have hn : (vl x + vl y).natAbs <= rv (2046 * B):=by
  rw [e2] at hb
  exact nat_le (eta_cancel hb)
 obtain ⟨s,h1,h2,h3,h4⟩:=add_int fx fy hn
 refine ⟨s,h1,h2,h3,?_⟩
 have e3 : ab (fv s - (fv x + fv y)) = (((vl s - (vl x + vl y)).natAbs : Nat) : Rat) * eta:=by
  have : fv s - (fv x + fv y) = ((vl s - (vl x + vl y) : Int) : Rat) * eta:=by rw [e1,Rat.intCast_sub]; unfold fv; grind
  rw [this,ab_mul,ab_int,ab_eta]
 rw [e2,e3]
 apply uu_of
 have h5:=le_nat h4
 rw [Rat.natCast_mul] at h5
 have h6 : ((2 * B - 1 : Nat) : Rat) = 9007199254740991:=by rw [show 2 * B - 1 = 9007199254740991 from rfl]; rfl
 rw [h6] at h5
 have h7:=Rat.mul_le_mul_of_nonneg_right h5 (Rat.le_of_lt eta_pos)
 grind
theorem mul_int {x y D : Nat} (hD : D = 2 ^ 1074) (fx : rg x < I) (fy : rg y < I) (hb : rv (rg x) * rv (rg y) <= rv (2046 * B) * D) : ∃ s r,double.mul x y = some s /\ s < 2 * W /\ rg s < I /\ r = rv (rg s) /\ vl s = (if (sg x ^^ sg y) = true then -(r : Int) else (r : Int)) /\
  9007199254740991 * (rv (rg x) * rv (rg y)) <= 9007199254740992 * (r * D) + 4503599627370496 * D /\ 9007199254740991 * (r * D) <= 9007199254740992 * (rv (rg x) * rv (rg y)) + 4503599627370496 * D:=by
 have ha:=mul_fin x y fx fy
 obtain ⟨r,h1,h2⟩:=nearest_word (sg x ^^ sg y) (mant (rg x) * mant (rg y)) (pl x + pl y)
 have h3 : Rnd (rv (rg x) * rv (rg y)) 1074 r:=h2 1074 _ (by unfold pl; omega) (by
  have e : (pl x + pl y + 1074 + ((1074 : Nat) : Int)).toNat = ex (rg x) + ex (rg y):=by unfold pl; omega
  rw [e,Nat.pow_add]
  unfold rv
  rw [Nat.mul_assoc,Nat.mul_left_comm (2 ^ ex (rg x)),<- Nat.mul_assoc])
 have hr : r < I:=r_fin h3 (by rw [<- hD]; exact hb)
 have hrW : r < W:=Nat.lt_trans hr I_lt_W
 rw [Nat.min_eq_left (Nat.le_of_lt hr)] at h1
 obtain ⟨k1,k2⟩:=h3.rel
 rw [<- hD] at k1 k2
 clear h2 h3 hb hD
 refine ⟨_,rv r,ha,?_,?_,?_,?_,?_,?_⟩
 ·rw [h1]; exact wd_lt _ _ hrW
 ·rw [h1,rg_wd _ _ hrW]; exact hr
 ·rw [h1,rg_wd _ _ hrW]
 ·rw [h1,vl_wd _ _ hrW]
 ·generalize rv (rg x) * rv (rg y) = P at *
  generalize rv r * D = Q at *
  have hB : B = 4503599627370496:=rfl
  rw [hB] at k1 k2
  omega
 ·generalize rv (rg x) * rv (rg y) = P at *
  generalize rv r * D = Q at *
  have hB : B = 4503599627370496:=rfl
  rw [hB] at k1 k2
  omega
theorem fv_sg (w : Nat) : fv w = if sg w = true then -(((rv (rg w) : Nat) : Rat) * eta) else ((rv (rg w) : Nat) : Rat) * eta:=by
 unfold fv vl
 split
 ·rw [Rat.intCast_neg,Rat.intCast_natCast]; grind
 ·rw [Rat.intCast_natCast]
theorem fmul_ok {x y : Nat} (fx : rg x < I) (fy : rg y < I) (hb : ab (fv x * fv y) <= top) : ∃ s,double.mul x y = some s /\ s < 2 * W /\ rg s < I /\ ab (fv s - fv x * fv y) <= uu * ab (fv x * fv y) + eta:=by
 obtain ⟨p,hp⟩ : ∃ p : Rat,p = ((rv (rg x) : Nat) : Rat):=⟨_,rfl⟩
 obtain ⟨q,hq⟩ : ∃ q : Rat,q = ((rv (rg y) : Nat) : Rat):=⟨_,rfl⟩
 have hab : ab (fv x * fv y) = p * q * eta * eta:=by rw [ab_mul,ab_fv,ab_fv,<- hp,<- hq]; grind
 have e1:=eta_one
 have pe:=eta_pos
 obtain ⟨D,hD⟩ : ∃ D : Rat,D = pw 1074:=⟨_,rfl⟩
 rw [<- hD] at e1
 obtain ⟨D0,hD0,hDD⟩ : ∃ D0 : Nat,D0 = 2 ^ 1074 /\ ((D0 : Nat) : Rat) = D:=by
  obtain ⟨k,hk⟩ : ∃ k : Nat,k = 1074:=⟨_,rfl⟩
  rw [<- hk] at hD ⊢
  exact ⟨2 ^ k,rfl,by rw [pw_cast,hD]⟩
 have hn : rv (rg x) * rv (rg y) <= rv (2046 * B) * D0:=by
  apply nat_le
  rw [Rat.natCast_mul,Rat.natCast_mul,hDD,<- hp,<- hq]
  rw [hab] at hb
  unfold top at hb
  have h1:=eta_cancel (a:=p * q * eta) hb
  have h2:=Rat.mul_le_mul_of_nonneg_right h1 (show 0 <= D by rw [hD]; exact Rat.le_of_lt (pw_pos _))
  have h3 : p * q * eta * D = p * q:=by grind
  rw [h3] at h2
  exact h2
 obtain ⟨s,r,h1,h2,h3,h4,h5,h6,h7⟩:=mul_int hD0 fx fy hn
 refine ⟨s,h1,h2,h3,?_⟩
 obtain ⟨v,hv⟩ : ∃ v : Rat,v = ((r : Nat) : Rat):=⟨_,rfl⟩
 have k6:=le_nat h6
 have k7:=le_nat h7
 push_cast at k6 k7
 rw [hDD,<- hp,<- hq,<- hv] at k6 k7
 have pee:=Rat.mul_nonneg (Rat.le_of_lt pe) (Rat.le_of_lt pe)
 have m6:=Rat.mul_le_mul_of_nonneg_right k6 pee
 have m7:=Rat.mul_le_mul_of_nonneg_right k7 pee
 have q6 : 9007199254740991 * (p * q * eta * eta) <= 9007199254740992 * (v * eta) + 4503599627370496 * eta:=by
  have a1 : (9007199254740992 * (v * D) + 4503599627370496 * D) * (eta * eta) = 9007199254740992 * (v * eta) * (eta * D) + 4503599627370496 * eta * (eta * D):=by grind
  rw [a1,e1] at m6
  grind
 have q7 : 9007199254740991 * (v * eta) <= 9007199254740992 * (p * q * eta * eta) + 4503599627370496 * eta:=by
  have a1 : (9007199254740992 * (p * q) + 4503599627370496 * D) * (eta * eta) = 9007199254740992 * (p * q * eta * eta) + 4503599627370496 * eta * (eta * D):=by grind
  have a2 : 9007199254740991 * (v * D) * (eta * eta) = 9007199254740991 * (v * eta) * (eta * D):=by grind
  rw [a1,a2,e1] at m7
  grind
 have hs : fv s = if (sg x ^^ sg y) = true then -(v * eta) else v * eta:=by
  unfold fv
  rw [h5]
  split
  ·rw [Rat.intCast_neg,Rat.intCast_natCast,<- hv]; grind
  ·rw [Rat.intCast_natCast,<- hv]
 have hxy : fv x * fv y = if (sg x ^^ sg y) = true then -(p * q * eta * eta) else p * q * eta * eta:=by
  rw [fv_sg x,fv_sg y,<- hp,<- hq]
  cases sg x <;> cases sg y <;> simp <;> grind
 obtain ⟨t,ht⟩ : ∃ t,t = v * eta:=⟨_,rfl⟩
 obtain ⟨z,hz⟩ : ∃ z,z = p * q * eta * eta:=⟨_,rfl⟩
 rw [hab,hs,hxy,<- ht,<- hz]
 rw [<- ht,<- hz] at q6 q7
 have pz : 0 <= z:=by rw [hz,<- hab]; exact ab_nonneg _
 have key : t - z <= uu * z + eta /\ z - t <= uu * z + eta:=by
  unfold uu
  constructor <;> grind
 split
 ·exact ab_of (by grind) (by grind)
 ·exact ab_of (by grind) (by grind)
end
section
open Cx (n2)
open Fl
open Ieee
theorem pw_add (a : Nat) : ∀ b,pw (a + b) = pw a * pw b
 | 0=>by simp only [pw,Nat.add_zero]; grind
 | b + 1=>by rw [<- Nat.add_assoc]; simp only [pw]; rw [pw_add a b]; grind
theorem pw_le {a b : Nat} (h : a <= b) : pw a <= pw b:=by
 obtain ⟨c,rfl⟩ : ∃ c,b = a + c:=⟨b - a,by omega⟩
 rw [pw_add]
 have:=rmul_le (pw_one c) (Rat.le_of_lt (pw_pos a))
 grind
theorem top_eq : top = pw 1023:=by
 obtain ⟨k,hk⟩ : ∃ k : Nat,k = 2045:=⟨_,rfl⟩
 have h:=rv_of k B (by omega) (.inr (Nat.le_refl _))
 have e : k * B + B = 2046 * B:=by rw [hk]; omega
 rw [e] at h
 unfold top
 rw [h,Rat.natCast_mul,pw_cast]
 have hB : ((B : Nat) : Rat) = pw 52:=by rw [<- pw_cast]; rfl
 rw [hB,<- pw_add]
 obtain ⟨a,ha⟩ : ∃ a : Nat,a = 1074:=⟨_,rfl⟩
 have h1:=eta_one
 rw [<- ha] at h1
 rw [show 52 + k = a + 1023 by omega,pw_add]
 grind
noncomputable def tq : Rat:=pw 1019
theorem tq_top : 16 * tq = top:=by
 rw [top_eq]; unfold tq
 rw [show 1023 = 1019 + 4 by omega,pw_add]
 have : pw 4 = 16:=by decide +kernel
 rw [this]; grind
theorem tq_big : pw 1000 <= tq:=by unfold tq; exact pw_le (by omega)
theorem tq_pos : 0 < tq:=by unfold tq; exact pw_pos _
theorem pw_two {a : Nat} (h : 1 <= a) : 2 <= pw a:=by
 have h1:=pw_le h
 have : pw 1 = 2:=by decide +kernel
 grind
theorem eta_le : eta <= 1:=by
 have h1:=eta_one
 obtain ⟨a,ha⟩ : ∃ a : Nat,a = 1074:=⟨_,rfl⟩
 rw [<- ha] at h1
 have h2:=rmul_le (pw_one a) (Rat.le_of_lt eta_pos)
 grind
theorem ab_sq (a : Rat) : ab a * ab a = a * a:=by unfold ab; split <;> grind
theorem ab_tri (a b : Rat) : ab (a + b) <= ab a + ab b:=by
 have h1:=ab_le a
 have h2:=ab_le b
 exact ab_of (by grind) (by grind)
theorem ab_neg (a : Rat) : ab (-a) = ab a:=by
 have h1:=ab_le a
 have h2:=ab_le (-a)
 exact Rat.le_antisymm (ab_of (by grind) (by grind)) (ab_of (by grind) (by grind))
def fa (x y : Nat) : Nat:=(double.add x y).getD 0
def fs (x y : Nat) : Nat:=(double.sub x y).getD 0
def fm (x y : Nat) : Nat:=(double.mul x y).getD 0
def fok (x : Nat) : Prop:=x < 2 * W /\ rg x < I
theorem fa_ok {x y : Nat} (hx : fok x) (hy : fok y) (hb : ab (fv x + fv y) <= top) : fok (fa x y) /\ ab (fv (fa x y) - (fv x + fv y)) <= uu * ab (fv x + fv y) /\ double.add x y = some (fa x y):=by
 obtain ⟨s,h1,h2,h3,h4⟩:=fadd_ok hx.2 hy.2 hb
 have e : fa x y = s:=by unfold fa; rw [h1]; rfl
 rw [e]
 exact ⟨⟨h2,h3⟩,h4,h1⟩
theorem fv_ng {y : Nat} (hy : fok y) : fv (ng y) = -fv y /\ fok (ng y):=by
 refine ⟨?_,ng_lt y hy.1,by rw [rg_ng y hy.1]; exact hy.2⟩
 unfold fv
 rw [vl_ng y hy.1,Rat.intCast_neg]
 grind
theorem fs_ok {x y : Nat} (hx : fok x) (hy : fok y) (hb : ab (fv x - fv y) <= top) : fok (fs x y) /\ ab (fv (fs x y) - (fv x - fv y)) <= uu * ab (fv x - fv y) /\ double.sub x y = some (fs x y):=by
 obtain ⟨h1,h2⟩:=fv_ng hy
 have e : fv x + fv (ng y) = fv x - fv y:=by rw [h1]; grind
 have h:=fa_ok hx h2 (by rw [e]; exact hb)
 rw [e] at h
 have e2 : fs x y = fa x (ng y):=by unfold fs fa; rw [sub_any x y hy.1]
 rw [e2,sub_any x y hy.1]
 exact h
theorem fm_ok {x y : Nat} (hx : fok x) (hy : fok y) (hb : ab (fv x * fv y) <= top) : fok (fm x y) /\ ab (fv (fm x y) - fv x * fv y) <= uu * ab (fv x * fv y) + eta /\ double.mul x y = some (fm x y):=by
 obtain ⟨s,h1,h2,h3,h4⟩:=fmul_ok hx.2 hy.2 hb
 have e : fm x y = s:=by unfold fm; rw [h1]; rfl
 rw [e]
 exact ⟨⟨h2,h3⟩,h4,h1⟩
noncomputable def cval (z : Nat × Nat) : Cx:=⟨fv z.1,fv z.2⟩
def cok (z : Nat × Nat) : Prop:=fok z.1 /\ fok z.2
def cadd (a b : Nat × Nat) : Nat × Nat:=(fa a.1 b.1,fa a.2 b.2)
def csub (a b : Nat × Nat) : Nat × Nat:=(fs a.1 b.1,fs a.2 b.2)
def cmul (a b : Nat × Nat) : Nat × Nat:=(fs (fm a.1 b.1) (fm a.2 b.2),fa (fm a.1 b.2) (fm a.2 b.1))
theorem part_le {z : Cx} {t : Rat} (ht : 0 <= t) (h : n2 z <= t * t) : ab z.re <= t /\ ab z.im <= t:=by
 have h1:=sq_nonneg z.re
 have h2:=sq_nonneg z.im
 simp only [n2] at h
 exact ⟨le_of_sq ht (by rw [ab_sq]; grind),le_of_sq ht (by rw [ab_sq]; grind)⟩
theorem sq_of_ab {a b : Rat} (h : ab a <= b) : a * a <= b * b:=by
 rw [<- ab_sq a]
 exact sq_le (ab_nonneg a) (Rat.le_trans (ab_nonneg a) h) h
theorem sq_rel {d u s : Rat} (h : ab d <= u * ab s) : d * d <= u * u * (s * s):=by
 have h1:=sq_of_ab h
 rw [<- ab_sq s]
 grind
theorem two_rel {d1 d2 s1 s2 u : Rat} (h1 : ab d1 <= u * ab s1) (h2 : ab d2 <= u * ab s2) : d1 * d1 + d2 * d2 <= u * u * (s1 * s1 + s2 * s2):=by
 have k1:=sq_rel h1
 have k2:=sq_rel h2
 grind
theorem cadd_ok (a b : Nat × Nat) (ha : cok a) (hb : cok b) (h1 : n2 (cval a) <= tq * tq) (h2 : n2 (cval b) <= tq * tq) : cok (cadd a b) /\ n2 (Cx.sub (cval (cadd a b)) (Cx.add (cval a) (cval b))) <= uu * uu * n2 (Cx.add (cval a) (cval b)):=by
 have pt:=tq_pos
 have tt:=tq_top
 obtain ⟨a1,a2⟩:=part_le (Rat.le_of_lt pt) h1
 obtain ⟨b1,b2⟩:=part_le (Rat.le_of_lt pt) h2
 simp only [cval] at a1 a2 b1 b2
 have r:=fa_ok ha.1 hb.1 (by have:=ab_tri (fv a.1) (fv b.1); grind)
 have i:=fa_ok ha.2 hb.2 (by have:=ab_tri (fv a.2) (fv b.2); grind)
 refine ⟨⟨r.1,i.1⟩,?_⟩
 exact two_rel r.2.1 i.2.1
theorem csub_ok (a b : Nat × Nat) (ha : cok a) (hb : cok b) (h1 : n2 (cval a) <= tq * tq) (h2 : n2 (cval b) <= tq * tq) : cok (csub a b) /\ n2 (Cx.sub (cval (csub a b)) (Cx.sub (cval a) (cval b))) <= uu * uu * n2 (Cx.sub (cval a) (cval b)):=by
 have pt:=tq_pos
 have tt:=tq_top
 obtain ⟨a1,a2⟩:=part_le (Rat.le_of_lt pt) h1
 obtain ⟨b1,b2⟩:=part_le (Rat.le_of_lt pt) h2
 simp only [cval] at a1 a2 b1 b2
 have r:=fs_ok ha.1 hb.1 (by have:=ab_tri (fv a.1) (-fv b.1); rw [ab_neg] at this; have e : fv a.1 + -fv b.1 = fv a.1 - fv b.1:=by grind
                             rw [e] at this; grind)
 have i:=fs_ok ha.2 hb.2 (by have:=ab_tri (fv a.2) (-fv b.2); rw [ab_neg] at this; have e : fv a.2 + -fv b.2 = fv a.2 - fv b.2:=by grind
                             rw [e] at this; grind)
 refine ⟨⟨r.1,i.1⟩,?_⟩
 exact two_rel r.2.1 i.2.1
end
section
open Cx (n2)
open Fl
open Ieee
theorem part_err {P1 P2 f1 f2 g : Rat} (h1 : ab (f1 - P1) <= uu * ab P1 + eta) (h2 : ab (f2 - P2) <= uu * ab P2 + eta) (h3 : ab (g - (f1 + f2)) <= uu * ab (f1 + f2)) :
  ab (g - (P1 + P2)) <= uu * ab (P1 + P2) + ((uu + uu * uu) * (ab P1 + ab P2) + 3 * eta) /\ ab (f1 + f2) <= ab (P1 + P2) + uu * (ab P1 + ab P2) + 2 * eta:=by
 have pu:=uu_pos
 have pe:=eta_pos
 have ul : uu <= 1 / 4:=by decide +kernel
 have k1:=ab_tri (f1 - P1) (f2 - P2)
 have k2:=ab_tri (P1 + P2) ((f1 - P1) + (f2 - P2))
 have e2 : (P1 + P2) + ((f1 - P1) + (f2 - P2)) = f1 + f2:=by grind
 rw [e2] at k2
 have k3:=ab_tri (g - (f1 + f2)) ((f1 - P1) + (f2 - P2))
 have e3 : (g - (f1 + f2)) + ((f1 - P1) + (f2 - P2)) = g - (P1 + P2):=by grind
 rw [e3] at k3
 have hs : ab (f1 + f2) <= ab (P1 + P2) + uu * (ab P1 + ab P2) + 2 * eta:=by grind
 refine ⟨?_,hs⟩
 have k4:=rmul_le hs (Rat.le_of_lt pu)
 have k5:=Rat.mul_le_mul_of_nonneg_right ul (Rat.le_of_lt pe)
 generalize ab (P1 + P2) = x at *
 generalize ab P1 = a at *
 generalize ab P2 = b at *
 generalize eta = e at *
 generalize uu = u at *
 grind
theorem cs_le (p q c d : Rat) : (ab (p * c) + ab (q * d)) * (ab (p * c) + ab (q * d)) <= (p * p + q * q) * (c * c + d * d):=by
 rw [ab_mul,ab_mul]
 have h:=sq_nonneg (ab p * ab d - ab q * ab c)
 have e1:=ab_sq p
 have e2:=ab_sq q
 have e3:=ab_sq c
 have e4:=ab_sq d
 rw [<- e1,<- e2,<- e3,<- e4]
 generalize ab p = p at *
 generalize ab q = q at *
 generalize ab c = c at *
 generalize ab d = d at *
 grind
def muF : Rat:=24145 / 10000 * uu
noncomputable def thF : Rat:=2 * (1099511627776 + 1) * (9 * (eta * eta))
theorem one_tri {a b : Cx} {x y R : Rat} (hx : 0 <= x) (hy : 0 <= y) (hR : 0 <= R) (ha : n2 a <= x * x * R) (hb : n2 b <= y * y * R) : n2 (Cx.add a b) <= (x + y) * (x + y) * R:=by
 have e : ∀ z : Cx,N2 1 (fun _=>z) = n2 z:=fun z=>by unfold N2; simp only [sumN]; grind
 have h:=N2_tri (n:=1) (f:=fun _=>a) (g:=fun _=>b) hx hy hR (by rw [e]; exact ha) (by rw [e]; exact hb)
 rw [e] at h
 exact h
theorem mu_ok : (1 + 1 / 1099511627776) * ((uu + 14143 / 10000 * (uu + uu * uu)) * (uu + 14143 / 10000 * (uu + uu * uu))) <= muF * muF:=by decide +kernel
theorem sqrt_two : 2 <= (14143 / 10000 : Rat) * (14143 / 10000):=by decide +kernel
theorem both_err {er ei X Y S1 S2 M e : Rat} (h1 : ab er <= uu * ab X + ((uu + uu * uu) * S1 + 3 * e)) (h2 : ab ei <= uu * ab Y + ((uu + uu * uu) * S2 + 3 * e)) (hM : X * X + Y * Y = M) (p1 : 0 <= S1) (p2 : 0 <= S2) (s1 : S1 * S1 <= M) (s2 : S2 * S2 <= M) (pe : 0 <= e) :
  er * er + ei * ei <= muF * muF * M + 2 * (1099511627776 + 1) * (9 * (e * e)):=by
 have pu:=uu_pos
 obtain ⟨v,hv⟩ : ∃ v,v = uu + uu * uu:=⟨_,rfl⟩
 have pv : 0 <= v:=by have:=Rat.mul_nonneg (Rat.le_of_lt pu) (Rat.le_of_lt pu); rw [hv]; grind
 have pM : 0 <= M:=by rw [<- hM]; have:=sq_nonneg X; have:=sq_nonneg Y; grind
 rw [<- hv] at h1 h2
 have k1:=sq_of_ab h1
 have k2:=sq_of_ab h2
 have a1 : n2 ⟨uu * ab X,uu * ab Y⟩ <= uu * uu * M:=by
  have e1:=ab_sq X
  have e2:=ab_sq Y
  simp only [n2]
  rw [<- hM,<- e1,<- e2]
  generalize ab X = x at *
  generalize ab Y = y at *
  generalize uu = u at *
  grind
 have a2 : n2 ⟨v * S1,v * S2⟩ <= (14143 / 10000 * v) * (14143 / 10000 * v) * M:=by
  have k3:=rmul_le s1 (sq_nonneg v)
  have k4:=rmul_le s2 (sq_nonneg v)
  have k5:=Rat.mul_le_mul_of_nonneg_right sqrt_two (Rat.mul_nonneg (sq_nonneg v) pM)
  simp only [n2]
  grind
 have a3:=one_tri (Rat.le_of_lt pu) (show 0 <= 14143 / 10000 * v by grind) pM a1 a2
 have a4:=Cx.n2_tri (Cx.add ⟨uu * ab X,uu * ab Y⟩ ⟨v * S1,v * S2⟩) ⟨3 * e,3 * e⟩ 1099511627776 1
 have a5:=mu_ok
 rw [<- hv] at a5
 have a6:=Rat.mul_le_mul_of_nonneg_right a5 pM
 have a7 : n2 ⟨3 * e,3 * e⟩ = 2 * (9 * (e * e)):=by simp only [n2]; grind
 rw [a7] at a4
 have a8 : er * er + ei * ei <= n2 (Cx.add (Cx.add ⟨uu * ab X,uu * ab Y⟩ ⟨v * S1,v * S2⟩) ⟨3 * e,3 * e⟩):=by
  simp only [n2,Cx.add]
  grind
 generalize n2 (Cx.add (Cx.add ⟨uu * ab X,uu * ab Y⟩ ⟨v * S1,v * S2⟩) ⟨3 * e,3 * e⟩) = z at *
 generalize n2 (Cx.add ⟨uu * ab X,uu * ab Y⟩ ⟨v * S1,v * S2⟩) = y at *
 generalize uu + 14143 / 10000 * v = t at *
 generalize muF * muF = m at *
 generalize e * e = w at *
 clear a1 a2 k1 k2 h1 h2 s1 s2 hM hv
 grind
theorem cmul_ok (a b : Nat × Nat) (ha : cok a) (hb : cok b) (h1 : n2 (cval a) <= tq * tq) (h2 : n2 (cval b) <= tq * tq) (h3 : n2 (cval a) * n2 (cval b) <= tq * tq) :
  cok (cmul a b) /\ n2 (Cx.sub (cval (cmul a b)) (Cx.mul (cval a) (cval b))) <= muF * muF * (n2 (cval a) * n2 (cval b)) + thF:=by
 obtain ⟨p,hp⟩ : ∃ p,p = fv a.1:=⟨_,rfl⟩
 obtain ⟨q,hq⟩ : ∃ q,q = fv a.2:=⟨_,rfl⟩
 obtain ⟨c,hc⟩ : ∃ c,c = fv b.1:=⟨_,rfl⟩
 obtain ⟨d,hd⟩ : ∃ d,d = fv b.2:=⟨_,rfl⟩
 have pt:=tq_pos
 have tt:=tq_top
 have te : 2 <= tq:=by have:=tq_big; have:=pw_two (a:=1000) (by omega); grind
 have el:=eta_le
 have pe:=eta_pos
 have ul : uu <= 1 / 4:=by decide +kernel
 have pu:=uu_pos
 have hN : n2 (cval a) * n2 (cval b) = (p * p + q * q) * (c * c + d * d):=by simp only [n2,cval]; rw [hp,hq,hc,hd]
 rw [hN] at h3 ⊢
 have sP:=cs_le p q c d
 have sQ:=cs_le p q d c
 have eQ : (p * p + q * q) * (d * d + c * c) = (p * p + q * q) * (c * c + d * d):=by grind
 rw [eQ] at sQ
 have n1:=ab_nonneg (p * c)
 have n2':=ab_nonneg (q * d)
 have n3:=ab_nonneg (p * d)
 have n4:=ab_nonneg (q * c)
 have lP : ab (p * c) + ab (q * d) <= tq:=le_of_sq (Rat.le_of_lt pt) (Rat.le_trans sP h3)
 have lQ : ab (p * d) + ab (q * c) <= tq:=le_of_sq (Rat.le_of_lt pt) (Rat.le_trans sQ h3)
 have F1:=fm_ok ha.1 hb.1 (by rw [<- hp,<- hc]; grind)
 have F2:=fm_ok ha.2 hb.2 (by rw [<- hq,<- hd]; grind)
 have F3:=fm_ok ha.1 hb.2 (by rw [<- hp,<- hd]; grind)
 have F4:=fm_ok ha.2 hb.1 (by rw [<- hq,<- hc]; grind)
 rw [<- hp,<- hc] at F1
 rw [<- hq,<- hd] at F2
 rw [<- hp,<- hd] at F3
 rw [<- hq,<- hc] at F4
 obtain ⟨f1,hf1⟩ : ∃ f,f = fv (fm a.1 b.1):=⟨_,rfl⟩
 obtain ⟨f2,hf2⟩ : ∃ f,f = fv (fm a.2 b.2):=⟨_,rfl⟩
 obtain ⟨f3,hf3⟩ : ∃ f,f = fv (fm a.1 b.2):=⟨_,rfl⟩
 obtain ⟨f4,hf4⟩ : ∃ f,f = fv (fm a.2 b.1):=⟨_,rfl⟩
 have E1:=F1.2.1
 have E2:=F2.2.1
 have E3:=F3.2.1
 have E4:=F4.2.1
 rw [<- hf1] at E1
 rw [<- hf2] at E2
 rw [<- hf3] at E3
 rw [<- hf4] at E4
 have near : ∀ {P f : Rat},ab (f - P) <= uu * ab P + eta -> ab P <= tq -> ab f <= 2 * tq:=fun {P f} h hP=>by
  have h5:=ab_tri P (f - P)
  have e5 : P + (f - P) = f:=by grind
  rw [e5] at h5
  have h6:=Rat.mul_le_mul_of_nonneg_right ul (ab_nonneg P)
  grind
 have l1:=near E1 (by grind)
 have l2:=near E2 (by grind)
 have l3:=near E3 (by grind)
 have l4:=near E4 (by grind)
 have G1:=fs_ok F1.1 F2.1 (by rw [<- hf1,<- hf2]; have:=ab_tri f1 (-f2); rw [ab_neg] at this; have e : f1 + -f2 = f1 - f2:=by grind
                              rw [e] at this; grind)
 have G2:=fa_ok F3.1 F4.1 (by rw [<- hf3,<- hf4]; have:=ab_tri f3 f4; grind)
 rw [<- hf1,<- hf2] at G1
 rw [<- hf3,<- hf4] at G2
 refine ⟨⟨G1.1,G2.1⟩,?_⟩
 have g1:=G1.2.1
 have g2:=G2.2.1
 obtain ⟨w1,hw1⟩ : ∃ g,g = fv (fs (fm a.1 b.1) (fm a.2 b.2)):=⟨_,rfl⟩
 obtain ⟨w2,hw2⟩ : ∃ g,g = fv (fa (fm a.1 b.2) (fm a.2 b.1)):=⟨_,rfl⟩
 rw [<- hw1] at g1
 rw [<- hw2] at g2
 have E2' : ab (-f2 - -(q * d)) <= uu * ab (-(q * d)) + eta:=by
  have e : -f2 - -(q * d) = -(f2 - q * d):=by grind
  rw [e,ab_neg,ab_neg]
  exact E2
 have g1' : ab (w1 - (f1 + -f2)) <= uu * ab (f1 + -f2):=by
  have e : f1 + -f2 = f1 - f2:=by grind
  rw [e]
  exact g1
 have q1:=(part_err (P1:=p * c) (P2:=-(q * d)) (f1:=f1) (f2:=-f2) (g:=w1) E1 E2' g1').1
 have q2:=(part_err (P1:=p * d) (P2:=q * c) (f1:=f3) (f2:=f4) (g:=w2) E3 E4 g2).1
 rw [ab_neg] at q1
 have e1 : p * c + -(q * d) = p * c - q * d:=by grind
 rw [e1] at q1
 have hM : (p * c - q * d) * (p * c - q * d) + (p * d + q * c) * (p * d + q * c) = (p * p + q * q) * (c * c + d * d):=by grind
 have fin:=both_err (er:=w1 - (p * c - q * d)) (ei:=w2 - (p * d + q * c)) q1 q2 hM (by grind) (by grind) sP sQ (Rat.le_of_lt pe)
 have goal : n2 (Cx.sub (cval (cmul a b)) (Cx.mul (cval a) (cval b))) = (w1 - (p * c - q * d)) * (w1 - (p * c - q * d)) + (w2 - (p * d + q * c)) * (w2 - (p * d + q * c)):=by
  simp only [n2,Cx.sub,Cx.mul,cval,cmul]
  rw [<- hw1,<- hw2,<- hp,<- hq,<- hc,<- hd]
 rw [goal]
 unfold thF
 exact fin
noncomputable def NF : Near (Nat × Nat) where
 val:=cval
 ok:=cok
 add:=cadd
 sub:=csub
 mul:=cmul
 u:=uu
 mu:=muF
 theta:=thF
 big:=tq * tq
 pu:=Rat.le_of_lt uu_pos
 pmu:=by decide +kernel
 hadd:=cadd_ok
 hsub:=csub_ok
 hbig:=by
  have te : 2 <= tq:=by have:=tq_big; have:=pw_two (a:=1000) (by omega); grind
  have:=sq_le (show (0 : Rat) <= 2 by decide) (by grind) te
  grind
 hmul:=cmul_ok
end
section
open Cx (n2)
def tauF : Rat:=1 / 1267650600228229401496703205376
def omF : Rat:=1 + 1 / 1099511627776
def rhoF : Rat:=7072 / 10000 * uu
def kapF : Rat:=1 / 1208925819614629174706176
def epsF (k : Nat) : Rat:=(k : Rat) * (42 / 10 * uu)
noncomputable def phiF : Rat:=(pw 500)⁻¹
theorem phi_pos : 0 < phiF:=Rat.inv_pos.2 (pw_pos 500)
theorem phi_one : phiF * pw 500 = 1:=Rat.inv_mul_cancel _ (by have:=pw_pos 500; grind)
theorem stepF : ∀ k,k < 14 -> ((1 + tauF) * epsF k + ((muF * omF + rhoF) * (gamK tauF k + epsF k) + kapF)) + uu * ((1 + tauF) * gamK tauF k + ((1 + tauF) * epsF k + ((muF * omF + rhoF) * (gamK tauF k + epsF k) + kapF))) <= epsF (k + 1):=by decide +kernel
theorem lgeF : ∀ k,k < 15 -> gamK tauF k + epsF k <= 2:=by decide +kernel
theorem pepsF : ∀ k,k < 15 -> 0 <= epsF k:=by decide +kernel
theorem eta_phi : eta * pw 1000 <= 1:=by
 have h1:=eta_one
 have h2:=rmul_le (pw_le (show 1000 <= 1074 by omega)) (Rat.le_of_lt eta_pos)
 grind
theorem eta_phi2 : eta * pw 500 <= phiF:=by
 have h1:=phi_one
 have h2:=eta_phi
 have e : pw 1000 = pw 500 * pw 500:=by rw [<- pw_add]
 rw [e] at h2
 have h3:=pw_pos 500
 exact rdiv_le h3 (by grind)
theorem th_phi : thF <= kapF * kapF * phiF:=by
 have h1:=eta_phi2
 have pe:=eta_pos
 have h2 : pw 500 = pw 300 * pw 200:=by rw [<- pw_add]
 have h3 : pw 300 = 2037035976334486086268445688409378161051468393665936250636140449354381299763336706183397376:=by decide +kernel
 have h4 : eta <= 1:=eta_le
 have h5:=pw_one 200
 -- eta * eta <= eta <= phi / 2^500
 have k1 : eta * eta <= eta:=by have:=rmul_le h4 (Rat.le_of_lt pe); grind
 have k2 : eta * pw 300 <= phiF:=by
  have:=rmul_le h5 (Rat.mul_nonneg (Rat.le_of_lt pe) (Rat.le_of_lt (pw_pos 300)))
  rw [h2] at h1
  grind
 rw [h3] at k2
 have k3 : 2 * (1099511627776 + 1) * 9 <= kapF * kapF * 2037035976334486086268445688409378161051468393665936250636140449354381299763336706183397376:=by decide +kernel
 have k4:=Rat.mul_le_mul_of_nonneg_right k3 (Rat.le_of_lt pe)
 have k5:=rmul_le k2 (sq_nonneg kapF)
 unfold thF
 generalize kapF * kapF = kk at *
 grind
noncomputable def rootsF {W : Nat -> Nat -> Nat × Nat} {C : Nat -> Nat -> Cx} {K : Nat} (hK : K <= 14) (hW : ∀ k j,k < K -> j < 2 ^ k -> cok (W k j) /\ n2 (cval (W k j)) <= omF * omF /\ n2 (Cx.sub (cval (W k j)) (C k j)) <= rhoF * rhoF) (hC : ∀ k j,k < K -> j < 2 ^ k -> n2 (C k j) <= 1 + tauF) : Roots NF W C K where
 om:=omF
 rho:=rhoF
 tau:=tauF
 kap:=kapF
 phi:=phiF
 eps:=epsF
 pom:=by decide +kernel
 prho:=by decide +kernel
 ptau:=by decide +kernel
 pkap:=by decide +kernel
 pphi:=Rat.le_of_lt phi_pos
 peps:=fun k hk=>pepsF k (by omega)
 pth:=by
  show 0 <= thF
  have:=Rat.mul_nonneg (Rat.le_of_lt eta_pos) (Rat.le_of_lt eta_pos)
  unfold thF; grind
 lom:=by decide +kernel
 lmu:=by show muF <= 1; decide +kernel
 lkap:=by decide +kernel
 lge:=fun k hk=>lgeF k (by omega)
 hth:=th_phi
 hW:=hW
 hC:=hC
 step:=fun k hk=>stepF k (by omega)
def kpF : Rat:=kapF
def etaF (K : Nat) : Rat:=etaW muF (gamK tauF K) (epsF K) kpF
def ThF (K : Nat) : Rat:=epsF K * (gamK tauF K * gamK tauF K + etaF K) + gamK tauF K * etaF K
theorem ThF_le : ∀ K,K < 15 -> ThF K <= 13 * ((K : Rat) + 1) * uu:=by decide +kernel
theorem ThF_pos : ∀ K,K < 15 -> 0 <= ThF K:=by decide +kernel
theorem sizeF : ∀ K,K < 15 -> (gamK tauF K * gamK tauF K + etaF K) * (gamK tauF K * gamK tauF K + etaF K) <= 2:=by decide +kernel
end
section
open Cx (n2)
theorem phi_small : phiF * pw 200 <= 1:=by
 have h1:=phi_one
 have h2:=rmul_le (pw_le (show 200 <= 500 by omega)) (Rat.le_of_lt phi_pos)
 grind
theorem th_phi2 : thF <= kpF * kpF * (phiF * phiF):=by
 have h1:=eta_phi2
 have pe:=eta_pos
 have pp:=phi_pos
 have h3 : pw 300 = 2037035976334486086268445688409378161051468393665936250636140449354381299763336706183397376:=by decide +kernel
 have p5:=pw_pos 500
 have k1 : (eta * pw 500) * (eta * pw 500) <= phiF * phiF:=sq_le (Rat.mul_nonneg (Rat.le_of_lt pe) (Rat.le_of_lt p5)) (Rat.le_of_lt pp) h1
 have k2 : pw 300 <= pw 500 * pw 500:=by rw [<- pw_add]; exact pw_le (by omega)
 have pee:=Rat.mul_nonneg (Rat.le_of_lt pe) (Rat.le_of_lt pe)
 have k4:=Rat.mul_le_mul_of_nonneg_right k2 pee
 rw [h3] at k4
 have k3 : 2 * (1099511627776 + 1) * 9 <= kpF * kpF * 2037035976334486086268445688409378161051468393665936250636140449354381299763336706183397376:=by decide +kernel
 have k5:=Rat.mul_le_mul_of_nonneg_right k3 pee
 have k6:=rmul_le (show 2037035976334486086268445688409378161051468393665936250636140449354381299763336706183397376 * (eta * eta) <= phiF * phiF by grind) (sq_nonneg kpF)
 unfold thF
 generalize kpF * kpF = kk at *
 grind
theorem uu2 : uu * uu * pw 106 <= 1 + 1 / 1000000:=by
 have : pw 106 = 81129638414606681695789005144064:=by decide +kernel
 rw [this]
 decide +kernel
theorem Qf_le {K : Nat} {X : Nat -> Cx} {A2 : Rat} (h : ∀ i,i < 2 ^ K -> n2 (X i) <= A2) : pw K * Qf phiF K X <= pw K * pw K * (A2 + phiF):=by
 have h1 : N2 (2 ^ K) X <= pw K * A2:=by
  rw [<- sumN_const]
  exact sumN_le (fun i hi=>h i hi)
 have h2:=rmul_le h1 (Rat.le_of_lt (pw_pos K))
 unfold Qf
 grind
theorem Qf_ge {K : Nat} {X : Nat -> Cx} : phiF * pw K <= pw K * Qf phiF K X:=by
 have h:=Qf_floor (Rat.le_of_lt phi_pos) K X
 have:=rmul_le h (Rat.le_of_lt (pw_pos K))
 grind
theorem last_bound {k p A2 B2 t phi : Rat} (hk0 : 0 <= k) (hk : k <= 14) (hp1 : 1 <= p) (hp : p <= 16384) (pA : 0 <= A2) (pB : 0 <= B2) (lA : A2 <= pw 106) (lB : B2 <= pw 106) (pt : 0 <= t) (ht : t <= 13 * (k + 1) * uu) (pphi : 0 <= phi) (hphi : phi * pw 200 <= 1)
  (prem : 4096 * ((k + 1) * (k + 1)) * (p * p * p * (A2 * B2)) <= pw 106) : t * t * (p * p * p * ((A2 + phi) * (B2 + phi)) + phi) <= 21 / 100 * (21 / 100):=by
 have pu:=uu_pos
 have e106 : pw 106 = 81129638414606681695789005144064:=by decide +kernel
 have e200 : pw 200 = 1606938044258990275541962092341162602522202993782792835301376:=by decide +kernel
 rw [e200] at hphi
 rw [e106] at lA lB
 -- t * t <= 169 (k + 1)^2 uu^2
 have ht2:=sq_le pt (show 0 <= 13 * (k + 1) * uu by have:=Rat.mul_nonneg (show 0 <= 13 * (k + 1) by grind) (Rat.le_of_lt pu); grind) ht
 obtain ⟨P,hP⟩ : ∃ P,P = p * p * p:=⟨_,rfl⟩
 have pP : 0 <= P:=by rw [hP]; exact Rat.mul_nonneg (sq_nonneg p) (by grind)
 have lP : P <= 4398046511104:=by
  have h1:=sq_le (show 0 <= p by grind) (show (0 : Rat) <= 16384 by decide) hp
  have h2:=Rat.mul_le_mul_of_nonneg_right h1 (show 0 <= p by grind)
  have h3:=rmul_le hp (show (0 : Rat) <= 16384 * 16384 by decide +kernel)
  rw [hP]
  grind
 rw [<- hP] at prem ⊢
 obtain ⟨Z,hZ⟩ : ∃ Z,Z = A2 * B2:=⟨_,rfl⟩
 have pZ : 0 <= Z:=by rw [hZ]; exact Rat.mul_nonneg pA pB
 rw [<- hZ] at prem
 have pPZ:=Rat.mul_nonneg pP pZ
 -- what the floor adds is below 1
 have fl : P * ((A2 + phi) * (B2 + phi)) + phi <= P * Z + 1:=by
  have phi1 : phi <= 1 / 1606938044258990275541962092341162602522202993782792835301376:=by grind
  have s1 : (A2 + phi) * (B2 + phi) = Z + phi * (A2 + B2 + phi):=by rw [hZ]; grind
  have s2 : A2 + B2 + phi <= 162259276829213363391578010288129:=by grind
  have s3:=rmul_le s2 pphi
  have s4 : phi * (A2 + B2 + phi) <= 1 / 9000000000000:=by grind
  have s5:=rmul_le s4 pP
  have s6:=Rat.mul_le_mul_of_nonneg_right lP (show (0 : Rat) <= 1 / 9000000000000 by decide +kernel)
  rw [s1]
  grind
 have h1:=rmul_le fl (sq_nonneg t)
 obtain ⟨w,hw⟩ : ∃ w,w = uu * uu:=⟨_,rfl⟩
 obtain ⟨m,hm⟩ : ∃ m,m = (k + 1) * (k + 1):=⟨_,rfl⟩
 have ht3 : t * t <= 169 * (m * w):=by
  have e : 13 * (k + 1) * uu * (13 * (k + 1) * uu) = 169 * (((k + 1) * (k + 1)) * (uu * uu)):=by grind
  rw [e,<- hm,<- hw] at ht2
  exact ht2
 have h2:=Rat.mul_le_mul_of_nonneg_right ht3 (show 0 <= P * Z + 1 by grind)
 have h3:=uu2
 rw [<- hw] at h3
 have pw' : 0 <= w:=by rw [hw]; exact Rat.mul_nonneg (Rat.le_of_lt pu) (Rat.le_of_lt pu)
 rw [<- hm] at prem
 have h4:=rmul_le prem pw'
 have hk2 : m <= 225:=by rw [hm]; have:=sq_le (show 0 <= k + 1 by grind) (show (0 : Rat) <= 15 by decide) (show k + 1 <= 15 by grind); grind
 have hk3:=Rat.mul_le_mul_of_nonneg_right hk2 pw'
 have hu : w <= 1 / 1000000000000000000000000000000:=by rw [hw]; decide +kernel
 obtain ⟨q,hq⟩ : ∃ q,q = m * w * (P * Z):=⟨_,rfl⟩
 have h5 : 4096 * q <= 1 + 1 / 1000000:=by
  have e : w * (4096 * m * (P * Z)) = 4096 * q:=by rw [hq]; grind
  rw [e] at h4
  exact Rat.le_trans h4 h3
 have h6 : 169 * (m * w) * (P * Z + 1) = 169 * q + 169 * (m * w):=by rw [hq]; grind
 rw [h6] at h2
 have h7 : m * w <= 225 * (1 / 1000000000000000000000000000000):=by grind
 have h8 : 169 * ((1 + 1 / 1000000) / 4096) + 169 * (225 * (1 / 1000000000000000000000000000000)) <= (21 / 100 * (21 / 100) : Rat):=by decide +kernel
 clear hw hm hq hP hZ ht ht2 ht3 lP lA lB prem h4 h3
 grind
theorem round_off {K : Nat} (hK : K <= 14) {R : Nat -> Cx} {W W2 : Nat -> Nat -> Nat × Nat}
  (hW : ∀ k j,k < K -> j < 2 ^ k -> cok (W k j) /\ n2 (cval (W k j)) <= omF * omF /\ n2 (Cx.sub (cval (W k j)) (lev R K k j)) <= rhoF * rhoF) (hC : ∀ k j,k < K -> j < 2 ^ k -> n2 (lev R K k j) <= 1 + tauF)
  (hW2 : ∀ k j,k < K -> j < 2 ^ k -> cok (W2 k j) /\ n2 (cval (W2 k j)) <= omF * omF /\ n2 (Cx.sub (cval (W2 k j)) (lev (cj R) K k j)) <= rhoF * rhoF) (hC2 : ∀ k j,k < K -> j < 2 ^ k -> n2 (lev (cj R) K k j) <= 1 + tauF)
  (x y : Nat -> Nat × Nat) (hx : ∀ i,i < 2 ^ K -> cok (x i)) (hy : ∀ i,i < 2 ^ K -> cok (y i)) {A2 B2 : Rat} (pA : 0 <= A2) (pB : 0 <= B2) (lA : A2 <= pw 106) (lB : B2 <= pw 106)
  (hA : ∀ i,i < 2 ^ K -> n2 (cval (x i)) <= A2) (hB : ∀ i,i < 2 ^ K -> n2 (cval (y i)) <= B2) (prem : 4096 * (((K : Rat) + 1) * ((K : Rat) + 1)) * (pw K * pw K * pw K * (A2 * B2)) <= pw 106) (i : Nat) (hi : i < 2 ^ K) :
  cok (net cadd csub cmul W2 K (fun j=>cmul (net cadd csub cmul W K x j) (net cadd csub cmul W K y j)) i) /\
  n2 (Cx.sub (cval (net cadd csub cmul W2 K (fun j=>cmul (net cadd csub cmul W K x j) (net cadd csub cmul W K y j)) i)) (netC (lev (cj R) K) K (fun j=>Cx.mul (netC (lev R K) K (fun i=>cval (x i)) j) (netC (lev R K) K (fun i=>cval (y i)) j)) i)) <= (21 / 100 * pw K) * (21 / 100 * pw K):=by
 obtain ⟨Su,hSu⟩ : ∃ S,S = pw K * Qf phiF K (fun i=>cval (x i)):=⟨_,rfl⟩
 obtain ⟨Sv,hSv⟩ : ∃ S,S = pw K * Qf phiF K (fun i=>cval (y i)):=⟨_,rfl⟩
 have pp:=phi_pos
 have ps:=phi_small
 have pM:=pw_pos K
 have lM:=pw_one K
 have uM : pw K <= 16384:=by
  have h1:=pw_le hK
  have : pw 14 = 16384:=by decide +kernel
  grind
 have e106 : pw 106 = 81129638414606681695789005144064:=by decide +kernel
 have e200 : pw 200 = 1606938044258990275541962092341162602522202993782792835301376:=by decide +kernel
 have phi1 : phiF <= 1:=by rw [e200] at ps; grind
 have lSu : Su <= pw K * pw K * (A2 + phiF):=by rw [hSu]; exact Qf_le hA
 have lSv : Sv <= pw K * pw K * (B2 + phiF):=by rw [hSv]; exact Qf_le hB
 have gSu : phiF * pw K <= Su:=by rw [hSu]; exact Qf_ge
 have gSv : phiF * pw K <= Sv:=by rw [hSv]; exact Qf_ge
 have pSu : 0 <= Su:=Rat.le_trans (Rat.mul_nonneg (Rat.le_of_lt pp) (Rat.le_of_lt pM)) gSu
 have pSv : 0 <= Sv:=Rat.le_trans (Rat.mul_nonneg (Rat.le_of_lt pp) (Rat.le_of_lt pM)) gSv
 have pMM:=Rat.mul_nonneg (Rat.le_of_lt pM) (Rat.le_of_lt pM)
 have lMM : pw K * pw K <= 268435456:=by have:=sq_le (Rat.le_of_lt pM) (show (0 : Rat) <= 16384 by decide) uM; grind
 -- crude bounds: far below what floats hold
 have cu : Su <= 30000000000000000000000000000000000000000:=by
  have h1:=rmul_le (show A2 + phiF <= 81129638414606681695789005144065 by rw [e106] at lA; grind) pMM
  have h2:=Rat.mul_le_mul_of_nonneg_right lMM (show (0 : Rat) <= 81129638414606681695789005144065 by decide)
  grind
 have cv : Sv <= 30000000000000000000000000000000000000000:=by
  have h1:=rmul_le (show B2 + phiF <= 81129638414606681695789005144065 by rw [e106] at lB; grind) pMM
  have h2:=Rat.mul_le_mul_of_nonneg_right lMM (show (0 : Rat) <= 81129638414606681695789005144065 by decide)
  grind
 have pSS:=Rat.mul_nonneg pSu pSv
 have cSS : Su * Sv <= 900000000000000000000000000000000000000000000000000000000000000000000000000000000:=by
  have h1:=rmul_le cv pSu
  have h2:=Rat.mul_le_mul_of_nonneg_right cu (show (0 : Rat) <= 30000000000000000000000000000000000000000 by decide)
  grind
 have big : 100000000000000000000000000000000000000000000000000000000000000000000000000000000000000000000 <= tq * tq:=by
  have h1:=tq_big
  have h2 : pw 310 <= tq:=Rat.le_trans (pw_le (by omega)) h1
  have h3 : (100000000000000000000000000000000000000000000000000000000000000000000000000000000000000000000 : Rat) <= pw 310:=by decide +kernel
  have h4 : 1 <= tq:=by have:=pw_one 310; grind
  have h5:=rmul_le h4 (Rat.le_of_lt tq_pos)
  grind
 obtain ⟨S2,hS2⟩ : ∃ S2,S2 = Su * Sv + pw K * phiF:=⟨_,rfl⟩
 have pMp:=Rat.mul_nonneg (Rat.le_of_lt pM) (Rat.le_of_lt pp)
 have cS2 : S2 <= 900000000000000000000000000000000000000000000000000000000000000000000000000020000:=by
  have h1:=rmul_le phi1 (Rat.le_of_lt pM)
  rw [hS2]; grind
 have pS2 : 0 <= S2:=by rw [hS2]; grind
 have hkp : pw K * thF <= kpF * kpF * (Su * Sv):=by
  have h1:=rmul_le th_phi2 (Rat.le_of_lt pM)
  have h2 : phiF * phiF * pw K <= Su * Sv:=by
   have k1:=Rat.mul_le_mul_of_nonneg_right gSu pSv
   have k2:=rmul_le gSv (Rat.mul_nonneg (Rat.le_of_lt pp) (Rat.le_of_lt pM))
   have k3:=rmul_le lM (Rat.mul_nonneg (Rat.mul_nonneg (Rat.le_of_lt pp) (Rat.le_of_lt pp)) (Rat.le_of_lt pM))
   grind
  have h3:=rmul_le h2 (sq_nonneg kpF)
  grind
 have key:=cyc_err (rootsF hK hW hC) (rootsF hK hW2 hC2) x y hx hy (Su:=Su) (Sv:=Sv) (kp:=kpF) (S2:=S2) hSu hSv (by decide +kernel) hkp hS2
  (by show 40 * Su <= tq * tq; grind) (by show 40 * Sv <= tq * tq; grind) (by show 16 * (Su * Sv) <= tq * tq; grind)
  (by
   show 40 * (pw K * ((gamK tauF K * gamK tauF K + etaF K) * (gamK tauF K * gamK tauF K + etaF K) * S2)) <= tq * tq
   have h1:=Rat.mul_le_mul_of_nonneg_right (sizeF K (by omega)) pS2
   have h2:=rmul_le h1 (Rat.le_of_lt pM)
   have h3:=Rat.mul_le_mul_of_nonneg_right uM (show 0 <= 2 * S2 by grind)
   grind)
 refine ⟨key.1 i hi,?_⟩
 have h1:=N2_at (dif (fun i=>cval (net cadd csub cmul W2 K (fun j=>cmul (net cadd csub cmul W K x j) (net cadd csub cmul W K y j)) i)) (netC (lev (cj R) K) K (fun j=>Cx.mul (netC (lev R K) K (fun i=>cval (x i)) j) (netC (lev R K) K (fun i=>cval (y i)) j)))) hi
 have h2 : N2 (2 ^ K) (dif (fun i=>cval (net cadd csub cmul W2 K (fun j=>cmul (net cadd csub cmul W K x j) (net cadd csub cmul W K y j)) i)) (netC (lev (cj R) K) K (fun j=>Cx.mul (netC (lev R K) K (fun i=>cval (x i)) j) (netC (lev R K) K (fun i=>cval (y i)) j)))) <= ThF K * ThF K * (pw K * S2):=key.2
 refine Rat.le_trans h1 (Rat.le_trans h2 ?_)
 have hk14 : (K : Rat) <= 14:=Rat.natCast_le_natCast.2 hK
 have lb:=last_bound (k:=(K : Rat)) (p:=pw K) (A2:=A2) (B2:=B2) (t:=ThF K) (phi:=phiF) Rat.natCast_nonneg hk14 lM uM pA pB lA lB (ThF_pos K (by omega)) (ThF_le K (by omega)) (Rat.le_of_lt pp) ps prem
 -- pw K * S2 <= pw K ^ 2 * (pw K ^ 3 (A2 + phi) (B2 + phi) + phi)
 have s1 : Su * Sv <= (pw K * pw K * (A2 + phiF)) * (pw K * pw K * (B2 + phiF)):=by
  have k1:=Rat.mul_le_mul_of_nonneg_right lSu pSv
  have k2:=rmul_le lSv (show 0 <= pw K * pw K * (A2 + phiF) from Rat.mul_nonneg pMM (by grind))
  grind
 have s2 : pw K * S2 <= pw K * pw K * (pw K * pw K * pw K * ((A2 + phiF) * (B2 + phiF)) + phiF):=by
  have k1:=rmul_le s1 (Rat.le_of_lt pM)
  rw [hS2]
  grind
 have s3:=rmul_le s2 (sq_nonneg (ThF K))
 have s4:=rmul_le lb pMM
 generalize pw K * pw K * pw K * ((A2 + phiF) * (B2 + phiF)) + phiF = q at *
 clear key h1 h2 s1 prem
 grind
end
section
open Cx (n2)
def sumI : Nat -> (Nat -> Int) -> Int
 | 0,_=>0
 | n + 1,f=>sumI n f + f n
def convI (n : Nat) (X Y : Nat -> Int) (i : Nat) : Int:=sumI n (fun p=>X p * Y ((i + n - p) % n))
theorem sumC_int (n : Nat) (f : Nat -> Int) : sumC n (fun p=>⟨(f p : Rat),0⟩) = ⟨(sumI n f : Rat),0⟩:=by
 induction n with
 | zero=>rfl
 | succ n ih =>
   simp only [sumC,sumI,ih]
   apply Cx.ext <;> simp only [Cx.add]
   ·rw [Rat.intCast_add]
   ·grind
theorem conv_int {n : Nat} {x y : Nat -> Cx} {X Y : Nat -> Int} (hx : ∀ i,i < n -> x i = ⟨(X i : Rat),0⟩) (hy : ∀ i,i < n -> y i = ⟨(Y i : Rat),0⟩) (i : Nat) (hn : 0 < n) : conv n x y i = ⟨(convI n X Y i : Rat),0⟩:=by
 unfold conv convI
 rw [<- sumC_int]
 refine sumC_congr (fun p hp=>?_)
 rw [hx p hp,hy _ (Nat.mod_lt _ hn)]
 apply Cx.ext <;> simp only [Cx.mul]
 ·rw [Rat.intCast_mul]; grind
 ·grind
theorem tk_eq (tau : Rat) : ∀ k,3 * tk tau k = (pw (2 * k) - 1) * tau
 | 0=>by simp only [tk,pw]; grind
 | k + 1=>by
   have ih:=tk_eq tau k
   rw [show 2 * (k + 1) = 2 * k + 1 + 1 by omega]
   simp only [tk,pw]
   grind
theorem tk_le {tau : Rat} (h : 0 <= tau) (k : Nat) : tk tau k <= pw (2 * k) * tau:=by
 have h1:=tk_eq tau k
 have h2:=Rat.mul_nonneg (Rat.le_of_lt (pw_pos (2 * k))) h
 grind
theorem farT_le {K : Nat} (hK : K <= 14) {tau a b : Rat} (pt : 0 <= tau) (lt : tau * pw 150 <= 1) (pa : 0 <= a) (pb : 0 <= b) (lab : a * b <= pw 60) : farT K tau a b <= pw K * (1 / 100):=by
 have pab:=Rat.mul_nonneg pa pb
 have pM:=pw_pos K
 obtain ⟨d,hd⟩ : ∃ d,d = tk tau K:=⟨_,rfl⟩
 have pd : 0 <= d:=by rw [hd]; exact tk_pos pt K
 have ld : d <= pw 28 * tau:=by
  rw [hd]
  exact Rat.le_trans (tk_le pt K) (Rat.mul_le_mul_of_nonneg_right (pw_le (by omega)) pt)
 have e28 : pw 28 = 268435456:=by decide +kernel
 have e60 : pw 60 = 1152921504606846976:=by decide +kernel
 have e150 : pw 150 = 1427247692705959881058285969449495136382746624:=by decide +kernel
 rw [e28] at ld
 rw [e60] at lab
 rw [e150] at lt
 have d1 : d <= 1:=by grind
 obtain ⟨z,hz⟩ : ∃ z,z = a * b:=⟨_,rfl⟩
 rw [<- hz] at pab lab
 have pz:=pab
 have k1:=Rat.mul_nonneg pd pz
 have k2 : d * z * d <= d * z * 1:=rmul_le d1 k1
 have k2':=Rat.mul_nonneg k1 pd
 have k3 : d * z * d * d <= d * z * d * 1:=rmul_le d1 k2'
 have e : farT K tau a b = pw K * (4 * (4 * (d * z) + 4 * (d * z * d) + d * z * d * d) + 4 * (4 * (d * z) + 2 * (d * z * d) + 4 * (d * z)) + 9 * (tau * z)):=by
  unfold farT
  simp only
  rw [<- hd,hz]
  grind
 rw [e]
 refine rmul_le ?_ (Rat.le_of_lt pM)
 have k4:=Rat.mul_le_mul_of_nonneg_right ld pz
 have k5:=rmul_le lab pt
 have k6 : d * z <= 268435456 * (tau * z):=by grind
 have k7 : tau * z <= 1152921504606846976 * tau:=by grind
 generalize d * z = u at *
 generalize u * d = v at *
 grind
theorem X1_le {K : Nat} {x : Nat -> Cx} {m : Rat} (h : ∀ i,i < 2 ^ K -> s1 (x i) <= m) : X1 K x <= pw K * m:=by
 unfold X1
 rw [<- sumN_const]
 exact sumN_le h
theorem round_int {K : Nat} (hK : K <= 14) {R : Nat -> Cx} {tau0 : Rat} (T : Tab (2 ^ K) R tau0) (lt : tau0 * pw 150 <= 1) (hc : ∀ m,Cx.near (Cx.conj (R m)) (R (m * (2 ^ K - 1))) tau0) {W W2 : Nat -> Nat -> Nat × Nat}
  (hW : ∀ k j,k < K -> j < 2 ^ k -> cok (W k j) /\ n2 (cval (W k j)) <= omF * omF /\ n2 (Cx.sub (cval (W k j)) (lev R K k j)) <= rhoF * rhoF) (hC : ∀ k j,k < K -> j < 2 ^ k -> n2 (lev R K k j) <= 1 + tauF)
  (hW2 : ∀ k j,k < K -> j < 2 ^ k -> cok (W2 k j) /\ n2 (cval (W2 k j)) <= omF * omF /\ n2 (Cx.sub (cval (W2 k j)) (lev (cj R) K k j)) <= rhoF * rhoF) (hC2 : ∀ k j,k < K -> j < 2 ^ k -> n2 (lev (cj R) K k j) <= 1 + tauF)
  (x y : Nat -> Nat × Nat) (X Y : Nat -> Int) {ma mb : Rat} (hx : ∀ i,i < 2 ^ K -> cok (x i) /\ cval (x i) = ⟨(X i : Rat),0⟩) (hy : ∀ i,i < 2 ^ K -> cok (y i) /\ cval (y i) = ⟨(Y i : Rat),0⟩)
  (lX : ∀ i,i < 2 ^ K -> ab (X i : Rat) <= ma) (lY : ∀ i,i < 2 ^ K -> ab (Y i : Rat) <= mb) (pa : 0 <= ma) (pb : 0 <= mb) (la : ma <= pw 53) (lb : mb <= pw 53)
  (prem : 4096 * (((K : Rat) + 1) * ((K : Rat) + 1)) * (pw K * pw K * pw K * ((ma * ma) * (mb * mb))) <= pw 106) (i : Nat) (hi : i < 2 ^ K) :
  cok (net cadd csub cmul W2 K (fun j=>cmul (net cadd csub cmul W K x j) (net cadd csub cmul W K y j)) i) /\
  ab ((cval (net cadd csub cmul W2 K (fun j=>cmul (net cadd csub cmul W K x j) (net cadd csub cmul W K y j)) i)).re - pw K * (convI (2 ^ K) X Y i : Rat)) <= pw K * (22 / 100):=by
 have pM:=pw_pos K
 have sqA : ma * ma <= pw 106:=by have h:=sq_le pa (Rat.le_of_lt (pw_pos 53)) la; rw [<- pw_add] at h; exact h
 have sqB : mb * mb <= pw 106:=by have h:=sq_le pb (Rat.le_of_lt (pw_pos 53)) lb; rw [<- pw_add] at h; exact h
 have nX : ∀ i,i < 2 ^ K -> n2 (cval (x i)) <= ma * ma:=fun i hi=>by
  rw [(hx i hi).2]
  have h:=sq_of_ab (lX i hi)
  simp only [n2]
  grind
 have nY : ∀ i,i < 2 ^ K -> n2 (cval (y i)) <= mb * mb:=fun i hi=>by
  rw [(hy i hi).2]
  have h:=sq_of_ab (lY i hi)
  simp only [n2]
  grind
 have h:=round_off hK hW hC hW2 hC2 x y (fun i hi=>(hx i hi).1) (fun i hi=>(hy i hi).1) (Rat.mul_nonneg pa pa) (Rat.mul_nonneg pb pb) sqA sqB nX nY prem i hi
 refine ⟨h.1,?_⟩
 have e:=exact_near T hc (fun i=>cval (x i)) (fun i=>cval (y i)) i hi
 rw [conv_int (fun i hi=>(hx i hi).2) (fun i hi=>(hy i hi).2) i (Nat.two_pow_pos K)] at e
 -- the sums of sizes
 have sX : X1 K (fun i=>cval (x i)) <= pw K * ma:=X1_le (fun i hi=>by
  rw [(hx i hi).2]
  have h:=lX i hi
  unfold s1
  have h0 : ab (0 : Rat) = 0:=by unfold ab; grind
  simp only
  rw [h0]; grind)
 have sY : X1 K (fun i=>cval (y i)) <= pw K * mb:=X1_le (fun i hi=>by
  rw [(hy i hi).2]
  have h:=lY i hi
  unfold s1
  have h0 : ab (0 : Rat) = 0:=by unfold ab; grind
  simp only
  rw [h0]; grind)
 have p1:=X1_nonneg K (fun i=>cval (x i))
 have p2:=X1_nonneg K (fun i=>cval (y i))
 have lab : X1 K (fun i=>cval (x i)) * X1 K (fun i=>cval (y i)) <= pw 60:=by
  have k1:=Rat.mul_le_mul_of_nonneg_right sX p2
  have k2:=rmul_le sY (show 0 <= pw K * ma from Rat.mul_nonneg (Rat.le_of_lt pM) pa)
  -- (pw K ma pw K mb)^2 <= pw K * pw 106 / 4096
  refine Rat.le_trans (Rat.le_trans k1 k2) (le_of_sq (Rat.le_of_lt (pw_pos 60)) ?_)
  have uM : pw K <= 16384:=by
   have h1:=pw_le hK
   have : pw 14 = 16384:=by decide +kernel
   grind
  obtain ⟨q,hq⟩ : ∃ q,q = pw K * pw K * pw K * ((ma * ma) * (mb * mb)):=⟨_,rfl⟩
  have pq : 0 <= q:=by rw [hq]; exact Rat.mul_nonneg (Rat.mul_nonneg (Rat.mul_nonneg (Rat.le_of_lt pM) (Rat.le_of_lt pM)) (Rat.le_of_lt pM)) (Rat.mul_nonneg (sq_nonneg ma) (sq_nonneg mb))
  rw [<- hq] at prem
  have hk : 1 <= ((K : Rat) + 1) * ((K : Rat) + 1):=by
   have h0 : (0 : Rat) <= (K : Rat):=Rat.natCast_nonneg
   have:=sq_le (show (0 : Rat) <= 1 by decide) (show 0 <= (K : Rat) + 1 by grind) (show 1 <= (K : Rat) + 1 by grind)
   grind
  have k3:=Rat.mul_le_mul_of_nonneg_right hk pq
  have k4 : 4096 * q <= pw 106:=by grind
  have k5:=Rat.mul_le_mul_of_nonneg_right uM pq
  have e2 : pw K * ma * (pw K * mb) * (pw K * ma * (pw K * mb)) = pw K * q:=by rw [hq]; grind
  rw [e2,<- pw_add]
  have k6 : pw (60 + 60) = 16384 * pw 106:=by decide +kernel
  rw [k6]
  have p106:=pw_pos 106
  grind
 have ft:=farT_le hK T.ptau lt p1 p2 lab
 have c1:=(part_le (show 0 <= 21 / 100 * pw K by grind) h.2).1
 have e3 : ((2 ^ K : Nat) : Rat) = pw K:=pw_cast K
 rw [e3] at e
 obtain ⟨V,hV⟩ : ∃ V,V = netC (lev (cj R) K) K (fun j=>Cx.mul (netC (lev R K) K (fun i=>cval (x i)) j) (netC (lev R K) K (fun i=>cval (y i)) j)) i:=⟨_,rfl⟩
 rw [<- hV] at e c1
 unfold Cx.near at e
 simp only [Cx.mul] at e
 simp only [Cx.sub] at c1
 have c2:=ab_le ((cval (net cadd csub cmul W2 K (fun j=>cmul (net cadd csub cmul W K x j) (net cadd csub cmul W K y j)) i)).re - V.re)
 obtain ⟨e4,e5,_⟩:=e
 exact ab_of (by grind) (by grind)
end
section
open Cx (n2)
def sc : Int:=1606938044258990275541962092341162602522202993782792835301376
def stepT (g c : Int × Int) : Int × Int:=((c.1 * g.1 - c.2 * g.2) / sc,(c.1 * g.2 + c.2 * g.1) / sc)
def cT (g : Int × Int) : Nat -> Int × Int
 | 0=>(sc,0)
 | j + 1=>stepT g (cT g j)
def qr : Rat:=1606938044258990275541962092341162602522202993782792835301376
def cq (z : Int × Int) : Cx:=⟨(z.1 : Rat) / qr,(z.2 : Rat) / qr⟩
theorem qr_pos : (0 : Rat) < qr:=by decide +kernel
theorem div_off (a : Int) : ((a / sc : Int) : Rat) * qr <= (a : Rat) /\ (a : Rat) <= ((a / sc : Int) : Rat) * qr + qr:=by
 have hs : (0 : Int) < sc:=by decide
 have h1:=Int.emod_add_mul_ediv a sc
 have h2:=Int.emod_nonneg a (show sc ≠ 0 by decide)
 have h3:=Int.emod_lt_of_pos a hs
 have e : (sc : Rat) = qr:=by decide +kernel
 have k1 : sc * (a / sc) <= a:=by omega
 have k2 : a <= sc * (a / sc) + sc:=by omega
 have k3 : ((sc * (a / sc) : Int) : Rat) <= (a : Rat):=Rat.intCast_le_intCast.2 k1
 have k4 : (a : Rat) <= ((sc * (a / sc) + sc : Int) : Rat):=Rat.intCast_le_intCast.2 k2
 rw [Rat.intCast_mul,e] at k3
 rw [Rat.intCast_add,Rat.intCast_mul,e] at k4
 grind
def sig : Rat:=1 / 803469022129495137770981046170581301261101496891396417650688
theorem stepT_off (g c : Int × Int) : n2 (Cx.sub (cq (stepT g c)) (Cx.mul (cq c) (cq g))) <= sig * sig:=by
 have h1:=div_off (c.1 * g.1 - c.2 * g.2)
 have h2:=div_off (c.1 * g.2 + c.2 * g.1)
 rw [Rat.intCast_sub,Rat.intCast_mul,Rat.intCast_mul] at h1
 rw [Rat.intCast_add,Rat.intCast_mul,Rat.intCast_mul] at h2
 have hq:=qr_pos
 obtain ⟨i,hi⟩ : ∃ i,i = qr⁻¹:=⟨_,rfl⟩
 have hiq : i * qr = 1:=by rw [hi]; exact Rat.inv_mul_cancel _ (by grind)
 have pi : 0 < i:=by rw [hi]; exact Rat.inv_pos.2 hq
 have ei : i = 1 / 1606938044258990275541962092341162602522202993782792835301376:=by rw [hi]; decide +kernel
 obtain ⟨a,ha⟩ : ∃ a : Rat,a = (((c.1 * g.1 - c.2 * g.2) / sc : Int) : Rat):=⟨_,rfl⟩
 obtain ⟨b,hb⟩ : ∃ b : Rat,b = (((c.1 * g.2 + c.2 * g.1) / sc : Int) : Rat):=⟨_,rfl⟩
 rw [<- ha] at h1
 rw [<- hb] at h2
 have r1 : (cq (stepT g c)).re = a * i:=by show (((c.1 * g.1 - c.2 * g.2) / sc : Int) : Rat) / qr = _; rw [Rat.div_def,<- hi,ha]
 have r2 : (cq (stepT g c)).im = b * i:=by show (((c.1 * g.2 + c.2 * g.1) / sc : Int) : Rat) / qr = _; rw [Rat.div_def,<- hi,hb]
 have r3 : ∀ z : Int × Int,cq z = ⟨(z.1 : Rat) * i,(z.2 : Rat) * i⟩:=fun z=>by unfold cq; rw [Rat.div_def,Rat.div_def,hi]
 obtain ⟨x,hx⟩ : ∃ x : Rat,x = (c.1 : Rat) * (g.1 : Rat) - (c.2 : Rat) * (g.2 : Rat):=⟨_,rfl⟩
 obtain ⟨y,hy⟩ : ∃ y : Rat,y = (c.1 : Rat) * (g.2 : Rat) + (c.2 : Rat) * (g.1 : Rat):=⟨_,rfl⟩
 rw [<- hx] at h1
 rw [<- hy] at h2
 have m1 : Cx.mul (cq c) (cq g) = ⟨x * i * i,y * i * i⟩:=by
  rw [r3 c,r3 g,hx,hy]
  apply Cx.ext <;> simp only [Cx.mul] <;> grind
 rw [m1]
 have pii:=Rat.mul_nonneg (Rat.le_of_lt pi) (Rat.le_of_lt pi)
 have d1 : -(i) <= a * i - x * i * i /\ a * i - x * i * i <= i:=by
  have k1:=Rat.mul_le_mul_of_nonneg_right h1.1 pii
  have k2:=Rat.mul_le_mul_of_nonneg_right h1.2 pii
  have e1 : a * qr * (i * i) = a * i * (i * qr):=by grind
  have e2 : (a * qr + qr) * (i * i) = a * i * (i * qr) + i * (i * qr):=by grind
  rw [e1,hiq] at k1
  rw [e2,hiq] at k2
  grind
 have d2 : -(i) <= b * i - y * i * i /\ b * i - y * i * i <= i:=by
  have k1:=Rat.mul_le_mul_of_nonneg_right h2.1 pii
  have k2:=Rat.mul_le_mul_of_nonneg_right h2.2 pii
  have e1 : b * qr * (i * i) = b * i * (i * qr):=by grind
  have e2 : (b * qr + qr) * (i * i) = b * i * (i * qr) + i * (i * qr):=by grind
  rw [e1,hiq] at k1
  rw [e2,hiq] at k2
  grind
 have s1:=sq_of_ab (ab_of d1.2 (show -(a * i - x * i * i) <= i by grind))
 have s2:=sq_of_ab (ab_of d2.2 (show -(b * i - y * i * i) <= i by grind))
 have es : sig = 2 * i:=by rw [ei]; decide +kernel
 simp only [n2,Cx.sub]
 rw [r1,r2,es]
 grind
structure Gen (g : Int × Int) (h : Nat) : Prop where
 pos : 0 < h
 small : h <= 16384
 size : n2 (cq g) <= (1 + sig) * (1 + sig)
 turn : n2 (Cx.add (cq (cT g h)) Cx.one) <= (1024 * 1024 * sig) * (1024 * 1024 * sig)
theorem one_add {a b : Cx} {x y : Rat} (hx : 0 <= x) (hy : 0 <= y) (ha : n2 a <= x * x) (hb : n2 b <= y * y) : n2 (Cx.add a b) <= (x + y) * (x + y):=by
 have h:=one_tri (a:=a) (b:=b) (R:=1) hx hy (by decide) (by grind) (by grind)
 grind
theorem one_mul' {a b : Cx} {x y : Rat} (hx : 0 <= x) (hy : 0 <= y) (ha : n2 a <= x * x) (hb : n2 b <= y * y) : n2 (Cx.mul a b) <= (x * y) * (x * y):=by
 rw [Cx.n2_mul]
 have k1:=Rat.mul_le_mul_of_nonneg_right ha (Cx.n2_nonneg b)
 have k2:=rmul_le hb (sq_nonneg x)
 grind
theorem sig_pos : 0 < sig:=by decide +kernel
theorem sig_small : sig * 1000000000000000000000000000000 <= 1:=by decide +kernel
theorem cT_size {g : Int × Int} {h : Nat} (G : Gen g h) : ∀ j,j <= 16384 -> n2 (cq (cT g j)) <= (1 + 4 * (j : Rat) * sig) * (1 + 4 * (j : Rat) * sig)
 | 0,_=>by
   have e : cq (cT g 0) = Cx.one:=by
    show cq (sc,0) = Cx.one
    apply Cx.ext <;> decide +kernel
   rw [e]
   have : n2 Cx.one = 1:=by simp only [n2,Cx.one]; grind
   rw [this]; simp; grind
 | j + 1,hj=>by
   have ih:=cT_size G j (by omega)
   have hs:=sig_pos
   have hsm:=sig_small
   have pj : (0 : Rat) <= (j : Rat):=Rat.natCast_nonneg
   have lj : (j : Rat) <= ((16384 : Nat) : Rat):=Rat.natCast_le_natCast.2 (by omega)
   have e16 : ((16384 : Nat) : Rat) = 16384:=by decide +kernel
   rw [e16] at lj
   have p1:=Rat.mul_nonneg (show (0 : Rat) <= 4 * (j : Rat) by grind) (Rat.le_of_lt hs)
   have h1:=one_mul' (show 0 <= 1 + 4 * (j : Rat) * sig by grind) (show 0 <= 1 + sig by grind) ih G.size
   have h2:=one_add (show 0 <= (1 + 4 * (j : Rat) * sig) * (1 + sig) from Rat.mul_nonneg (by grind) (by grind)) (Rat.le_of_lt hs) h1 (stepT_off g (cT g j))
   have e : Cx.add (Cx.mul (cq (cT g j)) (cq g)) (Cx.sub (cq (stepT g (cT g j))) (Cx.mul (cq (cT g j)) (cq g))) = cq (cT g (j + 1)):=by
    show _ = cq (stepT g (cT g j))
    apply Cx.ext <;> simp only [Cx.add,Cx.sub] <;> grind
   rw [e] at h2
   refine Rat.le_trans h2 (sq_le (by have:=Rat.mul_nonneg (show 0 <= 1 + 4 * (j : Rat) * sig by grind) (show 0 <= 1 + sig by grind); grind) ?_ ?_)
   ·rw [Rat.natCast_add]; have:=Rat.mul_nonneg pj (Rat.le_of_lt hs); grind
   ·rw [Rat.natCast_add]
    have k1:=Rat.mul_le_mul_of_nonneg_right lj (Rat.mul_nonneg (Rat.le_of_lt hs) (Rat.le_of_lt hs))
    have k2 : sig * sig <= 1 / 1000000000000000000000000000000 * sig:=Rat.mul_le_mul_of_nonneg_right (by grind) (Rat.le_of_lt hs)
    grind
end
section
open Cx (n2)
def RT (g : Int × Int) (h m : Nat) : Cx:=if m / h % 2 = 0 then cq (cT g (m % h)) else Cx.neg (cq (cT g (m % h)))
theorem n2_neg (z : Cx) : n2 (Cx.neg z) = n2 z:=by simp only [n2,Cx.neg]; grind
def gm : Rat:=1 + 65536 * sig
def st1 : Rat:=(1024 * 1024 + 1) * sig
def tT : Rat:=32768 * (3 * st1)
theorem RT_size {g : Int × Int} {h : Nat} (G : Gen g h) (m : Nat) : n2 (RT g h m) <= gm * gm:=by
 have hj : m % h < h:=Nat.mod_lt _ G.pos
 have hs:=G.small
 have h1:=cT_size G (m % h) (by omega)
 have e : n2 (RT g h m) = n2 (cq (cT g (m % h))):=by unfold RT; split
                                                     ·rfl
                                                     ·exact n2_neg _
 rw [e]
 have lj : ((m % h : Nat) : Rat) <= ((16384 : Nat) : Rat):=Rat.natCast_le_natCast.2 (by omega)
 have e16 : ((16384 : Nat) : Rat) = 16384:=by decide +kernel
 rw [e16] at lj
 have pj : (0 : Rat) <= ((m % h : Nat) : Rat):=Rat.natCast_nonneg
 have k1:=Rat.mul_le_mul_of_nonneg_right lj (Rat.le_of_lt sig_pos)
 have k2:=Rat.mul_nonneg pj (Rat.le_of_lt sig_pos)
 exact Rat.le_trans h1 (sq_le (by grind) (by unfold gm; have:=sig_pos; grind) (by unfold gm; grind))
theorem RT_half {g : Int × Int} {h : Nat} (G : Gen g h) (m : Nat) : RT g h (m + h) = Cx.neg (RT g h m):=by
 have hp:=G.pos
 unfold RT
 rw [Nat.add_div_right _ hp,Nat.add_mod_right]
 by_cases h0 : m / h % 2 = 0
 ·rw [if_pos h0,if_neg (by omega)]
 ·rw [if_neg h0,if_pos (by omega)]
  apply Cx.ext <;> simp only [Cx.neg] <;> grind
theorem RT_zero {g : Int × Int} {h : Nat} (G : Gen g h) : RT g h 0 = Cx.one:=by
 unfold RT
 rw [Nat.zero_div,Nat.zero_mod,if_pos rfl]
 show cq (sc,0) = Cx.one
 apply Cx.ext <;> decide +kernel
theorem RT_step {g : Int × Int} {h : Nat} (G : Gen g h) (m : Nat) : n2 (Cx.sub (RT g h (m + 1)) (Cx.mul (RT g h m) (cq g))) <= st1 * st1:=by
 have hp:=G.pos
 have hs:=sig_pos
 have hm:=Nat.mod_add_div m h
 have hj : m % h < h:=Nat.mod_lt _ hp
 have off:=stepT_off g (cT g (m % h))
 by_cases hl : m % h + 1 < h
 ·have d1 : (m + 1) / h = m / h:=by
   rw [show m + 1 = (m % h + 1) + h * (m / h) by omega,Nat.add_mul_div_left _ _ hp,Nat.div_eq_of_lt hl,Nat.zero_add]
  have d2 : (m + 1) % h = m % h + 1:=by
   rw [show m + 1 = (m % h + 1) + h * (m / h) by omega,Nat.add_mul_mod_self_left,Nat.mod_eq_of_lt hl]
  have key : n2 (Cx.sub (RT g h (m + 1)) (Cx.mul (RT g h m) (cq g))) = n2 (Cx.sub (cq (stepT g (cT g (m % h)))) (Cx.mul (cq (cT g (m % h))) (cq g))):=by
   unfold RT
   rw [d1,d2]
   show n2 (Cx.sub (if m / h % 2 = 0 then cq (stepT g (cT g (m % h))) else Cx.neg (cq (stepT g (cT g (m % h))))) _) = _
   split
   ·rfl
   ·simp only [n2,Cx.sub,Cx.mul,Cx.neg]; grind
  rw [key]
  exact Rat.le_trans off (sq_le (Rat.le_of_lt hs) (by unfold st1; grind) (by unfold st1; grind))
 ·have he : m % h + 1 = h:=by omega
  have d1 : (m + 1) / h = m / h + 1:=by
   have : m + 1 = h * (m / h + 1):=by rw [Nat.mul_add]; omega
   rw [this,Nat.mul_div_cancel_left _ hp]
  have d2 : (m + 1) % h = 0:=by
   have : m + 1 = h * (m / h + 1):=by rw [Nat.mul_add]; omega
   rw [this,Nat.mul_mod_right]
  have e0 : cq (cT g 0) = Cx.one:=by
   show cq (sc,0) = Cx.one
   apply Cx.ext <;> decide +kernel
  have tn:=G.turn
  have eh : cT g h = stepT g (cT g (m % h)):=by
   obtain ⟨q,hq⟩ : ∃ q,q = m % h:=⟨_,rfl⟩
   rw [<- hq] at he ⊢
   rw [<- he]; rfl
  rw [eh] at tn
  have off2 : n2 (Cx.sub (Cx.mul (cq (cT g (m % h))) (cq g)) (cq (stepT g (cT g (m % h))))) <= sig * sig:=by rw [Cx.n2_sub_comm]; exact off
  have k:=one_add (show (0 : Rat) <= 1024 * 1024 * sig by grind) (Rat.le_of_lt hs) tn off2
  have key : n2 (Cx.sub (RT g h (m + 1)) (Cx.mul (RT g h m) (cq g))) = n2 (Cx.add (Cx.add (cq (stepT g (cT g (m % h)))) Cx.one) (Cx.sub (Cx.mul (cq (cT g (m % h))) (cq g)) (cq (stepT g (cT g (m % h)))))):=by
   unfold RT
   rw [d1,d2,e0]
   by_cases h0 : m / h % 2 = 0
   ·rw [if_pos h0,if_neg (by omega)]
    simp only [n2,Cx.sub,Cx.mul,Cx.neg,Cx.add,Cx.one]; grind
   ·rw [if_neg h0,if_pos (by omega)]
    simp only [n2,Cx.sub,Cx.mul,Cx.neg,Cx.add,Cx.one]; grind
  rw [key]
  have e : 1024 * 1024 * sig + sig = st1:=by unfold st1; grind
  rw [e] at k
  exact k
theorem st1_pos : 0 < st1:=by decide +kernel
theorem RT_mul {g : Int × Int} {h : Nat} (G : Gen g h) (a : Nat) : ∀ b,b <= 32768 -> n2 (Cx.sub (RT g h (a + b)) (Cx.mul (RT g h a) (RT g h b))) <= ((b : Rat) * (3 * st1)) * ((b : Rat) * (3 * st1))
 | 0,_=>by
   rw [RT_zero G,Cx.mul_one,Nat.add_zero]
   have : n2 (Cx.sub (RT g h a) (RT g h a)) = 0:=by simp only [n2,Cx.sub]; grind
   rw [this]; simp
 | b + 1,hb=>by
   have ih:=RT_mul G a b (by omega)
   have s1:=RT_step G (a + b)
   have s2:=RT_step G b
   have hs:=sig_pos
   have ht:=st1_pos
   have pb : (0 : Rat) <= (b : Rat):=Rat.natCast_nonneg
   have lb : (b : Rat) <= ((32768 : Nat) : Rat):=Rat.natCast_le_natCast.2 (by omega)
   have e32 : ((32768 : Nat) : Rat) = 32768:=by decide +kernel
   rw [e32] at lb
   have pe : 0 <= (b : Rat) * (3 * st1):=Rat.mul_nonneg pb (by grind)
   have pg : 0 <= gm:=by unfold gm; grind
   have k1:=one_mul' pe (show 0 <= 1 + sig by grind) ih G.size
   have k2:=one_mul' pg (Rat.le_of_lt ht) (RT_size G a) (show n2 (Cx.sub (Cx.mul (RT g h b) (cq g)) (RT g h (b + 1))) <= st1 * st1 by rw [Cx.n2_sub_comm]; exact s2)
   have k3:=one_add (show 0 <= (b : Rat) * (3 * st1) * (1 + sig) from Rat.mul_nonneg pe (by grind)) (show 0 <= gm * st1 from Rat.mul_nonneg pg (Rat.le_of_lt ht)) k1 k2
   have k4:=one_add (Rat.le_of_lt ht) (show 0 <= (b : Rat) * (3 * st1) * (1 + sig) + gm * st1 by have:=Rat.mul_nonneg pe (show 0 <= 1 + sig by grind); have:=Rat.mul_nonneg pg (Rat.le_of_lt ht); grind) s1 k3
   have e : Cx.add (Cx.sub (RT g h (a + b + 1)) (Cx.mul (RT g h (a + b)) (cq g))) (Cx.add (Cx.mul (Cx.sub (RT g h (a + b)) (Cx.mul (RT g h a) (RT g h b))) (cq g)) (Cx.mul (RT g h a) (Cx.sub (Cx.mul (RT g h b) (cq g)) (RT g h (b + 1))))) = Cx.sub (RT g h (a + (b + 1))) (Cx.mul (RT g h a) (RT g h (b + 1))):=by
    rw [<- Nat.add_assoc]
    apply Cx.ext <;> simp only [Cx.add,Cx.sub,Cx.mul] <;> grind
   rw [e] at k4
   refine Rat.le_trans k4 (sq_le (by have:=Rat.mul_nonneg pe (show 0 <= 1 + sig by grind); have:=Rat.mul_nonneg pg (Rat.le_of_lt ht); grind) (by rw [Rat.natCast_add]; have:=Rat.mul_nonneg pb (Rat.le_of_lt ht); grind) ?_)
   rw [Rat.natCast_add]
   have m1 : (b : Rat) * sig <= 1 / 2:=by
    have:=Rat.mul_le_mul_of_nonneg_right lb (Rat.le_of_lt hs)
    have h2 : 32768 * sig <= 1 / 6:=by decide +kernel
    grind
   have m1' : (b : Rat) * sig <= 1 / 6:=by
    have:=Rat.mul_le_mul_of_nonneg_right lb (Rat.le_of_lt hs)
    have h2 : 32768 * sig <= 1 / 6:=by decide +kernel
    grind
   have m2:=Rat.mul_le_mul_of_nonneg_right m1' (show 0 <= 3 * st1 by grind)
   have m3 : gm <= 3 / 2:=by decide +kernel
   have m4:=Rat.mul_le_mul_of_nonneg_right m3 (Rat.le_of_lt ht)
   have e1 : ((1 : Nat) : Rat) = 1:=by decide +kernel
   rw [e1]
   grind
end
section
open Cx (n2)
def tCC : Rat:=8 * tT
theorem tC_ok : tCC * pw 150 <= 1:=by
 have : pw 150 = 1427247692705959881058285969449495136382746624:=by decide +kernel
 rw [this]
 decide +kernel
theorem tC_pos : 0 <= tCC:=by decide +kernel
theorem tT_pos : 0 <= tT:=by decide +kernel
theorem RT_period {g : Int × Int} {h : Nat} (G : Gen g h) (m : Nat) : ∀ c,RT g h (m + c * (h + h)) = RT g h m
 | 0=>by rw [Nat.zero_mul,Nat.add_zero]
 | c + 1=>by
   rw [Nat.succ_mul,<- Nat.add_assoc,<- Nat.add_assoc,RT_half G,RT_half G,RT_period G m c]
   apply Cx.ext <;> simp only [Cx.neg] <;> grind
theorem near_of {z w : Cx} {t : Rat} (ht : 0 <= t) (h : n2 (Cx.sub z w) <= t * t) : Cx.near z w t:=by
 obtain ⟨h1,h2⟩:=part_le ht h
 have k1:=ab_le (Cx.sub z w).re
 have k2:=ab_le (Cx.sub z w).im
 simp only [Cx.sub] at h1 h2 k1 k2
 unfold Cx.near
 grind
theorem RT_mul_all {g : Int × Int} {h : Nat} (G : Gen g h) (a b : Nat) : n2 (Cx.sub (RT g h (a + b)) (Cx.mul (RT g h a) (RT g h b))) <= tT * tT:=by
 have hp:=G.pos
 have hs:=G.small
 have hm:=Nat.mod_add_div b (h + h)
 have hl : b % (h + h) < h + h:=Nat.mod_lt _ (by omega)
 have e1 : RT g h b = RT g h (b % (h + h)):=by
  have:=RT_period G (b % (h + h)) (b / (h + h))
  rw [Nat.mul_comm] at this
  rw [<- this,hm]
 have e2 : RT g h (a + b) = RT g h (a + b % (h + h)):=by
  have:=RT_period G (a + b % (h + h)) (b / (h + h))
  rw [Nat.mul_comm,Nat.add_assoc,hm] at this
  exact this
 rw [e1,e2]
 have k:=RT_mul G a (b % (h + h)) (by omega)
 have lb : ((b % (h + h) : Nat) : Rat) <= ((32768 : Nat) : Rat):=Rat.natCast_le_natCast.2 (by omega)
 have e32 : ((32768 : Nat) : Rat) = 32768:=by decide +kernel
 rw [e32] at lb
 have pb : (0 : Rat) <= ((b % (h + h) : Nat) : Rat):=Rat.natCast_nonneg
 have ht:=st1_pos
 have k1:=Rat.mul_le_mul_of_nonneg_right lb (show 0 <= 3 * st1 by grind)
 exact Rat.le_trans k (sq_le (Rat.mul_nonneg pb (by grind)) tT_pos (by unfold tT; exact k1))
theorem RT_tab {g : Int × Int} {h K : Nat} (G : Gen g h) (hK : 2 ^ K = h + h) : Tab (2 ^ K) (RT g h) tCC where
 ptau:=tC_pos
 zero:=RT_zero G
 half:=fun m=>by rw [hK,show (h + h) / 2 = h by omega]; exact RT_half G m
 even:=by rw [hK]; omega
 lim:=fun m=>by
  have h1:=RT_size G m
  have h2 : gm <= 2:=by decide +kernel
  have h3 : 0 <= gm:=by decide +kernel
  obtain ⟨k1,k2⟩:=part_le h3 h1
  have k3:=ab_le (RT g h m).re
  have k4:=ab_le (RT g h m).im
  unfold Cx.lim
  grind
 mul:=fun a b=>(near_of tT_pos (RT_mul_all G a b)).le (by decide +kernel)
theorem RT_conj {g : Int × Int} {h K : Nat} (G : Gen g h) (hK : 2 ^ K = h + h) (m : Nat) : Cx.near (Cx.conj (RT g h m)) (RT g h (m * (2 ^ K - 1))) tCC:=by
 have hn : 0 < 2 ^ K:=Nat.two_pow_pos K
 have h1:=RT_mul_all G m (m * (2 ^ K - 1))
 have e : m + m * (2 ^ K - 1) = 0 + m * (h + h):=by
  rw [<- hK,Nat.zero_add]
  obtain ⟨q,hq⟩ : ∃ q,2 ^ K = q + 1:=⟨2 ^ K - 1,by omega⟩
  rw [hq,Nat.add_sub_cancel,Nat.mul_add,Nat.mul_one,Nat.add_comm]
 rw [e,RT_period G 0 m,RT_zero G] at h1
 obtain ⟨z,hz⟩ : ∃ z,z = RT g h m:=⟨_,rfl⟩
 obtain ⟨w,hw⟩ : ∃ w,w = RT g h (m * (2 ^ K - 1)):=⟨_,rfl⟩
 have s1:=RT_size G m
 have s2:=RT_size G (m * (2 ^ K - 1))
 rw [<- hz,<- hw] at h1
 rw [<- hz] at s1
 rw [<- hw] at s2
 rw [<- hz,<- hw]
 have pt:=tT_pos
 have pg : 0 <= gm:=by decide +kernel
 -- the size of z is near 1
 have lo : 1 - 4 * tT <= n2 z:=by
  have d:=(part_le pt h1).1
  have d2:=ab_le (Cx.sub Cx.one (Cx.mul z w)).re
  have r : 1 - tT <= (Cx.mul z w).re:=by
   simp only [Cx.sub,Cx.one] at d d2
   simp only [Cx.mul] at d d2 ⊢
   grind
  have q1 : (1 - tT) * (1 - tT) <= n2 (Cx.mul z w):=by
   have k1:=sq_le (show 0 <= 1 - tT by have : tT <= 1:=by decide +kernel
                                       grind) (show 0 <= (Cx.mul z w).re by have : tT <= 1:=by decide +kernel
                                                                            grind) r
   have k2:=sq_nonneg (Cx.mul z w).im
   simp only [n2] at k1 k2 ⊢
   grind
  rw [Cx.n2_mul] at q1
  have q2:=rmul_le s2 (Cx.n2_nonneg z)
  have q3 : (1 - 4 * tT) * (gm * gm) <= (1 - tT) * (1 - tT):=by decide +kernel
  have q4 : 0 < gm * gm:=by decide +kernel
  exact rdiv_le q4 (by grind)
 have hi : n2 z <= 1 + 4 * tT:=by
  have : gm * gm <= 1 + 4 * tT:=by decide +kernel
  exact Rat.le_trans s1 this
 -- the difference in two parts
 have a1 : n2 (Cx.mul w ⟨1 - n2 z,0⟩) <= (gm * (4 * tT)) * (gm * (4 * tT)):=one_mul' pg (by grind) s2 (by
  have k : (1 - n2 z) * (1 - n2 z) <= 4 * tT * (4 * tT):=sq_of_ab (ab_of (by grind) (by grind))
  show (1 - n2 z) * (1 - n2 z) + 0 * 0 <= 4 * tT * (4 * tT)
  grind)
 have a2 : n2 (Cx.mul (Cx.conj z) (Cx.sub (Cx.mul z w) Cx.one)) <= (gm * tT) * (gm * tT):=one_mul' pg pt (by
  have : n2 (Cx.conj z) = n2 z:=by simp only [n2,Cx.conj]; grind
  rw [this]; exact s1) (by rw [Cx.n2_sub_comm]; exact h1)
 have a3:=one_add (Rat.mul_nonneg pg (show 0 <= 4 * tT by grind)) (Rat.mul_nonneg pg pt) a1 a2
 have e2 : Cx.add (Cx.mul w ⟨1 - n2 z,0⟩) (Cx.mul (Cx.conj z) (Cx.sub (Cx.mul z w) Cx.one)) = Cx.sub w (Cx.conj z):=by
  apply Cx.ext <;> simp only [n2,Cx.add,Cx.sub,Cx.mul,Cx.conj,Cx.one] <;> grind
 rw [e2,Cx.n2_sub_comm] at a3
 exact (near_of (show 0 <= gm * (4 * tT) + gm * tT by decide +kernel) a3).le (by decide +kernel)
theorem RT_lev {g : Int × Int} {h K : Nat} (G : Gen g h) (k j : Nat) : n2 (lev (RT g h) K k j) <= 1 + tauF:=by
 have h1 : gm * gm <= 1 + tauF:=by decide +kernel
 exact Rat.le_trans (RT_size G _) h1
theorem RT_levc {g : Int × Int} {h K : Nat} (G : Gen g h) (k j : Nat) : n2 (lev (cj (RT g h)) K k j) <= 1 + tauF:=by
 have e : n2 (lev (cj (RT g h)) K k j) = n2 (lev (RT g h) K k j):=by unfold lev cj; simp only [n2,Cx.conj]; grind
 rw [e]
 exact RT_lev G k j
end
section
open Cx (n2)
open Fl
def cvu (w : Nat × Nat) : Cx:=⟨(vl w.1 : Rat),(vl w.2 : Rat)⟩
def cokB (w : Nat × Nat) : Bool:=decide (w.1 < 2 * W) && decide (rg w.1 < I) && (decide (w.2 < 2 * W) && decide (rg w.2 < I))
def chkR (w : Nat × Nat) (r : Cx) (p : Rat) : Bool:=cokB w && decide (n2 (cvu w) <= (omF * p) * (omF * p)) && decide (n2 (Cx.sub (cvu w) ⟨r.re * p,r.im * p⟩) <= (rhoF * p) * (rhoF * p))
theorem chkR_ok {w : Nat × Nat} {r : Cx} (h : chkR w r (pw 1074) = true) : cok w /\ n2 (cval w) <= omF * omF /\ n2 (Cx.sub (cval w) r) <= rhoF * rhoF:=by
 unfold chkR cokB at h
 simp only [Bool.and_eq_true,decide_eq_true_eq] at h
 obtain ⟨⟨⟨⟨h1,h2⟩,h3,h4⟩,h5⟩,h6⟩:=h
 have e1:=eta_one
 have pe:=eta_pos
 obtain ⟨p,hp⟩ : ∃ p,p = pw 1074:=⟨_,rfl⟩
 rw [<- hp] at h5 h6 e1
 have pee:=Rat.mul_nonneg (Rat.le_of_lt pe) (Rat.le_of_lt pe)
 refine ⟨⟨⟨h1,h2⟩,⟨h3,h4⟩⟩,?_,?_⟩
 ·have k:=Rat.mul_le_mul_of_nonneg_right h5 pee
  have e2 : omF * p * (omF * p) * (eta * eta) = omF * omF * ((eta * p) * (eta * p)):=by grind
  rw [e2,e1] at k
  have e3 : n2 (cvu w) * (eta * eta) = n2 (cval w):=by simp only [n2,cvu,cval,fv]; grind
  rw [e3] at k
  grind
 ·have k:=Rat.mul_le_mul_of_nonneg_right h6 pee
  have e2 : rhoF * p * (rhoF * p) * (eta * eta) = rhoF * rhoF * ((eta * p) * (eta * p)):=by grind
  rw [e2,e1] at k
  have e3 : n2 (Cx.sub (cvu w) ⟨r.re * p,r.im * p⟩) * (eta * eta) = n2 (Cx.sub (cval w) r):=by
   have q1 : ((vl w.1 : Rat) - r.re * p) * eta = (vl w.1 : Rat) * eta - r.re:=by
    have : ((vl w.1 : Rat) - r.re * p) * eta = (vl w.1 : Rat) * eta - r.re * (eta * p):=by grind
    rw [this,e1]; grind
   have q2 : ((vl w.2 : Rat) - r.im * p) * eta = (vl w.2 : Rat) * eta - r.im:=by
    have : ((vl w.2 : Rat) - r.im * p) * eta = (vl w.2 : Rat) * eta - r.im * (eta * p):=by grind
    rw [this,e1]; grind
   simp only [n2,Cx.sub,cvu,cval,fv]
   rw [<- q1,<- q2]
   grind
  rw [e3] at k
  grind
def chkL (g : Int × Int) (p : Rat) : List (Nat × Nat) -> Int × Int -> Bool
 | [],_=>true
 | w :: l,c=>chkR w (cq c) p && chkL g p l (stepT g c)
theorem chkL_at {g : Int × Int} {p : Rat} : ∀ (l : List (Nat × Nat)) (j : Nat),chkL g p l (cT g j) = true -> ∀ i w,l[i]? = some w -> chkR w (cq (cT g (j + i))) p = true
 | [],j,_,i,w,hw=>by simp at hw
 | a :: l,j,h,i,w,hw=>by
   unfold chkL at h
   rw [Bool.and_eq_true] at h
   rcases i with _ | i
   ·simp at hw; subst hw; exact h.1
   ·have h2 : chkL g p l (cT g (j + 1)) = true:=h.2
    have:=chkL_at l (j + 1) h2 i w (by simpa using hw)
    rw [show j + (i + 1) = j + 1 + i by omega]
    exact this
theorem roots_of {g : Int × Int} {K : Nat} (G : Gen g (2 ^ (K - 1))) {l : List (Nat × Nat)} (hl : l.length = 2 ^ (K - 1)) (hc : chkL g (pw 1074) l (cT g 0) = true) {hf : Nat -> Nat × Nat} (hh : ∀ i w,l[i]? = some w -> hf i = w) (k j : Nat) (hk : k < K) (hj : j < 2 ^ k) :
  cok (hf (j * 2 ^ (K - 1 - k))) /\ n2 (cval (hf (j * 2 ^ (K - 1 - k)))) <= omF * omF /\ n2 (Cx.sub (cval (hf (j * 2 ^ (K - 1 - k)))) (lev (RT g (2 ^ (K - 1))) K k j)) <= rhoF * rhoF:=by
 have hi : j * 2 ^ (K - 1 - k) < 2 ^ (K - 1):=by
  have h1 : 2 ^ (K - 1) = 2 ^ k * 2 ^ (K - 1 - k):=by rw [<- Nat.pow_add,show k + (K - 1 - k) = K - 1 by omega]
  rw [h1]
  exact Nat.mul_lt_mul_of_pos_right hj (Nat.two_pow_pos _)
 obtain ⟨i,hi0⟩ : ∃ i,i = j * 2 ^ (K - 1 - k):=⟨_,rfl⟩
 unfold lev
 rw [<- hi0] at hi ⊢
 obtain ⟨w,hw⟩ : ∃ w,l[i]? = some w:=⟨_,List.getElem?_eq_getElem (by omega)⟩
 have h:=chkR_ok (chkL_at l 0 hc i w hw)
 rw [hh i w hw]
 have e : RT g (2 ^ (K - 1)) i = cq (cT g (0 + i)):=by
  unfold RT
  rw [Nat.div_eq_of_lt hi,Nat.mod_eq_of_lt hi,if_pos rfl,Nat.zero_add]
 rw [e]
 exact h
end
end Go.Proofs.YtfpopdneokekiaaGreatDoor

/-
The transform there, place by place, and back: the round product, nearly.
-/
import Derived.Lib.Hide
import Derived.Test.YtnpanpkahbcecaaGreatDoorPh
set_option linter.unusedVariables false
set_option linter.unusedSimpArgs false
namespace Go.Proofs.YtnpanpkahbcecaaGreatDoor
section
structure Cx where
 re : Rat
 im : Rat
namespace Cx
def add (a b : Cx) : Cx:=⟨a.re + b.re,a.im + b.im⟩
def sub (a b : Cx) : Cx:=⟨a.re - b.re,a.im - b.im⟩
def mul (a b : Cx) : Cx:=⟨a.re * b.re - a.im * b.im,a.re * b.im + a.im * b.re⟩
def conj (a : Cx) : Cx:=⟨a.re,-a.im⟩
def zero : Cx:=⟨0,0⟩
def n2 (a : Cx) : Rat:=a.re * a.re + a.im * a.im
theorem ext {a b : Cx} (h1 : a.re = b.re) (h2 : a.im = b.im) : a = b:=by cases a; cases b; simp_all
theorem n2_mul (a b : Cx) : n2 (mul a b) = n2 a * n2 b:=by simp only [n2,mul]; grind
theorem n2_pair (a b : Cx) : n2 (add a b) + n2 (sub a b) = 2 * (n2 a + n2 b):=by simp only [n2,add,sub]; grind
end Cx
theorem sq_nonneg (a : Rat) : 0 <= a * a:=by
 rcases (Rat.le_total : 0 <= a \/ a <= 0) with h | h
 ·exact Rat.mul_nonneg h h
 ·have h1 : 0 <= -a:=by grind
  have:=Rat.mul_nonneg h1 h1
  grind
theorem rmul_le {a b c : Rat} (h : a <= b) (hc : 0 <= c) : c * a <= c * b:=Rat.mul_le_mul_of_nonneg_left h hc
theorem rdiv_le {a b c : Rat} (hc : 0 < c) (h : c * a <= c * b) : a <= b:=by
 rcases (Rat.le_total : a <= b \/ b <= a) with h1 | h1
 ·exact h1
 ·by_cases h2 : b = a
  ·rw [h2]; exact Rat.le_refl
  ·have h3 : 0 < a - b:=by grind
   have h4:=Rat.mul_pos hc h3
   grind
theorem sq_zero {a : Rat} (h : a * a <= 0) : a = 0:=by
 by_cases h0 : a = 0
 ·exact h0
 ·rcases (Rat.le_total : 0 <= a \/ a <= 0) with h1 | h1
  ·have h2 : 0 < a:=by grind
   have:=Rat.mul_pos h2 h2
   grind
  ·have h2 : 0 < -a:=by grind
   have:=Rat.mul_pos h2 h2
   grind
theorem sq_le {a b : Rat} (ha : 0 <= a) (hb : 0 <= b) (h : a <= b) : a * a <= b * b:=by
 have h1:=rmul_le h ha
 have h2:=rmul_le h hb
 grind
theorem le_of_sq {a b : Rat} (hb : 0 <= b) (h : a * a <= b * b) : a <= b:=by
 rcases (Rat.le_total : a <= b \/ b <= a) with h1 | h1
 ·exact h1
 ·by_cases h2 : a = b
  ·rw [h2]; exact Rat.le_refl
  ·have h3 : 0 < a - b:=by grind
   have h4 : 0 < a + b:=by grind
   have:=Rat.mul_pos h3 h4
   grind
namespace Cx
theorem n2_nonneg (a : Cx) : 0 <= n2 a:=by
 have h1:=sq_nonneg a.re
 have h2:=sq_nonneg a.im
 simp only [n2]; grind
theorem n2_zero {a : Cx} (h : n2 a <= 0) : a = zero:=by
 have h1:=sq_nonneg a.re
 have h2:=sq_nonneg a.im
 simp only [n2] at h
 exact ext (sq_zero (by grind)) (sq_zero (by grind))
theorem n2_tri (a b : Cx) (p q : Rat) : p * q * n2 (add a b) <= (p + q) * (q * n2 a + p * n2 b):=by
 have h1:=sq_nonneg (q * a.re - p * b.re)
 have h2:=sq_nonneg (q * a.im - p * b.im)
 simp only [n2,add]
 grind
theorem add_zero (a : Cx) : add a zero = a:=by apply ext <;> simp only [add,zero] <;> grind
theorem zero_add (a : Cx) : add zero a = a:=by apply ext <;> simp only [add,zero] <;> grind
end Cx
def sumN : Nat -> (Nat -> Rat) -> Rat
 | 0,_=>0
 | n + 1,f=>sumN n f + f n
theorem sumN_congr {n : Nat} {f g : Nat -> Rat} (h : ∀ i,i < n -> f i = g i) : sumN n f = sumN n g:=by
 induction n with
 | zero=>rfl
 | succ n ih=>simp only [sumN]; rw [ih (fun i hi=>h i (by omega)),h n (by omega)]
theorem sumN_le {n : Nat} {f g : Nat -> Rat} (h : ∀ i,i < n -> f i <= g i) : sumN n f <= sumN n g:=by
 induction n with
 | zero=>exact Rat.le_refl
 | succ n ih =>
   have h1:=ih (fun i hi=>h i (by omega))
   have h2:=h n (by omega)
   simp only [sumN]; grind
theorem sumN_add (n : Nat) (f g : Nat -> Rat) : sumN n (fun i=>f i + g i) = sumN n f + sumN n g:=by
 induction n with
 | zero=>simp only [sumN]; grind
 | succ n ih=>simp only [sumN,ih]; grind
theorem sumN_mul (n : Nat) (c : Rat) (f : Nat -> Rat) : sumN n (fun i=>c * f i) = c * sumN n f:=by
 induction n with
 | zero=>simp only [sumN]; grind
 | succ n ih=>simp only [sumN,ih]; grind
theorem sumN_zero (n : Nat) : sumN n (fun _=>0) = 0:=by
 induction n with
 | zero=>rfl
 | succ n ih=>simp only [sumN,ih]; grind
theorem sumN_nonneg {n : Nat} {f : Nat -> Rat} (h : ∀ i,i < n -> 0 <= f i) : 0 <= sumN n f:=by
 have:=sumN_le (n:=n) (f:=fun _=>0) (g:=f) h
 rw [sumN_zero] at this
 exact this
theorem sumN_one {n : Nat} {f : Nat -> Rat} (h : ∀ i,i < n -> 0 <= f i) {j : Nat} (hj : j < n) : f j <= sumN n f:=by
 induction n with
 | zero=>omega
 | succ n ih =>
   simp only [sumN]
   by_cases hjn : j = n
   ·subst hjn
    have:=sumN_nonneg (n:=j) (f:=f) (fun i hi=>h i (by omega))
    grind
   ·have h1:=ih (fun i hi=>h i (by omega)) (by omega)
    have h2:=h n (by omega)
    grind
theorem sumN_split (m k : Nat) (f : Nat -> Rat) : sumN (m + k) f = sumN m f + sumN k (fun i=>f (m + i)):=by
 induction k with
 | zero=>simp only [sumN,Nat.add_zero]; grind
 | succ k ih=>rw [<- Nat.add_assoc]; simp only [sumN,ih]; grind
theorem sumN_even (m : Nat) (f : Nat -> Rat) : sumN (2 * m) f = sumN m (fun i=>f (2 * i)) + sumN m (fun i=>f (2 * i + 1)):=by
 induction m with
 | zero=>simp only [sumN]; grind
 | succ m ih=>rw [show 2 * (m + 1) = 2 * m + 1 + 1 by omega]; simp only [sumN,ih]; grind
def N2 (n : Nat) (f : Nat -> Cx) : Rat:=sumN n (fun i=>Cx.n2 (f i))
theorem N2_nonneg (n : Nat) (f : Nat -> Cx) : 0 <= N2 n f:=sumN_nonneg (fun i _=>Cx.n2_nonneg _)
theorem N2_at {n j : Nat} (f : Nat -> Cx) (hj : j < n) : Cx.n2 (f j) <= N2 n f:=sumN_one (f:=fun i=>Cx.n2 (f i)) (fun i _=>Cx.n2_nonneg _) hj
theorem N2_tri {n : Nat} {f g : Nat -> Cx} {a b R : Rat} (ha : 0 <= a) (hb : 0 <= b) (hR : 0 <= R) (hf : N2 n f <= a * a * R) (hg : N2 n g <= b * b * R) : N2 n (fun i=>Cx.add (f i) (g i)) <= (a + b) * (a + b) * R:=by
 have zero : ∀ (h : Nat -> Cx),N2 n h <= 0 -> ∀ i,i < n -> h i = Cx.zero:=fun h hh i hi=>Cx.n2_zero (Rat.le_trans (N2_at h hi) hh)
 by_cases ha0 : a = 0
 ·subst ha0
  have h1:=zero f (by grind)
  have h2 : N2 n (fun i=>Cx.add (f i) (g i)) = N2 n g:=sumN_congr (fun i hi=>by show Cx.n2 (Cx.add (f i) (g i)) = _; rw [h1 i hi,Cx.zero_add])
  rw [h2]
  grind
 ·by_cases hb0 : b = 0
  ·subst hb0
   have h1:=zero g (by grind)
   have h2 : N2 n (fun i=>Cx.add (f i) (g i)) = N2 n f:=sumN_congr (fun i hi=>by show Cx.n2 (Cx.add (f i) (g i)) = _; rw [h1 i hi,Cx.add_zero])
   rw [h2]
   grind
  ·have pa : 0 < a:=by grind
   have pb : 0 < b:=by grind
   have pab:=Rat.mul_pos pa pb
   have key : a * b * N2 n (fun i=>Cx.add (f i) (g i)) <= (a + b) * (b * N2 n f + a * N2 n g):=by
    unfold N2
    rw [<- sumN_mul,<- sumN_mul,<- sumN_mul,<- sumN_add,<- sumN_mul]
    exact sumN_le (fun i _=>Cx.n2_tri (f i) (g i) a b)
   refine rdiv_le pab (Rat.le_trans key ?_)
   have h1:=rmul_le hf hb
   have h2:=rmul_le hg ha
   have h3 : b * N2 n f + a * N2 n g <= a * b * (a + b) * R:=by grind
   have h4:=rmul_le h3 (show 0 <= a + b by grind)
   grind
end
section
open Cx (n2)
def dif (f g : Nat -> Cx) : Nat -> Cx:=fun i=>Cx.sub (f i) (g i)
theorem Cx.n2_sub_comm (a b : Cx) : n2 (Cx.sub a b) = n2 (Cx.sub b a):=by simp only [n2,Cx.sub]; grind
theorem N2_congr {n : Nat} {f g : Nat -> Cx} (h : ∀ i,i < n -> f i = g i) : N2 n f = N2 n g:=sumN_congr (fun i hi=>by rw [h i hi])
theorem N2_off {n : Nat} {f g : Nat -> Cx} {a b R : Rat} (ha : 0 <= a) (hb : 0 <= b) (hR : 0 <= R) (hg : N2 n g <= a * a * R) (hd : N2 n (dif f g) <= b * b * R) : N2 n f <= (a + b) * (a + b) * R:=by
 have h:=N2_tri ha hb hR hg hd
 have e : N2 n (fun i=>Cx.add (g i) (dif f g i)) = N2 n f:=N2_congr (fun i _=>by apply Cx.ext <;> simp only [dif,Cx.add,Cx.sub] <;> grind)
 rw [e] at h
 exact h
theorem N2_pair (n : Nat) (f g : Nat -> Cx) : N2 n (fun i=>Cx.add (f i) (g i)) + N2 n (fun i=>Cx.sub (f i) (g i)) = 2 * (N2 n f + N2 n g):=by
 unfold N2
 rw [<- sumN_add,<- sumN_add,<- sumN_mul]
 exact sumN_congr (fun i _=>Cx.n2_pair _ _)
theorem N2_scale {n : Nat} {f g : Nat -> Cx} {c : Rat} (h : ∀ i,i < n -> n2 (f i) <= c * n2 (g i)) : N2 n f <= c * N2 n g:=by
 unfold N2
 rw [<- sumN_mul]
 exact sumN_le h
def two (n : Nat) (f g : Nat -> Cx) : Nat -> Cx:=fun i=>if i < n then f i else g (i - n)
theorem N2_two (n : Nat) (f g : Nat -> Cx) : N2 (n + n) (two n f g) = N2 n f + N2 n g:=by
 unfold N2
 rw [sumN_split]
 congr 1
 ·exact sumN_congr (fun i hi=>by simp only [two,if_pos hi])
 ·exact sumN_congr (fun i hi=>by simp only [two]; rw [if_neg (by omega),Nat.add_sub_cancel_left])
theorem two_add (n : Nat) (f g f' g' : Nat -> Cx) : (fun i=>Cx.add (two n f g i) (two n f' g' i)) = two n (fun i=>Cx.add (f i) (f' i)) (fun i=>Cx.add (g i) (g' i)):=by
 funext i
 simp only [two]
 split <;> rfl
theorem two_tri {n : Nat} {f g f' g' : Nat -> Cx} {a b R : Rat} (ha : 0 <= a) (hb : 0 <= b) (hR : 0 <= R) (h1 : N2 n f + N2 n g <= a * a * R) (h2 : N2 n f' + N2 n g' <= b * b * R) :
  N2 n (fun i=>Cx.add (f i) (f' i)) + N2 n (fun i=>Cx.add (g i) (g' i)) <= (a + b) * (a + b) * R:=by
 rw [<- N2_two] at h1 h2
 have h:=N2_tri ha hb hR h1 h2
 rw [two_add,N2_two] at h
 exact h
theorem mul3 {a b c d : Rat} (h : a <= b) (hc : 0 <= c) (hd : 0 <= d) : c * a * d <= c * b * d:=by
 have h1:=rmul_le h hc
 have h2:=rmul_le h1 hd
 grind
theorem level {n : Nat} {e o e' o' t' W C s' d' : Nat -> Cx} {eps gam u mu om rho tau kap theta M Qe Qo e1 : Rat}
  (p1 : 0 <= eps) (p2 : 0 <= gam) (p3 : 0 <= u) (p4 : 0 <= mu) (p5 : 0 <= om) (p6 : 0 <= rho) (p7 : 0 <= tau) (p8 : 0 <= kap) (pM : 0 <= M) (pe : 0 <= Qe) (po : 0 <= Qo)
  (he : N2 n (dif e' e) <= eps * eps * (M * Qe)) (ho : N2 n (dif o' o) <= eps * eps * (M * Qo))
  (ge : N2 n e <= gam * gam * (M * Qe)) (go : N2 n o <= gam * gam * (M * Qo))
  (hW : ∀ i,i < n -> n2 (W i) <= om * om) (hC : ∀ i,i < n -> n2 (C i) <= 1 + tau) (hWC : ∀ i,i < n -> n2 (Cx.sub (W i) (C i)) <= rho * rho)
  (ht : ∀ i,i < n -> n2 (Cx.sub (t' i) (Cx.mul (W i) (o' i))) <= mu * mu * (n2 (W i) * n2 (o' i)) + theta)
  (hth : sumN n (fun _=>theta) <= kap * kap * (M * Qo))
  (hs : ∀ i,i < n -> n2 (Cx.sub (s' i) (Cx.add (e' i) (t' i))) <= u * u * n2 (Cx.add (e' i) (t' i)))
  (hd : ∀ i,i < n -> n2 (Cx.sub (d' i) (Cx.sub (e' i) (t' i))) <= u * u * n2 (Cx.sub (e' i) (t' i)))
  (h1 : e1 = (1 + tau) * eps + ((mu * om + rho) * (gam + eps) + kap)) :
  N2 n (dif s' (fun i=>Cx.add (e i) (Cx.mul (C i) (o i)))) + N2 n (dif d' (fun i=>Cx.sub (e i) (Cx.mul (C i) (o i)))) <=
   (e1 + u * ((1 + tau) * gam + e1)) * (e1 + u * ((1 + tau) * gam + e1)) * (2 * M * (Qe + Qo)):=by
 have pMo:=Rat.mul_nonneg pM po
 have pMe:=Rat.mul_nonneg pM pe
 have pQ : 0 <= M * (Qe + Qo):=by grind
 have pge : 0 <= gam + eps:=by grind
 -- the told half
 have go' : N2 n o' <= (gam + eps) * (gam + eps) * (M * Qo):=N2_off p2 p1 pMo go ho
 -- the product's own error
 have hA : N2 n (dif t' (fun i=>Cx.mul (W i) (o' i))) <= (mu * om * (gam + eps) + kap) * (mu * om * (gam + eps) + kap) * (M * Qo):=by
  have k1 : N2 n (dif t' (fun i=>Cx.mul (W i) (o' i))) <= mu * mu * (om * om) * N2 n o' + sumN n (fun _=>theta):=by
   unfold N2
   rw [<- sumN_mul,<- sumN_add]
   refine sumN_le (fun i hi=>Rat.le_trans (ht i hi) ?_)
   have k2:=mul3 (hW i hi) (sq_nonneg mu) (Cx.n2_nonneg (o' i))
   grind
  have k3:=rmul_le go' (Rat.mul_nonneg (sq_nonneg mu) (sq_nonneg om))
  have k4 : 0 <= mu * om * (gam + eps) * kap * (M * Qo):=Rat.mul_nonneg (Rat.mul_nonneg (Rat.mul_nonneg (Rat.mul_nonneg p4 p5) pge) p8) pMo
  grind
 have hB : N2 n (fun i=>Cx.mul (Cx.sub (W i) (C i)) (o' i)) <= (rho * (gam + eps)) * (rho * (gam + eps)) * (M * Qo):=by
  have k1 : N2 n (fun i=>Cx.mul (Cx.sub (W i) (C i)) (o' i)) <= rho * rho * N2 n o':=N2_scale (fun i hi=>by
   rw [Cx.n2_mul]
   have:=mul3 (hWC i hi) (show (0 : Rat) <= 1 by decide) (Cx.n2_nonneg (o' i))
   grind)
  have k2:=rmul_le go' (sq_nonneg rho)
  grind
 have hCo : N2 n (fun i=>Cx.mul (C i) (dif o' o i)) <= ((1 + tau) * eps) * ((1 + tau) * eps) * (M * Qo):=by
  have k1 : N2 n (fun i=>Cx.mul (C i) (dif o' o i)) <= (1 + tau) * N2 n (dif o' o):=N2_scale (fun i hi=>by
   rw [Cx.n2_mul]
   have:=mul3 (hC i hi) (show (0 : Rat) <= 1 by decide) (Cx.n2_nonneg (dif o' o i))
   grind)
  have k2:=rmul_le ho (show 0 <= 1 + tau by grind)
  have k3 : 0 <= tau * (1 + tau) * (eps * eps * (M * Qo)):=Rat.mul_nonneg (Rat.mul_nonneg p7 (by grind)) (Rat.mul_nonneg (sq_nonneg eps) pMo)
  grind
 have pa : 0 <= mu * om * (gam + eps) + kap:=by have:=Rat.mul_nonneg (Rat.mul_nonneg p4 p5) pge; grind
 have pb : 0 <= rho * (gam + eps):=Rat.mul_nonneg p6 pge
 have hAB:=N2_tri pa pb pMo hA hB
 -- both halves' errors at once
 have hte : N2 n (fun i=>Cx.add (dif e' e i) Cx.zero) + N2 n (fun i=>Cx.add (Cx.mul (C i) (dif o' o i)) (Cx.add (dif t' (fun i=>Cx.mul (W i) (o' i)) i) (Cx.mul (Cx.sub (W i) (C i)) (o' i)))) <= e1 * e1 * (M * (Qe + Qo)):=by
  have q1 : 0 <= (1 + tau) * eps:=Rat.mul_nonneg (by grind) p1
  have q2 : 0 <= (mu * om + rho) * (gam + eps) + kap:=by grind
  have e2 : (mu * om * (gam + eps) + kap) + rho * (gam + eps) = (mu * om + rho) * (gam + eps) + kap:=by grind
  rw [e2] at hAB
  rw [h1]
  refine two_tri q1 q2 pQ ?_ ?_
  ·have k3 : 0 <= (tau * tau + 2 * tau) * (eps * eps * (M * Qe)):=Rat.mul_nonneg (by have:=sq_nonneg tau; grind) (Rat.mul_nonneg (sq_nonneg eps) pMe)
   grind
  ·have z : N2 n (fun _=>Cx.zero) = 0:=by
    unfold N2
    rw [show (fun i : Nat=>n2 Cx.zero) = (fun _=>(0 : Rat)) from funext (fun _=>by simp only [n2,Cx.zero]; grind),sumN_zero]
   rw [z]
   have k4 : 0 <= ((mu * om + rho) * (gam + eps) + kap) * ((mu * om + rho) * (gam + eps) + kap) * (M * Qe):=Rat.mul_nonneg (sq_nonneg _) pMe
   grind
 have pe1 : 0 <= e1:=by
  rw [h1]
  have q1 : 0 <= (1 + tau) * eps:=Rat.mul_nonneg (by grind) p1
  grind
 have E1 : N2 n (fun i=>Cx.add (dif e' e i) Cx.zero) = N2 n (dif e' e):=N2_congr (fun i _=>Cx.add_zero _)
 have E2 : N2 n (fun i=>Cx.add (Cx.mul (C i) (dif o' o i)) (Cx.add (dif t' (fun i=>Cx.mul (W i) (o' i)) i) (Cx.mul (Cx.sub (W i) (C i)) (o' i)))) = N2 n (dif t' (fun i=>Cx.mul (C i) (o i))):=N2_congr (fun i _=>by apply Cx.ext <;> simp only [dif,Cx.add,Cx.sub,Cx.mul] <;> grind)
 rw [E1,E2] at hte
 -- the exact sums
 have hex : N2 n (fun i=>Cx.add (e i) (Cx.mul (C i) (o i))) + N2 n (fun i=>Cx.sub (e i) (Cx.mul (C i) (o i))) <= ((1 + tau) * gam) * ((1 + tau) * gam) * (2 * M * (Qe + Qo)):=by
  rw [N2_pair]
  have k1 : N2 n (fun i=>Cx.mul (C i) (o i)) <= (1 + tau) * N2 n o:=N2_scale (fun i hi=>by
   rw [Cx.n2_mul]
   have:=mul3 (hC i hi) (show (0 : Rat) <= 1 by decide) (Cx.n2_nonneg (o i))
   grind)
  have k2:=rmul_le go (show 0 <= 1 + tau by grind)
  have k3 : 0 <= (tau * tau + 2 * tau) * (gam * gam * (M * Qe)):=Rat.mul_nonneg (by have:=sq_nonneg tau; grind) (Rat.mul_nonneg (sq_nonneg gam) pMe)
  have k4 : 0 <= (tau * tau + tau) * (gam * gam * (M * Qo)):=Rat.mul_nonneg (by have:=sq_nonneg tau; grind) (Rat.mul_nonneg (sq_nonneg gam) pMo)
  grind
 -- the told sums before rounding
 have hraw : N2 n (dif (fun i=>Cx.add (e' i) (t' i)) (fun i=>Cx.add (e i) (Cx.mul (C i) (o i)))) + N2 n (dif (fun i=>Cx.sub (e' i) (t' i)) (fun i=>Cx.sub (e i) (Cx.mul (C i) (o i)))) <= e1 * e1 * (2 * M * (Qe + Qo)):=by
  have k1:=N2_pair n (dif e' e) (dif t' (fun i=>Cx.mul (C i) (o i)))
  have E3 : N2 n (dif (fun i=>Cx.add (e' i) (t' i)) (fun i=>Cx.add (e i) (Cx.mul (C i) (o i)))) = N2 n (fun i=>Cx.add (dif e' e i) (dif t' (fun i=>Cx.mul (C i) (o i)) i)):=N2_congr (fun i _=>by apply Cx.ext <;> simp only [dif,Cx.add,Cx.sub,Cx.mul] <;> grind)
  have E4 : N2 n (dif (fun i=>Cx.sub (e' i) (t' i)) (fun i=>Cx.sub (e i) (Cx.mul (C i) (o i)))) = N2 n (fun i=>Cx.sub (dif e' e i) (dif t' (fun i=>Cx.mul (C i) (o i)) i)):=N2_congr (fun i _=>by apply Cx.ext <;> simp only [dif,Cx.add,Cx.sub,Cx.mul] <;> grind)
  rw [E3,E4,k1]
  grind
 have p2Q : 0 <= 2 * M * (Qe + Qo):=by grind
 have pg : 0 <= (1 + tau) * gam:=Rat.mul_nonneg (by grind) p2
 have htold : N2 n (fun i=>Cx.add (e' i) (t' i)) + N2 n (fun i=>Cx.sub (e' i) (t' i)) <= ((1 + tau) * gam + e1) * ((1 + tau) * gam + e1) * (2 * M * (Qe + Qo)):=by
  have h:=two_tri pg pe1 p2Q hex hraw
  have E5 : N2 n (fun i=>Cx.add (Cx.add (e i) (Cx.mul (C i) (o i))) (dif (fun i=>Cx.add (e' i) (t' i)) (fun i=>Cx.add (e i) (Cx.mul (C i) (o i))) i)) = N2 n (fun i=>Cx.add (e' i) (t' i)):=N2_congr (fun i _=>by apply Cx.ext <;> simp only [dif,Cx.add,Cx.sub,Cx.mul] <;> grind)
  have E6 : N2 n (fun i=>Cx.add (Cx.sub (e i) (Cx.mul (C i) (o i))) (dif (fun i=>Cx.sub (e' i) (t' i)) (fun i=>Cx.sub (e i) (Cx.mul (C i) (o i))) i)) = N2 n (fun i=>Cx.sub (e' i) (t' i)):=N2_congr (fun i _=>by apply Cx.ext <;> simp only [dif,Cx.add,Cx.sub,Cx.mul] <;> grind)
  rw [E5,E6] at h
  exact h
 have hround : N2 n (dif s' (fun i=>Cx.add (e' i) (t' i))) + N2 n (dif d' (fun i=>Cx.sub (e' i) (t' i))) <= (u * ((1 + tau) * gam + e1)) * (u * ((1 + tau) * gam + e1)) * (2 * M * (Qe + Qo)):=by
  have k1 : N2 n (dif s' (fun i=>Cx.add (e' i) (t' i))) <= u * u * N2 n (fun i=>Cx.add (e' i) (t' i)):=N2_scale hs
  have k2 : N2 n (dif d' (fun i=>Cx.sub (e' i) (t' i))) <= u * u * N2 n (fun i=>Cx.sub (e' i) (t' i)):=N2_scale hd
  have k3:=rmul_le htold (sq_nonneg u)
  grind
 have pu : 0 <= u * ((1 + tau) * gam + e1):=Rat.mul_nonneg p3 (by grind)
 have h:=two_tri pe1 pu p2Q hraw hround
 have E7 : N2 n (fun i=>Cx.add (dif (fun i=>Cx.add (e' i) (t' i)) (fun i=>Cx.add (e i) (Cx.mul (C i) (o i))) i) (dif s' (fun i=>Cx.add (e' i) (t' i)) i)) = N2 n (dif s' (fun i=>Cx.add (e i) (Cx.mul (C i) (o i)))):=N2_congr (fun i _=>by apply Cx.ext <;> simp only [dif,Cx.add,Cx.sub,Cx.mul] <;> grind)
 have E8 : N2 n (fun i=>Cx.add (dif (fun i=>Cx.sub (e' i) (t' i)) (fun i=>Cx.sub (e i) (Cx.mul (C i) (o i))) i) (dif d' (fun i=>Cx.sub (e' i) (t' i)) i)) = N2 n (dif d' (fun i=>Cx.sub (e i) (Cx.mul (C i) (o i)))):=N2_congr (fun i _=>by apply Cx.ext <;> simp only [dif,Cx.add,Cx.sub,Cx.mul] <;> grind)
 rw [E7,E8] at h
 exact h
end
section
open Cx (n2)
def ev {α : Type} (x : Nat -> α) : Nat -> α:=fun i=>x (2 * i)
def od {α : Type} (x : Nat -> α) : Nat -> α:=fun i=>x (2 * i + 1)
def net {α : Type} (add sub mul : α -> α -> α) (W : Nat -> Nat -> α) : Nat -> (Nat -> α) -> Nat -> α
 | 0,x,_=>x 0
 | k + 1,x,j =>
   if j < 2 ^ k then add (net add sub mul W k (ev x) j) (mul (W k j) (net add sub mul W k (od x) j))
   else sub (net add sub mul W k (ev x) (j - 2 ^ k)) (mul (W k (j - 2 ^ k)) (net add sub mul W k (od x) (j - 2 ^ k)))
def netC (C : Nat -> Nat -> Cx) : Nat -> (Nat -> Cx) -> Nat -> Cx:=net Cx.add Cx.sub Cx.mul C
def pw : Nat -> Rat
 | 0=>1
 | k + 1=>2 * pw k
theorem pw_pos : ∀ k,0 < pw k
 | 0=>by decide
 | k + 1=>by have:=pw_pos k; simp only [pw]; grind
theorem pw_one : ∀ k,1 <= pw k
 | 0=>by decide
 | k + 1=>by have:=pw_one k; simp only [pw]; grind
theorem sumN_const (c : Rat) : ∀ k : Nat,sumN (2 ^ k) (fun _=>c) = pw k * c
 | 0=>by simp only [Nat.pow_zero,sumN,pw]; grind
 | k + 1=>by rw [Nat.pow_succ,Nat.mul_two,sumN_split,sumN_const c k]; simp only [pw]; grind
def Qf (phi : Rat) (k : Nat) (x : Nat -> Cx) : Rat:=N2 (2 ^ k) x + pw k * phi
theorem Qf_next (phi : Rat) (k : Nat) (x : Nat -> Cx) : Qf phi (k + 1) x = Qf phi k (ev x) + Qf phi k (od x):=by
 unfold Qf N2
 rw [Nat.pow_succ,Nat.mul_comm,sumN_even]
 simp only [pw,ev,od]
 grind
theorem Qf_nonneg {phi : Rat} (hp : 0 <= phi) (k : Nat) (x : Nat -> Cx) : 0 <= Qf phi k x:=by
 have h1:=N2_nonneg (2 ^ k) x
 have h2:=Rat.mul_nonneg (Rat.le_of_lt (pw_pos k)) hp
 unfold Qf; grind
theorem Qf_floor {phi : Rat} (hp : 0 <= phi) (k : Nat) (x : Nat -> Cx) : phi <= Qf phi k x:=by
 have h1:=N2_nonneg (2 ^ k) x
 have h2:=rmul_le (pw_one k) hp
 unfold Qf; grind
structure Near (α : Type) where
 val : α -> Cx
 ok : α -> Prop
 add : α -> α -> α
 sub : α -> α -> α
 mul : α -> α -> α
 u : Rat
 mu : Rat
 theta : Rat
 big : Rat
 pu : 0 <= u
 pmu : 0 <= mu
 hadd : ∀ a b,ok a -> ok b -> n2 (val a) <= big -> n2 (val b) <= big -> ok (add a b) /\ n2 (Cx.sub (val (add a b)) (Cx.add (val a) (val b))) <= u * u * n2 (Cx.add (val a) (val b))
 hsub : ∀ a b,ok a -> ok b -> n2 (val a) <= big -> n2 (val b) <= big -> ok (sub a b) /\ n2 (Cx.sub (val (sub a b)) (Cx.sub (val a) (val b))) <= u * u * n2 (Cx.sub (val a) (val b))
 hbig : 2 <= big
 hmul : ∀ a b,ok a -> ok b -> n2 (val a) <= big -> n2 (val b) <= big -> n2 (val a) * n2 (val b) <= big -> ok (mul a b) /\ n2 (Cx.sub (val (mul a b)) (Cx.mul (val a) (val b))) <= mu * mu * (n2 (val a) * n2 (val b)) + theta
theorem netC_low {C : Nat -> Nat -> Cx} {k : Nat} {x : Nat -> Cx} {j : Nat} (hj : j < 2 ^ k) : netC C (k + 1) x j = Cx.add (netC C k (ev x) j) (Cx.mul (C k j) (netC C k (od x) j)):=by
 unfold netC; rw [net,if_pos hj]
theorem netC_high {C : Nat -> Nat -> Cx} {k : Nat} {x : Nat -> Cx} (j : Nat) : netC C (k + 1) x (2 ^ k + j) = Cx.sub (netC C k (ev x) j) (Cx.mul (C k j) (netC C k (od x) j)):=by
 unfold netC; rw [net,if_neg (by omega),Nat.add_sub_cancel_left]
def gamK (tau : Rat) : Nat -> Rat
 | 0=>1
 | k + 1=>(1 + tau) * gamK tau k
theorem gamK_pos {tau : Rat} (h : 0 <= tau) : ∀ k,1 <= gamK tau k
 | 0=>Rat.le_refl
 | k + 1=>by
   have h1:=gamK_pos h k
   have h2:=rmul_le h1 h
   simp only [gamK]; grind
theorem netC_size {C : Nat -> Nat -> Cx} {tau : Rat} (ht : 0 <= tau) {kmax : Nat} (hC : ∀ k j,k < kmax -> j < 2 ^ k -> n2 (C k j) <= 1 + tau) : ∀ k,k <= kmax -> ∀ x : Nat -> Cx,N2 (2 ^ k) (netC C k x) <= gamK tau k * gamK tau k * (pw k * N2 (2 ^ k) x)
 | 0,_,x=>by
   have : N2 (2 ^ 0) (netC C 0 x) = N2 (2 ^ 0) x:=N2_congr (fun i hi=>by
    have : i = 0:=by omega
    subst this; rfl)
   rw [this]
   simp only [gamK,pw]; grind
 | k + 1,hk,x=>by
   have h1:=netC_size ht hC k (by omega) (ev x)
   have h2:=netC_size ht hC k (by omega) (od x)
   have e1 : N2 (2 ^ (k + 1)) (netC C (k + 1) x) = N2 (2 ^ k) (fun j=>Cx.add (netC C k (ev x) j) (Cx.mul (C k j) (netC C k (od x) j))) + N2 (2 ^ k) (fun j=>Cx.sub (netC C k (ev x) j) (Cx.mul (C k j) (netC C k (od x) j))):=by
    unfold N2
    rw [Nat.pow_succ,Nat.mul_two,sumN_split]
    congr 1
    ·exact sumN_congr (fun i hi=>by rw [netC_low hi])
    ·exact sumN_congr (fun i hi=>by rw [netC_high i])
   have e2 : N2 (2 ^ (k + 1)) x = N2 (2 ^ k) (ev x) + N2 (2 ^ k) (od x):=by
    unfold N2
    rw [Nat.pow_succ,Nat.mul_comm,sumN_even]; rfl
   rw [e1,N2_pair,e2]
   have k1 : N2 (2 ^ k) (fun j=>Cx.mul (C k j) (netC C k (od x) j)) <= (1 + tau) * N2 (2 ^ k) (netC C k (od x)):=N2_scale (fun i hi=>by
    rw [Cx.n2_mul]
    have:=mul3 (hC k i (by omega) hi) (show (0 : Rat) <= 1 by decide) (Cx.n2_nonneg (netC C k (od x) i))
    grind)
   have k2:=rmul_le h2 (show 0 <= 1 + tau by grind)
   have pe:=Rat.mul_nonneg (Rat.le_of_lt (pw_pos k)) (N2_nonneg (2 ^ k) (ev x))
   have po:=Rat.mul_nonneg (Rat.le_of_lt (pw_pos k)) (N2_nonneg (2 ^ k) (od x))
   have k3 : 0 <= (tau * tau + 2 * tau) * (gamK tau k * gamK tau k * (pw k * N2 (2 ^ k) (ev x))):=Rat.mul_nonneg (by have:=sq_nonneg tau; grind) (Rat.mul_nonneg (sq_nonneg _) pe)
   have k4 : 0 <= (tau * tau + tau) * (gamK tau k * gamK tau k * (pw k * N2 (2 ^ k) (od x))):=Rat.mul_nonneg (by have:=sq_nonneg tau; grind) (Rat.mul_nonneg (sq_nonneg _) po)
   simp only [gamK,pw]
   grind
end
section
open Cx (n2)
structure Roots {α : Type} (N : Near α) (W : Nat -> Nat -> α) (C : Nat -> Nat -> Cx) (kmax : Nat) where
 om : Rat
 rho : Rat
 tau : Rat
 kap : Rat
 phi : Rat
 eps : Nat -> Rat
 pom : 0 <= om
 prho : 0 <= rho
 ptau : 0 <= tau
 pkap : 0 <= kap
 pphi : 0 <= phi
 peps : ∀ k,k <= kmax -> 0 <= eps k
 pth : 0 <= N.theta
 lom : om * om <= 2
 lmu : N.mu <= 1
 lkap : kap <= 1
 lge : ∀ k,k <= kmax -> gamK tau k + eps k <= 2
 hth : N.theta <= kap * kap * phi
 hW : ∀ k j,k < kmax -> j < 2 ^ k -> N.ok (W k j) /\ n2 (N.val (W k j)) <= om * om /\ n2 (Cx.sub (N.val (W k j)) (C k j)) <= rho * rho
 hC : ∀ k j,k < kmax -> j < 2 ^ k -> n2 (C k j) <= 1 + tau
 step : ∀ k,k < kmax -> ((1 + tau) * eps k + ((N.mu * om + rho) * (gamK tau k + eps k) + kap)) + N.u * ((1 + tau) * gamK tau k + ((1 + tau) * eps k + ((N.mu * om + rho) * (gamK tau k + eps k) + kap))) <= eps (k + 1)
theorem n2_two (a b : Cx) : n2 (Cx.add a b) <= 2 * (n2 a + n2 b):=by
 have:=Cx.n2_tri a b 1 1
 grind
theorem net_err {α : Type} {N : Near α} {W : Nat -> Nat -> α} {C : Nat -> Nat -> Cx} {kmax : Nat} (R : Roots N W C kmax) : ∀ k,k <= kmax -> ∀ x : Nat -> α,(∀ i,i < 2 ^ k -> N.ok (x i)) -> 40 * (pw k * Qf R.phi k (fun i=>N.val (x i))) <= N.big ->
  (∀ j,j < 2 ^ k -> N.ok (net N.add N.sub N.mul W k x j)) /\ N2 (2 ^ k) (dif (fun j=>N.val (net N.add N.sub N.mul W k x j)) (netC C k (fun i=>N.val (x i)))) <= R.eps k * R.eps k * (pw k * Qf R.phi k (fun i=>N.val (x i)))
 | 0,_,x,hx,hbig=>by
   refine ⟨fun j hj=>by rw [net]; exact hx 0 (by decide),?_⟩
   have e : N2 (2 ^ 0) (dif (fun j=>N.val (net N.add N.sub N.mul W 0 x j)) (netC C 0 (fun i=>N.val (x i)))) = 0:=by
    have : ∀ j : Nat,dif (fun j=>N.val (net N.add N.sub N.mul W 0 x j)) (netC C 0 (fun i=>N.val (x i))) j = Cx.zero:=fun j=>by
     unfold netC
     simp only [dif,net]
     apply Cx.ext <;> simp only [Cx.sub,Cx.zero] <;> grind
    unfold N2
    rw [sumN_congr (g:=fun _=>0) (fun i _=>by rw [this i]; simp only [n2,Cx.zero]; grind),sumN_zero]
   rw [e]
   exact Rat.mul_nonneg (sq_nonneg _) (Rat.mul_nonneg (Rat.le_of_lt (pw_pos 0)) (Qf_nonneg R.pphi 0 _))
 | k + 1,hk,x,hx,hbig=>by
   have hxe : ∀ i,i < 2 ^ k -> N.ok (ev x i):=fun i hi=>hx _ (by rw [Nat.pow_succ]; omega)
   have hxo : ∀ i,i < 2 ^ k -> N.ok (od x i):=fun i hi=>hx _ (by rw [Nat.pow_succ]; omega)
   obtain ⟨M,hM⟩ : ∃ M,M = pw k:=⟨_,rfl⟩
   have pM : 0 < M:=by rw [hM]; exact pw_pos k
   have lM : 1 <= M:=by rw [hM]; exact pw_one k
   obtain ⟨Qe,hQe⟩ : ∃ Q,Q = Qf R.phi k (fun i=>N.val (ev x i)):=⟨_,rfl⟩
   obtain ⟨Qo,hQo⟩ : ∃ Q,Q = Qf R.phi k (fun i=>N.val (od x i)):=⟨_,rfl⟩
   have pQe : 0 <= Qe:=by rw [hQe]; exact Qf_nonneg R.pphi k _
   have pQo : 0 <= Qo:=by rw [hQo]; exact Qf_nonneg R.pphi k _
   have hQ : Qf R.phi (k + 1) (fun i=>N.val (x i)) = Qe + Qo:=by rw [hQe,hQo]; exact Qf_next _ _ _
   have hpw : pw (k + 1) = 2 * M:=by rw [hM]; rfl
   rw [hQ,hpw] at hbig ⊢
   have pMe:=Rat.mul_nonneg (Rat.le_of_lt pM) pQe
   have pMo:=Rat.mul_nonneg (Rat.le_of_lt pM) pQo
   have IHe:=net_err R k (by omega) (ev x) hxe (by rw [<- hM,<- hQe]; grind)
   have IHo:=net_err R k (by omega) (od x) hxo (by rw [<- hM,<- hQo]; grind)
   rw [<- hM,<- hQe] at IHe
   rw [<- hM,<- hQo] at IHo
   obtain ⟨oke,he⟩:=IHe
   obtain ⟨oko,ho⟩:=IHo
   obtain ⟨e',he'⟩ : ∃ e',e' = net N.add N.sub N.mul W k (ev x):=⟨_,rfl⟩
   obtain ⟨o',ho'⟩ : ∃ o',o' = net N.add N.sub N.mul W k (od x):=⟨_,rfl⟩
   obtain ⟨e,hee⟩ : ∃ e,e = netC C k (fun i=>N.val (ev x i)):=⟨_,rfl⟩
   obtain ⟨o,hoo⟩ : ∃ o,o = netC C k (fun i=>N.val (od x i)):=⟨_,rfl⟩
   rw [<- he'] at oke he
   rw [<- ho'] at oko ho
   rw [<- hee] at he
   rw [<- hoo] at ho
   have gpos:=gamK_pos R.ptau k
   have epos:=R.peps k (by omega)
   have ge : N2 (2 ^ k) e <= gamK R.tau k * gamK R.tau k * (M * Qe):=by
    have h1:=netC_size R.ptau R.hC k (by omega) (fun i=>N.val (ev x i))
    rw [<- hee,<- hM] at h1
    have h2 : N2 (2 ^ k) (fun i=>N.val (ev x i)) <= Qe:=by
     have:=Rat.mul_nonneg (Rat.le_of_lt (pw_pos k)) R.pphi
     rw [hQe]; unfold Qf; grind
    have h3:=rmul_le (rmul_le h2 (Rat.le_of_lt pM)) (sq_nonneg (gamK R.tau k))
    exact Rat.le_trans h1 h3
   have go : N2 (2 ^ k) o <= gamK R.tau k * gamK R.tau k * (M * Qo):=by
    have h1:=netC_size R.ptau R.hC k (by omega) (fun i=>N.val (od x i))
    rw [<- hoo,<- hM] at h1
    have h2 : N2 (2 ^ k) (fun i=>N.val (od x i)) <= Qo:=by
     have:=Rat.mul_nonneg (Rat.le_of_lt (pw_pos k)) R.pphi
     rw [hQo]; unfold Qf; grind
    have h3:=rmul_le (rmul_le h2 (Rat.le_of_lt pM)) (sq_nonneg (gamK R.tau k))
    exact Rat.le_trans h1 h3
   have pge : 0 <= gamK R.tau k + R.eps k:=by grind
   have four : (gamK R.tau k + R.eps k) * (gamK R.tau k + R.eps k) <= 4:=by
    have:=sq_le pge (show (0 : Rat) <= 2 by decide) (R.lge k (by omega))
    grind
   have be : ∀ j,j < 2 ^ k -> n2 (N.val (e' j)) <= 4 * (M * Qe):=fun j hj=>by
    have h1:=N2_off (by grind) epos pMe ge he
    have h2:=N2_at (fun j=>N.val (e' j)) hj
    have h3:=Rat.mul_le_mul_of_nonneg_right four pMe
    grind
   have bo : ∀ j,j < 2 ^ k -> n2 (N.val (o' j)) <= 4 * (M * Qo):=fun j hj=>by
    have h1:=N2_off (by grind) epos pMo go ho
    have h2:=N2_at (fun j=>N.val (o' j)) hj
    have h3:=Rat.mul_le_mul_of_nonneg_right four pMo
    grind
   have hW:=fun j (hj : j < 2 ^ k)=>R.hW k j (by omega) hj
   obtain ⟨t',ht'⟩ : ∃ t' : Nat -> α,t' = fun j=>N.mul (W k j) (o' j):=⟨_,rfl⟩
   have hmul : ∀ j,j < 2 ^ k -> N.ok (t' j) /\ n2 (Cx.sub (N.val (t' j)) (Cx.mul (N.val (W k j)) (N.val (o' j)))) <= N.mu * N.mu * (n2 (N.val (W k j)) * n2 (N.val (o' j))) + N.theta:=fun j hj=>by
    rw [ht']
    have h1:=Rat.le_trans (hW j hj).2.1 R.lom
    have h2:=Rat.mul_le_mul_of_nonneg_right h1 (Cx.n2_nonneg (N.val (o' j)))
    exact N.hmul _ _ (hW j hj).1 (oko j hj) (Rat.le_trans h1 N.hbig) (by have:=bo j hj; grind) (by have:=bo j hj; grind)
   have thl : N.theta <= M * Qo:=by
    have h1:=R.hth
    have h2:=sq_le R.pkap (show (0 : Rat) <= 1 by decide) R.lkap
    have h3:=Rat.mul_le_mul_of_nonneg_right h2 R.pphi
    have h4 : R.phi <= Qo:=by rw [hQo]; exact Qf_floor R.pphi k _
    have h5:=Rat.mul_le_mul_of_nonneg_right lM pQo
    grind
   have bt : ∀ j,j < 2 ^ k -> n2 (N.val (t' j)) <= 34 * (M * Qo):=fun j hj=>by
    have h1:=n2_two (Cx.mul (N.val (W k j)) (N.val (o' j))) (Cx.sub (N.val (t' j)) (Cx.mul (N.val (W k j)) (N.val (o' j))))
    have e1 : Cx.add (Cx.mul (N.val (W k j)) (N.val (o' j))) (Cx.sub (N.val (t' j)) (Cx.mul (N.val (W k j)) (N.val (o' j)))) = N.val (t' j):=by apply Cx.ext <;> simp only [Cx.add,Cx.sub] <;> grind
    rw [e1,Cx.n2_mul] at h1
    have h2:=(hmul j hj).2
    have h3:=Rat.le_trans (hW j hj).2.1 R.lom
    have h4:=Rat.mul_le_mul_of_nonneg_right h3 (Cx.n2_nonneg (N.val (o' j)))
    have h5:=bo j hj
    have h6:=sq_le N.pmu (show (0 : Rat) <= 1 by decide) R.lmu
    have h7:=Rat.mul_le_mul_of_nonneg_right h6 (Rat.mul_nonneg (Cx.n2_nonneg (N.val (W k j))) (Cx.n2_nonneg (N.val (o' j))))
    grind
   have hadd : ∀ j,j < 2 ^ k -> N.ok (N.add (e' j) (t' j)) /\ n2 (Cx.sub (N.val (N.add (e' j) (t' j))) (Cx.add (N.val (e' j)) (N.val (t' j)))) <= N.u * N.u * n2 (Cx.add (N.val (e' j)) (N.val (t' j))):=fun j hj =>
    N.hadd _ _ (oke j hj) (hmul j hj).1 (by have:=be j hj; grind) (by have:=bt j hj; grind)
   have hsub : ∀ j,j < 2 ^ k -> N.ok (N.sub (e' j) (t' j)) /\ n2 (Cx.sub (N.val (N.sub (e' j) (t' j))) (Cx.sub (N.val (e' j)) (N.val (t' j)))) <= N.u * N.u * n2 (Cx.sub (N.val (e' j)) (N.val (t' j))):=fun j hj =>
    N.hsub _ _ (oke j hj) (hmul j hj).1 (by have:=be j hj; grind) (by have:=bt j hj; grind)
   have low : ∀ j,j < 2 ^ k -> net N.add N.sub N.mul W (k + 1) x j = N.add (e' j) (t' j):=fun j hj=>by rw [net,if_pos hj,he',ht',ho']
   have high : ∀ j,j < 2 ^ k -> net N.add N.sub N.mul W (k + 1) x (2 ^ k + j) = N.sub (e' j) (t' j):=fun j hj=>by rw [net,if_neg (by omega),Nat.add_sub_cancel_left,he',ht',ho']
   refine ⟨fun j hj=>?_,?_⟩
   ·by_cases hl : j < 2 ^ k
    ·rw [low j hl]; exact (hadd j hl).1
    ·obtain ⟨i,rfl⟩ : ∃ i,j = 2 ^ k + i:=⟨j - 2 ^ k,by omega⟩
     have hi : i < 2 ^ k:=by rw [Nat.pow_succ] at hj; omega
     rw [high i hi]; exact (hsub i hi).1
   ·have hlev:=level (n:=2 ^ k) (e:=e) (o:=o) (e':=fun j=>N.val (e' j)) (o':=fun j=>N.val (o' j)) (t':=fun j=>N.val (t' j)) (W:=fun j=>N.val (W k j)) (C:=C k) (s':=fun j=>N.val (N.add (e' j) (t' j))) (d':=fun j=>N.val (N.sub (e' j) (t' j)))
     epos (show 0 <= gamK R.tau k by grind) N.pu N.pmu R.pom R.prho R.ptau R.pkap (Rat.le_of_lt pM) pQe pQo he ho ge go (fun i hi=>(hW i hi).2.1) (fun i hi=>R.hC k i (by omega) hi) (fun i hi=>(hW i hi).2.2) (fun i hi=>(hmul i hi).2)
     (by
      rw [sumN_const,<- hM]
      have h1:=rmul_le R.hth (Rat.le_of_lt pM)
      have h4 : R.phi <= Qo:=by rw [hQo]; exact Qf_floor R.pphi k _
      have h5:=rmul_le (rmul_le h4 (sq_nonneg R.kap)) (Rat.le_of_lt pM)
      grind) (fun i hi=>(hadd i hi).2) (fun i hi=>(hsub i hi).2) rfl
    have e1 : N2 (2 ^ (k + 1)) (dif (fun j=>N.val (net N.add N.sub N.mul W (k + 1) x j)) (netC C (k + 1) (fun i=>N.val (x i)))) = N2 (2 ^ k) (dif (fun j=>N.val (N.add (e' j) (t' j))) (fun i=>Cx.add (e i) (Cx.mul (C k i) (o i)))) + N2 (2 ^ k) (dif (fun j=>N.val (N.sub (e' j) (t' j))) (fun i=>Cx.sub (e i) (Cx.mul (C k i) (o i)))):=by
     unfold N2
     rw [Nat.pow_succ,Nat.mul_two,sumN_split]
     congr 1
     ·exact sumN_congr (fun i hi=>by simp only [dif]; rw [low i hi,netC_low hi,hee,hoo]; rfl)
     ·exact sumN_congr (fun i hi=>by simp only [dif]; rw [high i hi,netC_high i,hee,hoo]; rfl)
    rw [e1]
    refine Rat.le_trans hlev ?_
    have st:=R.step k (by omega)
    have ps : 0 <= ((1 + R.tau) * R.eps k + ((N.mu * R.om + R.rho) * (gamK R.tau k + R.eps k) + R.kap)) + N.u * ((1 + R.tau) * gamK R.tau k + ((1 + R.tau) * R.eps k + ((N.mu * R.om + R.rho) * (gamK R.tau k + R.eps k) + R.kap))):=by
     have q0 : 0 <= 1 + R.tau:=by have:=R.ptau; grind
     have q1:=Rat.mul_nonneg q0 epos
     have q2:=Rat.mul_nonneg (show 0 <= N.mu * R.om + R.rho by have:=Rat.mul_nonneg N.pmu R.pom; have:=R.prho; grind) pge
     have q3:=Rat.mul_nonneg q0 (show 0 <= gamK R.tau k by grind)
     have q4:=R.pkap
     have q5:=Rat.mul_nonneg N.pu (show 0 <= (1 + R.tau) * gamK R.tau k + ((1 + R.tau) * R.eps k + ((N.mu * R.om + R.rho) * (gamK R.tau k + R.eps k) + R.kap)) by grind)
     grind
    have h1:=sq_le ps (R.peps (k + 1) (by omega)) st
    exact Rat.mul_le_mul_of_nonneg_right h1 (show 0 <= 2 * M * (Qe + Qo) by grind)
end
section
open Cx (n2)
namespace Cx
def one : Cx:=⟨1,0⟩
def neg (a : Cx) : Cx:=⟨-a.re,-a.im⟩
def near (z w : Cx) (t : Rat) : Prop:=z.re - w.re <= t /\ w.re - z.re <= t /\ z.im - w.im <= t /\ w.im - z.im <= t
theorem near_refl (z : Cx) : near z z 0:=by unfold near; grind
theorem near.le {z w : Cx} {s t : Rat} (h : near z w s) (hl : s <= t) : near z w t:=by unfold near at *; grind
theorem near.symm {z w : Cx} {s : Rat} (h : near z w s) : near w z s:=by unfold near at *; grind
theorem near.trans {z w v : Cx} {s t : Rat} (h : near z w s) (h2 : near w v t) : near z v (s + t):=by unfold near at *; grind
theorem near.add {z w z' w' : Cx} {s t : Rat} (h : near z w s) (h2 : near z' w' t) : near (add z z') (add w w') (s + t):=by unfold near at *; simp only [Cx.add]; grind
theorem near.neg {z w : Cx} {s : Rat} (h : near z w s) : near (neg z) (neg w) s:=by unfold near at *; simp only [Cx.neg]; grind
def lim (z : Cx) (A : Rat) : Prop:=-A <= z.re /\ z.re <= A /\ -A <= z.im /\ z.im <= A
theorem prod_lim {a d A t : Rat} (h1 : -A <= a) (h2 : a <= A) (h3 : -t <= d) (h4 : d <= t) : a * d <= A * t /\ -(A * t) <= a * d:=by
 have hA : 0 <= A:=by grind
 have ht : 0 <= t:=by grind
 rcases (Rat.le_total : 0 <= a \/ a <= 0) with h | h
 ·have k1:=rmul_le h4 h
  have k2:=Rat.mul_le_mul_of_nonneg_right h2 ht
  have k3:=rmul_le h3 h
  grind
 ·have ha : 0 <= -a:=by grind
  have k1:=rmul_le h4 ha
  have k2:=Rat.mul_le_mul_of_nonneg_right (show -a <= A by grind) ht
  have k3:=rmul_le h3 ha
  grind
theorem near.mul {z w a : Cx} {A t : Rat} (h : near z w t) (ha : lim a A) : near (mul a z) (mul a w) (2 * A * t):=by
 obtain ⟨n1,n2,n3,n4⟩:=h
 obtain ⟨a1,a2,a3,a4⟩:=ha
 have k1:=prod_lim a1 a2 (show -t <= z.re - w.re by grind) n1
 have k2:=prod_lim a1 a2 (show -t <= z.im - w.im by grind) n3
 have k3:=prod_lim a3 a4 (show -t <= z.re - w.re by grind) n1
 have k4:=prod_lim a3 a4 (show -t <= z.im - w.im by grind) n3
 unfold near
 simp only [Cx.mul]
 grind
theorem mul_comm (a b : Cx) : mul a b = mul b a:=by apply ext <;> simp only [mul] <;> grind
theorem mul_assoc (a b c : Cx) : mul (mul a b) c = mul a (mul b c):=by apply ext <;> simp only [mul] <;> grind
theorem mul_add (a b c : Cx) : mul a (add b c) = add (mul a b) (mul a c):=by apply ext <;> simp only [mul,add] <;> grind
theorem mul_neg (a b : Cx) : mul a (neg b) = neg (mul a b):=by apply ext <;> simp only [mul,neg] <;> grind
theorem mul_one (a : Cx) : mul a one = a:=by apply ext <;> simp only [mul,one] <;> grind
theorem add_comm (a b : Cx) : add a b = add b a:=by apply ext <;> simp only [add] <;> grind
theorem add_assoc (a b c : Cx) : add (add a b) c = add a (add b c):=by apply ext <;> simp only [add] <;> grind
theorem add_neg (a b : Cx) : add a (neg b) = sub a b:=by apply ext <;> simp only [add,neg,sub] <;> grind
theorem mul_zero (a : Cx) : mul a zero = zero:=by apply ext <;> simp only [mul,zero] <;> grind
end Cx
def sumC : Nat -> (Nat -> Cx) -> Cx
 | 0,_=>Cx.zero
 | n + 1,f=>Cx.add (sumC n f) (f n)
theorem sumC_congr {n : Nat} {f g : Nat -> Cx} (h : ∀ i,i < n -> f i = g i) : sumC n f = sumC n g:=by
 induction n with
 | zero=>rfl
 | succ n ih=>simp only [sumC]; rw [ih (fun i hi=>h i (by omega)),h n (by omega)]
theorem sumC_add (n : Nat) (f g : Nat -> Cx) : sumC n (fun i=>Cx.add (f i) (g i)) = Cx.add (sumC n f) (sumC n g):=by
 induction n with
 | zero=>simp only [sumC]; rw [Cx.add_zero]
 | succ n ih=>simp only [sumC,ih]; apply Cx.ext <;> simp only [Cx.add] <;> grind
theorem sumC_mul (n : Nat) (c : Cx) (f : Nat -> Cx) : sumC n (fun i=>Cx.mul c (f i)) = Cx.mul c (sumC n f):=by
 induction n with
 | zero=>simp only [sumC]; rw [Cx.mul_zero]
 | succ n ih=>simp only [sumC,ih]; rw [Cx.mul_add]
theorem sumC_neg (n : Nat) (f : Nat -> Cx) : sumC n (fun i=>Cx.neg (f i)) = Cx.neg (sumC n f):=by
 induction n with
 | zero=>simp only [sumC]; apply Cx.ext <;> simp only [Cx.neg,Cx.zero] <;> grind
 | succ n ih=>simp only [sumC,ih]; apply Cx.ext <;> simp only [Cx.neg,Cx.add] <;> grind
theorem sumC_zero (n : Nat) : sumC n (fun _=>Cx.zero) = Cx.zero:=by
 induction n with
 | zero=>rfl
 | succ n ih=>simp only [sumC,ih]; rw [Cx.add_zero]
theorem sumC_even (m : Nat) (f : Nat -> Cx) : sumC (2 * m) f = Cx.add (sumC m (fun i=>f (2 * i))) (sumC m (fun i=>f (2 * i + 1))):=by
 induction m with
 | zero=>simp only [sumC]; rw [Cx.add_zero]
 | succ m ih=>rw [show 2 * (m + 1) = 2 * m + 1 + 1 by omega]; simp only [sumC,ih]; apply Cx.ext <;> simp only [Cx.add] <;> grind
theorem sumC_split (m k : Nat) (f : Nat -> Cx) : sumC (m + k) f = Cx.add (sumC m f) (sumC k (fun i=>f (m + i))):=by
 induction k with
 | zero=>simp only [sumC,Nat.add_zero]; rw [Cx.add_zero]
 | succ k ih=>rw [<- Nat.add_assoc]; simp only [sumC,ih]; rw [Cx.add_assoc]
theorem sumC_swap (m n : Nat) (f : Nat -> Nat -> Cx) : sumC m (fun i=>sumC n (fun j=>f i j)) = sumC n (fun j=>sumC m (fun i=>f i j)):=by
 induction m with
 | zero=>simp only [sumC]; rw [sumC_zero]
 | succ m ih=>simp only [sumC]; rw [ih,<- sumC_add]
theorem sumC_near {n : Nat} {f g : Nat -> Cx} {t : Nat -> Rat} (h : ∀ i,i < n -> Cx.near (f i) (g i) (t i)) : Cx.near (sumC n f) (sumC n g) (sumN n t):=by
 induction n with
 | zero=>exact Cx.near_refl _
 | succ n ih=>simp only [sumC,sumN]; exact (ih (fun i hi=>h i (by omega))).add (h n (by omega))
def ab (a : Rat) : Rat:=if 0 <= a then a else -a
theorem ab_le (a : Rat) : a <= ab a /\ -a <= ab a /\ 0 <= ab a:=by
 unfold ab
 split <;> grind
def s1 (z : Cx) : Rat:=ab z.re + ab z.im
theorem s1_nonneg (z : Cx) : 0 <= s1 z:=by
 have:=(ab_le z.re).2.2
 have:=(ab_le z.im).2.2
 unfold s1; grind
theorem near_s1 {z w a : Cx} {t : Rat} (h : Cx.near z w t) : Cx.near (Cx.mul a z) (Cx.mul a w) (s1 a * t):=by
 obtain ⟨n1,n2,n3,n4⟩:=h
 have r:=ab_le a.re
 have i:=ab_le a.im
 have k1:=Cx.prod_lim (show -(ab a.re) <= a.re by grind) r.1 (show -t <= z.re - w.re by grind) n1
 have k2:=Cx.prod_lim (show -(ab a.re) <= a.re by grind) r.1 (show -t <= z.im - w.im by grind) n3
 have k3:=Cx.prod_lim (show -(ab a.im) <= a.im by grind) i.1 (show -t <= z.re - w.re by grind) n1
 have k4:=Cx.prod_lim (show -(ab a.im) <= a.im by grind) i.1 (show -t <= z.im - w.im by grind) n3
 unfold Cx.near s1
 simp only [Cx.mul]
 grind
def X1 (k : Nat) (x : Nat -> Cx) : Rat:=sumN (2 ^ k) (fun i=>s1 (x i))
theorem X1_nonneg (k : Nat) (x : Nat -> Cx) : 0 <= X1 k x:=sumN_nonneg (fun i _=>s1_nonneg _)
theorem X1_next (k : Nat) (x : Nat -> Cx) : X1 (k + 1) x = X1 k (ev x) + X1 k (od x):=by
 unfold X1
 rw [Nat.pow_succ,Nat.mul_comm,sumN_even]; rfl
structure Tab (n : Nat) (R : Nat -> Cx) (tau : Rat) : Prop where
 ptau : 0 <= tau
 zero : R 0 = Cx.one
 half : ∀ m,R (m + n / 2) = Cx.neg (R m)
 even : n = n / 2 + n / 2
 lim : ∀ m,Cx.lim (R m) 2
 mul : ∀ a b,Cx.near (R (a + b)) (Cx.mul (R a) (R b)) tau
theorem Tab.period {n : Nat} {R : Nat -> Cx} {tau : Rat} (T : Tab n R tau) (m : Nat) : R (m + n) = R m:=by
 have e : m + n = (m + n / 2) + n / 2:=by have:=T.even; omega
 rw [e,T.half,T.half]
 apply Cx.ext <;> simp only [Cx.neg] <;> grind
theorem Tab.periods {n : Nat} {R : Nat -> Cx} {tau : Rat} (T : Tab n R tau) (m c : Nat) : R (m + c * n) = R m:=by
 induction c with
 | zero=>rw [Nat.zero_mul,Nat.add_zero]
 | succ c ih=>rw [Nat.succ_mul,<- Nat.add_assoc,T.period,ih]
theorem Tab.odd {n : Nat} {R : Nat -> Cx} {tau : Rat} (T : Tab n R tau) (m c : Nat) : R (m + (2 * c + 1) * (n / 2)) = Cx.neg (R m):=by
 have e : m + (2 * c + 1) * (n / 2) = (m + n / 2) + c * n:=by
  have:=T.even
  rw [Nat.add_mul,Nat.one_mul,Nat.mul_comm 2 c,Nat.mul_assoc,show 2 * (n / 2) = n by omega]
  omega
 rw [e,T.periods,T.half]
def dft (R : Nat -> Cx) (k s : Nat) (x : Nat -> Cx) (j : Nat) : Cx:=sumC (2 ^ k) (fun i=>Cx.mul (x i) (R (i * j * s)))
theorem dft_next (R : Nat -> Cx) (k s : Nat) (x : Nat -> Cx) (j : Nat) : dft R (k + 1) s x j = Cx.add (dft R k (2 * s) (ev x) j) (sumC (2 ^ k) (fun i=>Cx.mul (od x i) (R ((2 * i + 1) * j * s)))):=by
 unfold dft
 rw [Nat.pow_succ,Nat.mul_comm (2 ^ k) 2,sumC_even]
 congr 1
 exact sumC_congr (fun i _=>by
  show Cx.mul (x (2 * i)) _ = Cx.mul (x (2 * i)) _
  rw [show 2 * i * j * s = i * j * (2 * s) by rw [Nat.mul_assoc 2 i j,Nat.mul_comm 2 (i * j),Nat.mul_assoc]])
def lev (R : Nat -> Cx) (K : Nat) : Nat -> Nat -> Cx:=fun k j=>R (j * 2 ^ (K - 1 - k))
def tk (tau : Rat) : Nat -> Rat
 | 0=>0
 | k + 1=>4 * tk tau k + tau
theorem tk_pos {tau : Rat} (h : 0 <= tau) : ∀ k,0 <= tk tau k
 | 0=>Rat.le_refl
 | k + 1=>by have:=tk_pos h k; simp only [tk]; grind
theorem net_dft {K : Nat} {R : Nat -> Cx} {tau : Rat} (T : Tab (2 ^ K) R tau) : ∀ k,k <= K -> ∀ (x : Nat -> Cx) (j : Nat),j < 2 ^ k -> Cx.near (netC (lev R K) k x j) (dft R k (2 ^ (K - k)) x j) (tk tau k * X1 k x)
 | 0,_,x,j,hj=>by
   have h0 : j = 0:=by omega
   subst h0
   have e : dft R 0 (2 ^ (K - 0)) x 0 = netC (lev R K) 0 x 0:=by
    unfold dft netC
    rw [net,Nat.pow_zero]
    simp only [sumC,Nat.zero_mul]
    rw [T.zero,Cx.mul_one,Cx.zero_add]
   rw [e]
   exact (Cx.near_refl _).le (by simp only [tk]; grind)
 | k + 1,hk,x,j,hj=>by
   have hs : 2 ^ (K - k) = 2 * 2 ^ (K - (k + 1)):=by rw [<- Nat.pow_succ',show (K - (k + 1)).succ = K - k by omega]
   have hhalf : 2 ^ k * 2 ^ (K - (k + 1)) = 2 ^ K / 2:=by
    rw [<- Nat.pow_add,show k + (K - (k + 1)) = K - 1 by omega]
    have : 2 ^ K = 2 ^ (K - 1) * 2:=by rw [<- Nat.pow_succ,show (K - 1).succ = K by omega]
    omega
   obtain ⟨s,hs0⟩ : ∃ s,s = 2 ^ (K - (k + 1)):=⟨_,rfl⟩
   rw [<- hs0] at hs hhalf ⊢
   have pt:=tk_pos T.ptau k
   have pe:=X1_nonneg k (ev x)
   have po:=X1_nonneg k (od x)
   -- the second half of the sum
   have second : ∀ i,i < 2 ^ k -> Cx.near (Cx.mul (R (i * s)) (netC (lev R K) k (od x) i)) (sumC (2 ^ k) (fun p=>Cx.mul (od x p) (R ((2 * p + 1) * i * s)))) (4 * (tk tau k * X1 k (od x)) + tau * X1 k (od x)):=fun i hi=>by
    have h1:=(net_dft T k (by omega) (od x) i hi).mul (T.lim (i * s))
    have h2 : Cx.near (Cx.mul (R (i * s)) (dft R k (2 ^ (K - k)) (od x) i)) (sumC (2 ^ k) (fun p=>Cx.mul (od x p) (R ((2 * p + 1) * i * s)))) (tau * X1 k (od x)):=by
     unfold dft
     rw [<- sumC_mul]
     have h3:=sumC_near (n:=2 ^ k) (f:=fun p=>Cx.mul (R (i * s)) (Cx.mul (od x p) (R (p * i * 2 ^ (K - k))))) (g:=fun p=>Cx.mul (od x p) (R ((2 * p + 1) * i * s))) (t:=fun p=>tau * s1 (od x p)) (fun p _=>by
      have e1 : Cx.mul (R (i * s)) (Cx.mul (od x p) (R (p * i * 2 ^ (K - k)))) = Cx.mul (od x p) (Cx.mul (R (i * s)) (R (p * i * 2 ^ (K - k)))):=by
       rw [<- Cx.mul_assoc,Cx.mul_comm (R (i * s)) (od x p),Cx.mul_assoc]
      have e2 : (2 * p + 1) * i * s = i * s + p * i * 2 ^ (K - k):=by
       rw [hs,Nat.add_mul,Nat.add_mul,Nat.one_mul,Nat.add_comm]
       congr 1
       rw [Nat.mul_assoc 2 p i,Nat.mul_comm 2 (p * i),Nat.mul_assoc]
      rw [e1,e2]
      have h4:=near_s1 (a:=od x p) (T.mul (i * s) (p * i * 2 ^ (K - k))).symm
      exact h4.le (by grind))
     rw [sumN_mul] at h3
     exact h3
    exact (h1.trans h2).le (by grind)
   rw [dft_next,X1_next]
   by_cases hl : j < 2 ^ k
   ·rw [netC_low hl]
    have h1:=net_dft T k (by omega) (ev x) j hl
    rw [hs] at h1
    have h2:=second j hl
    have e : lev R K k j = R (j * s):=by unfold lev; rw [hs0,show K - 1 - k = K - (k + 1) by omega]
    rw [e]
    exact (h1.add h2).le (by
     have:=Rat.mul_nonneg pt pe
     have:=Rat.mul_nonneg T.ptau pe
     simp only [tk]; grind)
   ·obtain ⟨i,rfl⟩ : ∃ i,j = 2 ^ k + i:=⟨j - 2 ^ k,by omega⟩
    have hi : i < 2 ^ k:=by rw [Nat.pow_succ] at hj; omega
    rw [netC_high]
    have e : lev R K k i = R (i * s):=by unfold lev; rw [hs0,show K - 1 - k = K - (k + 1) by omega]
    have h1:=net_dft T k (by omega) (ev x) i hi
    rw [hs] at h1
    have h2:=(second i hi).neg
    have e1 : dft R k (2 * s) (ev x) (2 ^ k + i) = dft R k (2 * s) (ev x) i:=by
     unfold dft
     refine sumC_congr (fun p _=>?_)
     congr 1
     have e2 : p * (2 ^ k + i) * (2 * s) = p * i * (2 * s) + p * 2 ^ K:=by
      have e3 : 2 ^ k * (2 * s) = 2 ^ K:=by
       have : 2 ^ K = 2 ^ K / 2 + 2 ^ K / 2:=T.even
       rw [Nat.mul_left_comm,hhalf]; omega
      rw [Nat.mul_add,Nat.add_mul,Nat.mul_assoc p (2 ^ k),e3,Nat.add_comm]
     rw [e2,T.periods]
    have e2 : sumC (2 ^ k) (fun p=>Cx.mul (od x p) (R ((2 * p + 1) * (2 ^ k + i) * s))) = Cx.neg (sumC (2 ^ k) (fun p=>Cx.mul (od x p) (R ((2 * p + 1) * i * s)))):=by
     rw [<- sumC_neg]
     refine sumC_congr (fun p _=>?_)
     have e3 : (2 * p + 1) * (2 ^ k + i) * s = (2 * p + 1) * i * s + (2 * p + 1) * (2 ^ K / 2):=by
      rw [Nat.mul_add,Nat.add_mul,Nat.mul_assoc (2 * p + 1) (2 ^ k) s,hhalf,Nat.add_comm]
     rw [e3,T.odd,Cx.mul_neg]
    rw [e1,e2,e,<- Cx.add_neg]
    exact (h1.add h2).le (by
     have:=Rat.mul_nonneg pt pe
     have:=Rat.mul_nonneg T.ptau pe
     simp only [tk]; grind)
end
section
open Cx (n2)
theorem odd_part : ∀ (K m : Nat),m % 2 ^ K ≠ 0 -> ∃ v c,v < K /\ m = 2 ^ v * (2 * c + 1)
 | 0,m,h=>absurd (Nat.mod_one m) h
 | K + 1,m,h=>by
   by_cases ho : m % 2 = 1
   ·exact ⟨0,m / 2,by omega,by rw [Nat.pow_zero]; omega⟩
   ·obtain ⟨q,rfl⟩ : ∃ q,m = 2 * q:=⟨m / 2,by omega⟩
    have hq : q % 2 ^ K ≠ 0:=fun h0=>h (by rw [Nat.pow_succ,Nat.mul_comm (2 ^ K) 2,Nat.mul_mod_mul_left,h0])
    obtain ⟨v,c,hv,e⟩:=odd_part K q hq
    exact ⟨v + 1,c,by omega,by rw [e,Nat.pow_succ,Nat.mul_comm (2 ^ v) 2,Nat.mul_assoc]⟩
theorem sum_turns (h : Nat) (f : Nat -> Cx) (hf : ∀ j,f (j + h) = Cx.neg (f j)) : ∀ c,sumC (c * (h + h)) f = Cx.zero
 | 0=>by rw [Nat.zero_mul]; rfl
 | c + 1=>by
   rw [Nat.succ_mul,sumC_split,sum_turns h f hf c,Cx.zero_add,sumC_split]
   have e : sumC h (fun i=>f (c * (h + h) + (h + i))) = Cx.neg (sumC h (fun i=>f (c * (h + h) + i))):=by
    rw [<- sumC_neg]
    exact sumC_congr (fun i _=>by rw [<- hf]; congr 1; omega)
   rw [e]
   apply Cx.ext <;> simp only [Cx.add,Cx.neg,Cx.zero] <;> grind
theorem sumC_const (c : Cx) : ∀ n : Nat,sumC n (fun _=>c) = Cx.mul ⟨(n : Rat),0⟩ c
 | 0=>by simp only [sumC]; apply Cx.ext <;> simp only [Cx.mul,Cx.zero] <;> grind
 | n + 1=>by
   simp only [sumC]
   rw [sumC_const c n]
   apply Cx.ext <;> simp only [Cx.mul,Cx.add] <;> grind
theorem orth {K : Nat} {R : Nat -> Cx} {tau : Rat} (T : Tab (2 ^ K) R tau) (m : Nat) : sumC (2 ^ K) (fun j=>R (m * j)) = if m % 2 ^ K = 0 then ⟨((2 ^ K : Nat) : Rat),0⟩ else Cx.zero:=by
 by_cases h : m % 2 ^ K = 0
 ·rw [if_pos h]
  have e : sumC (2 ^ K) (fun j=>R (m * j)) = sumC (2 ^ K) (fun _=>Cx.one):=sumC_congr (fun j _=>by
   have e1 : m = 2 ^ K * (m / 2 ^ K):=by have:=Nat.mod_add_div m (2 ^ K); omega
   have e2 : m * j = 0 + (m / 2 ^ K * j) * 2 ^ K:=by
    rw [Nat.zero_add]
    calc m * j = 2 ^ K * (m / 2 ^ K) * j:=by rw [<- e1]
     _ = (m / 2 ^ K * j) * 2 ^ K:=by rw [Nat.mul_assoc,Nat.mul_comm]
   rw [e2,T.periods,T.zero])
  rw [e,sumC_const,Cx.mul_one]
 ·rw [if_neg h]
  obtain ⟨v,c,hv,rfl⟩:=odd_part K m h
  have hpow : 2 ^ K = 2 ^ v * (2 ^ (K - 1 - v) + 2 ^ (K - 1 - v)):=by
   rw [<- Nat.mul_two,<- Nat.pow_succ,<- Nat.pow_add]
   congr 1; omega
  rw [hpow]
  refine sum_turns _ _ (fun j=>?_) _
  have hh : 2 ^ v * 2 ^ (K - 1 - v) = 2 ^ K / 2:=by
   have:=T.even
   rw [hpow] at this ⊢
   rw [Nat.mul_add]
   omega
  have e : 2 ^ v * (2 * c + 1) * (j + 2 ^ (K - 1 - v)) = 2 ^ v * (2 * c + 1) * j + (2 * c + 1) * (2 ^ K / 2):=by
   rw [Nat.mul_add,<- hh]
   congr 1
   rw [Nat.mul_comm (2 ^ v),Nat.mul_assoc]
  rw [e,T.odd]
def cj (R : Nat -> Cx) : Nat -> Cx:=fun m=>Cx.conj (R m)
theorem Tab.cj {n : Nat} {R : Nat -> Cx} {tau : Rat} (T : Tab n R tau) : Tab n (cj R) tau where
 ptau:=T.ptau
 zero:=by unfold Go.Proofs.YtnpanpkahbcecaaGreatDoor.cj; rw [T.zero]; apply Cx.ext <;> simp only [Cx.conj,Cx.one] <;> grind
 half:=fun m=>by unfold Go.Proofs.YtnpanpkahbcecaaGreatDoor.cj; rw [T.half]; apply Cx.ext <;> simp only [Cx.conj,Cx.neg]
 even:=T.even
 lim:=fun m=>by have:=T.lim m; unfold Go.Proofs.YtnpanpkahbcecaaGreatDoor.cj Cx.lim at *; simp only [Cx.conj]; grind
 mul:=fun a b=>by have:=T.mul a b; unfold Go.Proofs.YtnpanpkahbcecaaGreatDoor.cj Cx.near at *; simp only [Cx.conj,Cx.mul] at *; grind
def conv (n : Nat) (x y : Nat -> Cx) (i : Nat) : Cx:=sumC n (fun p=>Cx.mul (x p) (y ((i + n - p) % n)))
theorem sumC_single (n : Nat) (f : Nat -> Cx) (q : Nat) (hq : q < n) (h : ∀ j,j < n -> j ≠ q -> f j = Cx.zero) : sumC n f = f q:=by
 induction n with
 | zero=>omega
 | succ n ih =>
   simp only [sumC]
   by_cases hqn : q = n
   ·subst hqn
    have : sumC q f = Cx.zero:=by
     rw [sumC_congr (g:=fun _=>Cx.zero) (fun i hi=>h i (by omega) (by omega)),sumC_zero]
    rw [this,Cx.zero_add]
   ·rw [ih (by omega) (fun j hj hne=>h j (by omega) hne),h n (by omega) (by omega),Cx.add_zero]
theorem conj_at {K : Nat} {R : Nat -> Cx} {tau : Rat} (T : Tab (2 ^ K) R tau) (hc : ∀ m,Cx.near (Cx.conj (R m)) (R (m * (2 ^ K - 1))) tau) (i j : Nat) (hi : i < 2 ^ K) : Cx.near (cj R (j * i)) (R ((2 ^ K - i) * j)) tau:=by
 have h:=hc (j * i)
 have e : R (j * i * (2 ^ K - 1)) = R ((2 ^ K - i) * j):=by
  by_cases hi0 : i = 0
  ·subst hi0
   rw [Nat.mul_zero,Nat.zero_mul,Nat.sub_zero,show 2 ^ K * j = 0 + j * 2 ^ K by rw [Nat.mul_comm]; omega,T.periods]
  ·have hn : 0 < 2 ^ K:=Nat.two_pow_pos K
   have e1 : j * i * (2 ^ K - 1) = (2 ^ K - i) * j + (j * (i - 1)) * 2 ^ K:=by
    obtain ⟨n1,hn1⟩ : ∃ n1,2 ^ K = n1 + 1:=⟨2 ^ K - 1,by omega⟩
    obtain ⟨i1,rfl⟩ : ∃ i1,i = i1 + 1:=⟨i - 1,by omega⟩
    obtain ⟨d,hd⟩ : ∃ d,n1 = i1 + d:=⟨n1 - i1,by omega⟩
    rw [hn1,hd,Nat.add_sub_cancel,Nat.add_sub_cancel,show i1 + d + 1 - (i1 + 1) = d by omega]
    grind
   rw [e1,T.periods]
 rw [e] at h
 exact h
theorem back_near {K : Nat} {R : Nat -> Cx} {tau : Rat} (T : Tab (2 ^ K) R tau) (hc : ∀ m,Cx.near (Cx.conj (R m)) (R (m * (2 ^ K - 1))) tau) (x y : Nat -> Cx) (i : Nat) (hi : i < 2 ^ K) :
  Cx.near (dft (cj R) K 1 (fun j=>Cx.mul (dft R K 1 x j) (dft R K 1 y j)) i) (Cx.mul ⟨((2 ^ K : Nat) : Rat),0⟩ (conv (2 ^ K) x y i)) (pw K * (X1 K x * (X1 K y * (9 * tau)))):=by
 have pt:=T.ptau
 -- the triple products
 have triple : ∀ p q j,Cx.near (Cx.mul (Cx.mul (R (p * j)) (R (q * j))) (cj R (j * i))) (R ((p + q + (2 ^ K - i)) * j)) (9 * tau):=fun p q j=>by
  have lc : Cx.lim (cj R (j * i)) 2:=T.cj.lim _
  have h1:=(T.mul (p * j) (q * j)).symm.mul lc
  have h2:=(conj_at T hc i j hi).mul (T.lim (p * j + q * j))
  have h3:=(T.mul (p * j + q * j) ((2 ^ K - i) * j)).symm
  rw [Cx.mul_comm (cj R (j * i)),Cx.mul_comm (cj R (j * i))] at h1
  have e : (p + q + (2 ^ K - i)) * j = p * j + q * j + (2 ^ K - i) * j:=by rw [Nat.add_mul,Nat.add_mul]
  rw [e]
  exact ((h1.trans h2).trans h3).le (by grind)
 -- the sums out of each other
 have e1 : dft (cj R) K 1 (fun j=>Cx.mul (dft R K 1 x j) (dft R K 1 y j)) i = sumC (2 ^ K) (fun j=>sumC (2 ^ K) (fun p=>Cx.mul (x p) (sumC (2 ^ K) (fun q=>Cx.mul (y q) (Cx.mul (Cx.mul (R (p * j)) (R (q * j))) (cj R (j * i))))))):=by
  show sumC (2 ^ K) _ = _
  refine sumC_congr (fun j _=>?_)
  show Cx.mul (Cx.mul (dft R K 1 x j) (dft R K 1 y j)) (cj R (j * i * 1)) = _
  rw [Nat.mul_one]
  have ex : dft R K 1 x j = sumC (2 ^ K) (fun p=>Cx.mul (x p) (R (p * j))):=sumC_congr (fun p _=>by rw [Nat.mul_one])
  have ey : dft R K 1 y j = sumC (2 ^ K) (fun q=>Cx.mul (y q) (R (q * j))):=sumC_congr (fun q _=>by rw [Nat.mul_one])
  rw [Cx.mul_assoc,ex,Cx.mul_comm,<- sumC_mul]
  refine sumC_congr (fun p _=>?_)
  have e5 : sumC (2 ^ K) (fun q=>Cx.mul (y q) (Cx.mul (Cx.mul (R (p * j)) (R (q * j))) (cj R (j * i)))) = Cx.mul (Cx.mul (R (p * j)) (cj R (j * i))) (dft R K 1 y j):=by
   rw [ey,<- sumC_mul]
   exact sumC_congr (fun q _=>by apply Cx.ext <;> simp only [Cx.mul] <;> grind)
  rw [e5]
  apply Cx.ext <;> simp only [Cx.mul] <;> grind
 have e2 : Cx.mul ⟨((2 ^ K : Nat) : Rat),0⟩ (conv (2 ^ K) x y i) = sumC (2 ^ K) (fun j=>sumC (2 ^ K) (fun p=>Cx.mul (x p) (sumC (2 ^ K) (fun q=>Cx.mul (y q) (R ((p + q + (2 ^ K - i)) * j)))))):=by
  rw [sumC_swap]
  unfold conv
  rw [<- sumC_mul]
  refine sumC_congr (fun p hp=>?_)
  rw [sumC_mul,sumC_swap]
  have e3 : sumC (2 ^ K) (fun q=>sumC (2 ^ K) (fun j=>Cx.mul (y q) (R ((p + q + (2 ^ K - i)) * j)))) = Cx.mul (y ((i + 2 ^ K - p) % 2 ^ K)) ⟨((2 ^ K : Nat) : Rat),0⟩:=by
   have hn : 0 < 2 ^ K:=Nat.two_pow_pos K
   have e4 : ∀ q,sumC (2 ^ K) (fun j=>Cx.mul (y q) (R ((p + q + (2 ^ K - i)) * j))) = Cx.mul (y q) (if (p + q + (2 ^ K - i)) % 2 ^ K = 0 then ⟨((2 ^ K : Nat) : Rat),0⟩ else Cx.zero):=fun q=>by rw [sumC_mul,orth T]
   have hq : ∀ q,q < 2 ^ K -> ((p + q + (2 ^ K - i)) % 2 ^ K = 0 ↔ q = (i + 2 ^ K - p) % 2 ^ K):=fun q hqn=>by
    generalize 2 ^ K = n at *
    have hb : (i + n - p) % n = if i + n - p < n then i + n - p else i - p:=by
     split
     ·exact Nat.mod_eq_of_lt (by assumption)
     ·rw [show i + n - p = (i - p) + n by omega,Nat.add_mod_right,Nat.mod_eq_of_lt (by omega)]
    have ha : (p + q + (n - i)) % n = if p + q + (n - i) < n then p + q + (n - i) else if p + q + (n - i) < 2 * n then p + q - i else p + q - i - n:=by
     split
     ·exact Nat.mod_eq_of_lt (by assumption)
     ·split
      ·rw [show p + q + (n - i) = (p + q - i) + n by omega,Nat.add_mod_right,Nat.mod_eq_of_lt (by omega)]
      ·rw [show p + q + (n - i) = ((p + q - i - n) + n) + n by omega,Nat.add_mod_right,Nat.add_mod_right,Nat.mod_eq_of_lt (by omega)]
    rw [ha,hb]
    split <;> split <;> (try split) <;> omega
   rw [sumC_congr (fun q _=>e4 q),sumC_single (2 ^ K) _ ((i + 2 ^ K - p) % 2 ^ K) (Nat.mod_lt _ hn) (fun q hqn hne=>by
    rw [if_neg (fun h=>hne ((hq q hqn).1 h)),Cx.mul_zero])]
   rw [if_pos ((hq _ (Nat.mod_lt _ hn)).2 rfl)]
  rw [e3]
  apply Cx.ext <;> simp only [Cx.mul] <;> grind
 rw [e1,e2]
 have h:=sumC_near (n:=2 ^ K) (t:=fun _=>X1 K x * (X1 K y * (9 * tau))) (f:=fun j=>sumC (2 ^ K) (fun p=>Cx.mul (x p) (sumC (2 ^ K) (fun q=>Cx.mul (y q) (Cx.mul (Cx.mul (R (p * j)) (R (q * j))) (cj R (j * i))))))) (g:=fun j=>sumC (2 ^ K) (fun p=>Cx.mul (x p) (sumC (2 ^ K) (fun q=>Cx.mul (y q) (R ((p + q + (2 ^ K - i)) * j)))))) (fun j _=>by
  have h1:=sumC_near (n:=2 ^ K) (t:=fun p=>(X1 K y * (9 * tau)) * s1 (x p)) (f:=fun p=>Cx.mul (x p) (sumC (2 ^ K) (fun q=>Cx.mul (y q) (Cx.mul (Cx.mul (R (p * j)) (R (q * j))) (cj R (j * i)))))) (g:=fun p=>Cx.mul (x p) (sumC (2 ^ K) (fun q=>Cx.mul (y q) (R ((p + q + (2 ^ K - i)) * j))))) (fun p _=>by
   have h2:=sumC_near (n:=2 ^ K) (t:=fun q=>(9 * tau) * s1 (y q)) (f:=fun q=>Cx.mul (y q) (Cx.mul (Cx.mul (R (p * j)) (R (q * j))) (cj R (j * i)))) (g:=fun q=>Cx.mul (y q) (R ((p + q + (2 ^ K - i)) * j))) (fun q _=>(near_s1 (triple p q j)).le (by grind))
   rw [sumN_mul] at h2
   exact (near_s1 h2).le (by unfold X1; grind))
  rw [sumN_mul] at h1
  exact h1.le (by unfold X1; grind))
 rw [sumN_const] at h
 exact h
end
end Go.Proofs.YtnpanpkahbcecaaGreatDoor

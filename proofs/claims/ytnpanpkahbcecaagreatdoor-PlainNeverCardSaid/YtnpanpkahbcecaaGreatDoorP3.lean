/-
Walks: product, NatMul.
  Walk: NatUp.
-/
import Derived.Test.YtnpanpkahbcecaaGreatDoorP1
import Ieee.Arith
import Derived.Laws.FloatBits
import Derived.Laws.BitsAllLaws
import Derived.Laws.Cover2
import Derived.Laws.FloatArith
import Derived.Test.YtnpanpkahbcecaaGreatDoorProg
import Derived.WalkKit
import Derived.WalkLawsBesides
import Derived.WalkSpells
import Derived.KernelRfl
import Derived.Laws.Externs
import Derived.Outline
import Derived.Lib.Hide
import Derived.OwnWalk
import Derived.LoopTactic
import Derived.Below
import Derived.Laws.OwnMore
import Derived.Laws.AppendOwnNone
import Derived.Deep.AppendLies
import Derived.RegionTactic
import Derived.ChangeAlike
import Derived.Deep.RegionLaw
import Derived.Deep.QuietTactic
import Derived.BigQuiet
import Derived.IntWalk
set_option linter.unusedVariables false
set_option linter.unusedSimpArgs false
namespace Go.Proofs.YtnpanpkahbcecaaGreatDoor
section
namespace Fl
open Ieee
def I : Nat:=9218868437227405312
def B : Nat:=4503599627370496
def W : Nat:=9223372036854775808
theorem B_eq : B = 2 ^ 52:=by decide
theorem W_eq : W = 2 ^ 63:=by decide
theorem dB : double.binade = B:=by decide
theorem dI : double.infRung = I:=by decide
theorem dW : double.signWeight = W:=by decide
theorem dL : double.leastPlace = -1074:=by decide
theorem dF : double.fractionBits = 52:=by decide
def ex (r : Nat) : Nat:=r / B - 1
def mant (r : Nat) : Nat:=r - ex r * B
def rv (r : Nat) : Nat:=mant r * 2 ^ ex r
theorem mant_lt (r : Nat) : mant r < 2 * B:=by
 unfold mant ex B; omega
theorem ex_mant (r : Nat) : r = ex r * B + mant r:=by
 unfold mant ex B; omega
theorem mant_ge (r : Nat) : ex r = 0 \/ B <= mant r:=by
 unfold mant ex B; omega
theorem ex_of (e m : Nat) (hm : m < 2 * B) (h : e = 0 \/ B <= m) : ex (e * B + m) = e:=by
 unfold ex B at *; omega
theorem mant_of (e m : Nat) (hm : m < 2 * B) (h : e = 0 \/ B <= m) : mant (e * B + m) = m:=by
 unfold mant; rw [ex_of e m hm h]; omega
theorem rv_of (e m : Nat) (hm : m <= 2 * B) (h : e = 0 \/ B <= m) : rv (e * B + m) = m * 2 ^ e:=by
 rcases Nat.lt_or_ge m (2 * B) with h1 | h1
 ·unfold rv; rw [ex_of e m h1 h,mant_of e m h1 h]
 ·have h2 : m = 2 * B:=by omega
  subst h2
  have e1 : e * B + 2 * B = (e + 1) * B + B:=by grind
  have hB : B < 2 * B:=by unfold B; omega
  rw [e1]; unfold rv; rw [ex_of (e + 1) B hB (Or.inr (Nat.le_refl _)),mant_of (e + 1) B hB (Or.inr (Nat.le_refl _))]
  rw [Nat.pow_succ,Nat.mul_comm (2 ^ e) 2,<- Nat.mul_assoc,Nat.mul_comm B 2]
theorem rv_succ (r : Nat) : rv (r + 1) = rv r + 2 ^ ex r:=by
 have h:=rv_of (ex r) (mant r + 1) (by have:=mant_lt r; omega) (by rcases mant_ge r with h | h; exact .inl h; exact .inr (by omega))
 rw [<- Nat.add_assoc,<- ex_mant r] at h
 rw [h,Nat.succ_mul]; rfl
theorem rv_lt_succ (r : Nat) : rv r < rv (r + 1):=by
 have:=rv_succ r; have : 0 < 2 ^ ex r:=Nat.two_pow_pos _; omega
theorem rv_mono {a b : Nat} (h : a < b) : rv a < rv b:=by
 induction b with
 | zero=>omega
 | succ n ih =>
   have:=rv_lt_succ n
   rcases Nat.lt_or_ge a n with h1 | h1
   ·have:=ih h1; omega
   ·have : a = n:=by omega
    subst this; omega
theorem rv_le {a b : Nat} (h : a <= b) : rv a <= rv b:=by
 rcases Nat.lt_or_ge a b with h1 | h1
 ·exact Nat.le_of_lt (rv_mono h1)
 ·have : a = b:=by omega
  subst this; exact Nat.le_refl _
theorem rv_lt_iff {a b : Nat} : rv a < rv b ↔ a < b :=
 ⟨fun h=>by rcases Nat.lt_or_ge a b with h1 | h1; exact h1; have:=rv_le h1; omega,rv_mono⟩
theorem rv_le_iff {a b : Nat} : rv a <= rv b ↔ a <= b :=
 ⟨fun h=>by rcases Nat.lt_or_ge b a with h1 | h1; have:=rv_mono h1; omega; exact h1,rv_le⟩
theorem rv_inj {a b : Nat} (h : rv a = rv b) : a = b:=by
 have h1:=rv_le_iff.1 (Nat.le_of_eq h); have h2:=rv_le_iff.1 (Nat.le_of_eq h.symm); omega
theorem rv_zero : rv 0 = 0:=by decide
theorem rv_pos {r : Nat} (h : 0 < r) : 0 < rv r:=by have:=rv_mono h; rw [rv_zero] at this; exact this
theorem rep (m j : Nat) (h : m <= 2 * B) : ∃ r,rv r = m * 2 ^ j:=by
 induction j generalizing m with
 | zero=>exact ⟨m,by have:=rv_of 0 m h (.inl rfl); simpa using this⟩
 | succ j ih =>
   rcases Nat.lt_or_ge m B with h1 | h1
   ·obtain ⟨r,hr⟩:=ih (2 * m) (by omega)
    exact ⟨r,by rw [hr,Nat.pow_succ,Nat.mul_comm 2 m,Nat.mul_assoc,Nat.mul_comm 2]⟩
   ·exact ⟨(j + 1) * B + m,rv_of (j + 1) m h (.inr h1)⟩
structure Rnd (n d r : Nat) : Prop where
 hi : 2 * n <= (rv r + rv (r + 1)) * 2 ^ d
 hie : 2 * n = (rv r + rv (r + 1)) * 2 ^ d -> r % 2 = 0
 lo : 0 < r -> (rv (r - 1) + rv r) * 2 ^ d <= 2 * n
 loe : 0 < r -> (rv (r - 1) + rv r) * 2 ^ d = 2 * n -> r % 2 = 0
theorem Rnd.mono {n d r m k q : Nat} (h1 : Rnd n d r) (h2 : Rnd m k q) (h : n * 2 ^ k <= m * 2 ^ d) : r <= q:=by
 rcases Nat.lt_or_ge q r with hq | hq
 ·exfalso
  have a1:=h1.lo (by omega)
  have a2:=h2.hi
  have hle : rv q + rv (q + 1) <= rv (r - 1) + rv r:=Nat.add_le_add (rv_le (by omega)) (rv_le (by omega))
  have b1 : (rv (r - 1) + rv r) * 2 ^ d * 2 ^ k <= 2 * n * 2 ^ k:=Nat.mul_le_mul_right _ a1
  have b2 : 2 * m * 2 ^ d <= (rv q + rv (q + 1)) * 2 ^ k * 2 ^ d:=Nat.mul_le_mul_right _ a2
  have b3 : 2 * n * 2 ^ k <= 2 * m * 2 ^ d:=by rw [Nat.mul_assoc,Nat.mul_assoc]; exact Nat.mul_le_mul_left 2 h
  have b4 : (rv (r - 1) + rv r) * (2 ^ d * 2 ^ k) <= (rv q + rv (q + 1)) * (2 ^ d * 2 ^ k):=by
   rw [<- Nat.mul_assoc]; refine Nat.le_trans (Nat.le_trans b1 (Nat.le_trans b3 b2)) ?_
   rw [Nat.mul_assoc,Nat.mul_comm (2 ^ k)]; exact Nat.le_refl _
  have hp : 0 < 2 ^ d * 2 ^ k:=Nat.mul_pos (Nat.two_pow_pos _) (Nat.two_pow_pos _)
  have b5:=Nat.le_of_mul_le_mul_right b4 hp
  have heq : rv q + rv (q + 1) = rv (r - 1) + rv r:=by omega
  have hqr : q = r - 1:=by
   have c1 : rv q <= rv (r - 1):=rv_le (by omega)
   have c2 : rv (q + 1) <= rv r:=rv_le (by omega)
   exact rv_inj (by omega)
  -- all are one
  have d1 : 2 * n * 2 ^ k = (rv (r - 1) + rv r) * 2 ^ d * 2 ^ k:=by
   apply Nat.le_antisymm _ b1
   refine Nat.le_trans b3 (Nat.le_trans b2 ?_)
   rw [heq,Nat.mul_assoc,Nat.mul_assoc,Nat.mul_comm (2 ^ k)]; exact Nat.le_refl _
  have d2 : 2 * n = (rv (r - 1) + rv r) * 2 ^ d:=Nat.eq_of_mul_eq_mul_right (Nat.two_pow_pos k) d1
  have d3 : 2 * m * 2 ^ d = (rv q + rv (q + 1)) * 2 ^ k * 2 ^ d:=by
   apply Nat.le_antisymm b2
   rw [heq,Nat.mul_assoc,Nat.mul_comm (2 ^ k),<- Nat.mul_assoc]
   exact Nat.le_trans b1 b3
  have d4 : 2 * m = (rv q + rv (q + 1)) * 2 ^ k:=Nat.eq_of_mul_eq_mul_right (Nat.two_pow_pos d) d3
  have e1:=h1.loe (by omega) d2.symm
  have e2:=h2.hie d4
  omega
 ·exact hq
theorem Rnd.eq {n d r q : Nat} (h1 : Rnd n d r) (h2 : Rnd n d q) : r = q :=
 Nat.le_antisymm (h1.mono h2 (Nat.le_refl _)) (h2.mono h1 (Nat.le_refl _))
theorem Rnd.exact (r d : Nat) : Rnd (rv r * 2 ^ d) d r:=by
 have h0:=rv_lt_succ r
 have hp : 0 < 2 ^ d:=Nat.two_pow_pos _
 refine ⟨?_,?_,?_,?_⟩
 ·rw [<- Nat.mul_assoc]; exact Nat.mul_le_mul_right _ (by omega)
 ·intro h; rw [<- Nat.mul_assoc] at h; have:=Nat.eq_of_mul_eq_mul_right hp h; omega
 ·intro h; have:=rv_mono (show r - 1 < r by omega)
  rw [<- Nat.mul_assoc]; exact Nat.mul_le_mul_right _ (by omega)
 ·intro h h2; have:=rv_mono (show r - 1 < r by omega)
  rw [<- Nat.mul_assoc] at h2; have:=Nat.eq_of_mul_eq_mul_right hp h2; omega
structure Cut (n b k : Nat) : Prop where
 hi : 2 * n <= (2 * k + 1) * 2 ^ b
 hie : 2 * n = (2 * k + 1) * 2 ^ b -> k % 2 = 0
 lo : 2 * k * 2 ^ b <= 2 * n + 2 ^ b
 loe : 2 * k * 2 ^ b = 2 * n + 2 ^ b -> k % 2 = 0
theorem cut_aux (low rest gap : Nat) (hr : rest < gap) :
  let k:=low + (gap < 2 * rest || (gap == 2 * rest && low % 2 == 1)).toNat
  2 * (low * gap + rest) <= (2 * k + 1) * gap /\ (2 * (low * gap + rest) = (2 * k + 1) * gap -> k % 2 = 0) /\ 2 * k * gap <= 2 * (low * gap + rest) + gap /\ (2 * k * gap = 2 * (low * gap + rest) + gap -> k % 2 = 0):=by
 intro k
 rcases Nat.lt_trichotomy gap (2 * rest) with h | h | h
 ·have hk : k = low + 1:=by simp [k,h]
  rw [hk]
  have e1 : (2 * (low + 1) + 1) * gap = 2 * (low * gap) + 3 * gap:=by grind
  have e2 : 2 * (low + 1) * gap = 2 * (low * gap) + 2 * gap:=by grind
  rw [e1,e2]; omega
 ·by_cases hl : low % 2 = 1
  ·have hk : k = low + 1:=by
    simp [k,h,hl]
   rw [hk]
   have e1 : (2 * (low + 1) + 1) * gap = 2 * (low * gap) + 3 * gap:=by grind
   have e2 : 2 * (low + 1) * gap = 2 * (low * gap) + 2 * gap:=by grind
   rw [e1,e2]; omega
  ·have hk : k = low:=by
    have : ¬ gap < 2 * rest:=by omega
    simp [k,this,hl]
   rw [hk]
   have e1 : (2 * low + 1) * gap = 2 * (low * gap) + gap:=by grind
   have e2 : 2 * low * gap = 2 * (low * gap):=by rw [Nat.mul_assoc]
   rw [e1,e2]; omega
 ·have hk : k = low:=by
   have h1 : ¬ gap < 2 * rest:=by omega
   have h2 : ¬ gap = 2 * rest:=by omega
   simp [k,h1,h2]
  rw [hk]
  have e1 : (2 * low + 1) * gap = 2 * (low * gap) + gap:=by grind
  have e2 : 2 * low * gap = 2 * (low * gap):=by rw [Nat.mul_assoc]
  rw [e1,e2]; omega
theorem cut_even (neg : Bool) (n b : Nat) : Cut n b (Toward.even.cut neg n b):=by
 unfold Toward.cut
 simp only [Nat.one_shiftLeft]
 rcases Nat.lt_or_ge (n.log2 + 2) b with hb | hb
 ·-- all is dropped
  have hmin : min b (n.log2 + 2) = n.log2 + 2:=by omega
  rw [hmin]
  have hn : n < 2 ^ (n.log2 + 1):=Nat.lt_log2_self
  have h4 : 2 ^ (n.log2 + 2) = 2 * 2 ^ (n.log2 + 1):=by rw [Nat.pow_succ 2 (n.log2 + 1)]; omega
  have hd : n / 2 ^ (n.log2 + 2) = 0:=Nat.div_eq_of_lt (by omega)
  have hm : n % 2 ^ (n.log2 + 2) = n:=Nat.mod_eq_of_lt (by omega)
  rw [hd,hm]
  have h1 : ¬ 2 ^ (n.log2 + 2) < 2 * n:=by omega
  have h2 : ¬ 2 ^ (n.log2 + 2) = 2 * n:=by omega
  simp only [h1,decide_false,Bool.false_or,beq_eq_false_iff_ne.2 h2,Bool.false_and,Bool.toNat_false,Nat.add_zero]
  have hle : 2 ^ (n.log2 + 2) <= 2 ^ b:=Nat.pow_le_pow_right (by omega) (by omega)
  exact ⟨by omega,by omega,by omega,by omega⟩
 ·have hmin : min b (n.log2 + 2) = b:=by omega
  rw [hmin]
  have hp : 0 < 2 ^ b:=Nat.two_pow_pos _
  have h:=cut_aux (n / 2 ^ b) (n % 2 ^ b) (2 ^ b) (Nat.mod_lt _ hp)
  have hdm : n / 2 ^ b * 2 ^ b + n % 2 ^ b = n:=by rw [Nat.mul_comm]; exact Nat.div_add_mod n (2 ^ b)
  simp only [hdm] at h
  exact ⟨h.1,h.2.1,h.2.2.1,h.2.2.2⟩
theorem mul_le_cancel {a b c : Nat} (hc : 0 < c) (h : a * c <= b * c) : a <= b:=Nat.le_of_mul_le_mul_right h hc
theorem alg1 (s L D P : Nat) : s * L * D * P = s * P * (L * D):=by grind
theorem alg2 (n N P L D : Nat) (h : n * P = N * L * D) : 2 * n * P = 2 * N * (L * D):=by grind
theorem alg3 (k L : Nat) : (2 * k + 1) * L = k * L + (k + 1) * L:=by grind
theorem alg4 (k L D P : Nat) : (k * L + (k + 1) * L) * D * P = (2 * k + 1) * P * (L * D):=by grind
theorem alg5 (q P : Nat) : q * P + P = (q + 1) * P:=by grind
theorem alg6 (x k L D P : Nat) (h : x + L = k * L) : (x + k * L) * D * P + P * (L * D) = 2 * k * P * (L * D):=by
 have : (x + k * L) * D * P + P * (L * D) = (x + L + k * L) * (D * P):=by grind
 rw [this,h]; grind
theorem alg7 (L : Nat) : 2 * B * L = B * L + B * L:=by generalize B = b; grind
theorem rv_around (k l : Nat) (hk : k <= 2 * B) (hlB : l = 0 \/ B <= k) : rv (l * B + k) = k * 2 ^ l /\ (k + 1) * 2 ^ l <= rv (l * B + k + 1) /\ (k < 2 * B -> rv (l * B + k + 1) = (k + 1) * 2 ^ l) /\ (0 < l * B + k -> rv (l * B + k - 1) + 2 ^ l = k * 2 ^ l \/ (0 < l /\ k = B /\ rv (l * B + k - 1) < k * 2 ^ l)):=by
 have pl : 0 < 2 ^ l:=Nat.two_pow_pos _
 have hr:=rv_of l k hk hlB
 refine ⟨hr,?_,?_,?_⟩
 ·rcases Nat.lt_or_ge k (2 * B) with h1 | h1
  ·have:=rv_of l (k + 1) (by omega) (by rcases hlB with h | h; exact .inl h; exact .inr (by omega))
   rw [<- Nat.add_assoc] at this
   omega
  ·have e1 : k = 2 * B:=by omega
   have hs:=rv_succ (l * B + k)
   have e2 : l * B + k = (l + 1) * B + B:=by rw [e1]; generalize B = b; grind
   have hex : ex (l * B + k) = l + 1:=by rw [e2]; exact ex_of (l + 1) B (by unfold B; omega) (.inr (Nat.le_refl _))
   rw [hs,hr,hex,Nat.pow_succ,Nat.succ_mul]; omega
 ·intro h1
  have:=rv_of l (k + 1) (by omega) (by rcases hlB with h | h; exact .inl h; exact .inr (by omega))
  rw [<- Nat.add_assoc] at this
  exact this
 ·intro hpos
  rcases Nat.lt_or_ge 0 l with h0 | h0
  ·rcases Nat.lt_or_ge B k with h1 | h1
   ·left
    have:=rv_of l (k - 1) (by omega) (.inr (by omega))
    have e : l * B + k - 1 = l * B + (k - 1):=by omega
    rw [e,this,alg5]
    have : k - 1 + 1 = k:=by omega
    rw [this]
   ·right
    have hkB : k = B:=by rcases hlB with h | h; omega; omega
    refine ⟨h0,hkB,?_⟩
    rw [<- hr]; exact rv_mono (by omega)
  ·left
   have hl0 : l = 0:=by omega
   subst hl0
   have:=rv_of 0 (k - 1) (by omega) (.inl rfl)
   simp only [Nat.zero_mul,Nat.zero_add,Nat.pow_zero,Nat.mul_one] at *
   omega
theorem rnd_of_cut (N b k l n d : Nat) (hc : Cut N b k) (hk : k <= 2 * B) (hlB : l = 0 \/ B <= k) (hN : l = 0 \/ B * 2 ^ b <= N) (h : n * 2 ^ b = N * 2 ^ l * 2 ^ d) : Rnd n d (l * B + k):=by
 have par : (l * B + k) % 2 = k % 2:=by
  have : l * B = 2 * (l * 2251799813685248):=by unfold B; omega
  omega
 obtain ⟨hr,hup,hup2,hdn⟩:=rv_around k l hk hlB
 obtain ⟨c1,c2,c3,c4⟩:=hc
 have key2:=alg2 n N (2 ^ b) (2 ^ l) (2 ^ d) h
 have pb : 0 < 2 ^ b:=Nat.two_pow_pos _
 have pd : 0 < 2 ^ d:=Nat.two_pow_pos _
 have pld : 0 < 2 ^ l * 2 ^ d:=Nat.mul_pos (Nat.two_pow_pos _) pd
 have hl0 : 0 < l -> B * 2 ^ b <= N:=fun h0=>by rcases hN with h | h; omega; exact h
 clear hlB hN h
 have Bev : (2 * B) % 2 = 0:=by omega
 refine ⟨?_,?_,?_,?_⟩
 all_goals
  generalize 2 ^ b = P at *
  generalize 2 ^ l = L at *
  generalize 2 ^ d = D at *
 ·apply mul_le_cancel pb
  rw [key2,hr]
  refine Nat.le_trans (Nat.mul_le_mul_right _ c1) ?_
  rw [<- alg1]
  refine Nat.mul_le_mul_right _ (Nat.mul_le_mul_right _ ?_)
  rw [alg3]; omega
 ·intro e
  rw [par]
  rcases Nat.lt_or_ge k (2 * B) with h1 | h1
  ·apply c2
   have e2 : 2 * n * P = (k * L + (k + 1) * L) * D * P:=by rw [e,hr,hup2 h1]
   rw [key2,alg4] at e2
   exact Nat.eq_of_mul_eq_mul_right pld e2
  ·have : k = 2 * B:=by omega
   rw [this]; exact Bev
 ·intro hpos
  apply mul_le_cancel pb
  rw [key2]
  rcases hdn hpos with h1 | ⟨h1,h2,h3⟩
  ·have hk0 : 1 <= k:=by
    rcases Nat.eq_zero_or_pos k with h | h
    ·subst h; rw [Nat.zero_mul] at h1
     have : L = 0:=by omega
     subst this; rw [Nat.zero_mul] at pld; omega
    ·exact h
   obtain ⟨q,hq⟩ : ∃ q,2 * k = q + 1:=⟨2 * k - 1,by omega⟩
   have h2 : q * P <= 2 * N:=by
    rw [hq,<- alg5] at c3; omega
   refine Nat.le_trans ?_ (Nat.mul_le_mul_right _ h2)
   rw [<- alg1,hr]
   refine Nat.mul_le_mul_right _ (Nat.mul_le_mul_right _ ?_)
   have e : q * L + L = 2 * (k * L):=by rw [alg5,<- hq,Nat.mul_assoc]
   omega
  ·have e : rv (l * B + k - 1) + rv (l * B + k) <= 2 * B * L:=by
    rw [alg7,hr]; rw [h2] at h3 ⊢; omega
   refine Nat.le_trans (Nat.mul_le_mul_right _ (Nat.mul_le_mul_right _ e)) ?_
   rw [alg1]
   exact Nat.mul_le_mul_right _ (by rw [Nat.mul_assoc]; exact Nat.mul_le_mul_left 2 (hl0 h1))
 ·intro hpos e
  rw [par]
  rcases hdn hpos with h1 | ⟨h1,h2,h3⟩
  ·apply c4
   have e2 : (rv (l * B + k - 1) + k * L) * D * P = 2 * N * (L * D):=by rw [<- key2,<- e,hr]
   have e3:=alg6 (rv (l * B + k - 1)) k L D P h1
   rw [e2,<- Nat.add_mul] at e3
   exact (Nat.eq_of_mul_eq_mul_right pld e3).symm
  ·exfalso
   have e2 : (rv (l * B + k - 1) + k * L) * D * P = 2 * N * (L * D):=by rw [<- key2,<- e,hr]
   have e4 : rv (l * B + k - 1) + k * L < 2 * B * L:=by
    rw [alg7]; rw [h2] at h3 ⊢; omega
   have e5 : (rv (l * B + k - 1) + k * L) * D * P < 2 * B * L * D * P :=
    Nat.mul_lt_mul_of_pos_right (Nat.mul_lt_mul_of_pos_right e4 pd) pb
   rw [alg1 (2 * B),e2] at e5
   have : 2 * N * (L * D) ≥ 2 * B * P * (L * D):=Nat.mul_le_mul_right _ (by rw [Nat.mul_assoc]; exact Nat.mul_le_mul_left 2 (hl0 h1))
   omega
theorem cut_zero {n k : Nat} (h : Cut n 0 k) : k = n:=by
 have:=h.hi; have:=h.lo; omega
theorem nearest_spec (neg : Bool) (mag : Nat) (place : Int) : ∃ r,double.nearest neg mag place = double.word neg (min r I) /\ ∀ d n : Nat,0 <= place + 1074 + d -> n = mag * 2 ^ (place + 1074 + d).toNat -> Rnd n d r:=by
 unfold Format.nearest
 rw [dL,dF,dB,dI]
 by_cases hm : mag = 0
 ·refine ⟨0,by simp [hm],?_⟩
  intro d n _ hn
  subst hm
  rw [Nat.zero_mul] at hn; subst hn
  have:=Rnd.exact 0 d
  rw [rv_zero,Nat.zero_mul] at this; exact this
 ·rw [if_neg hm]
  dsimp only
  have hlo : 2 ^ mag.log2 <= mag:=Nat.log2_self_le hm
  have hhi : mag < 2 ^ (mag.log2 + 1):=Nat.lt_log2_self
  generalize mag.log2 = L at *
  generalize hlast : max (place + (L : Int) - ((52 : Nat) : Int)) (-1074) = last
  generalize ha : (place - last).toNat = a
  generalize hb : (last - place).toNat = b
  rw [Nat.shiftLeft_eq]
  have hcut:=cut_even neg (mag * 2 ^ a) b
  generalize Toward.even.cut neg (mag * 2 ^ a) b = k at *
  generalize hl : (last - -1074).toNat = l
  have hk : k <= 2 * B /\ (l = 0 \/ B <= k) /\ (l = 0 \/ B * 2 ^ b <= mag * 2 ^ a):=by
   rw [B_eq]
   rcases Nat.eq_zero_or_pos b with hb0 | hb0
   ·subst hb0
    have:=cut_zero hcut
    subst this
    have hLa : L + a <= 52:=by omega
    have h1 : mag * 2 ^ a < 2 ^ (L + 1) * 2 ^ a:=Nat.mul_lt_mul_of_pos_right hhi (Nat.two_pow_pos _)
    have h2 : 2 ^ (L + 1) * 2 ^ a <= 2 * 2 ^ 52:=by
     rw [<- Nat.pow_add,<- Nat.pow_succ']; exact Nat.pow_le_pow_right (by omega) (by omega)
    have h3 : l = 0 \/ 2 ^ 52 <= mag * 2 ^ a:=by
     rcases Nat.eq_zero_or_pos l with h | h
     ·exact .inl h
     ·right
      have : L + a = 52:=by omega
      calc 2 ^ 52 = 2 ^ L * 2 ^ a:=by rw [<- Nat.pow_add,this]
       _ <= mag * 2 ^ a:=Nat.mul_le_mul_right _ hlo
    exact ⟨by omega,h3,by simpa using h3⟩
   ·have ha0 : a = 0:=by omega
    subst ha0
    rw [Nat.pow_zero,Nat.mul_one] at hcut ⊢
    have hLb : L <= 52 + b:=by omega
    have h1 : mag < 2 * 2 ^ 52 * 2 ^ b:=by
     refine Nat.lt_of_lt_of_le hhi ?_
     rw [<- Nat.pow_succ',<- Nat.pow_add]; exact Nat.pow_le_pow_right (by omega) (by omega)
    have pb : 0 < 2 ^ b:=Nat.two_pow_pos _
    have h2 : k <= 2 * 2 ^ 52:=by
     have h:=hcut.lo
     have : 2 * k * 2 ^ b < (2 * (2 * 2 ^ 52) + 1) * 2 ^ b:=by
      have : (2 * (2 * 2 ^ 52) + 1) * 2 ^ b = 2 * (2 * 2 ^ 52 * 2 ^ b) + 2 ^ b:=by grind
      omega
     have:=Nat.lt_of_mul_lt_mul_right this
     omega
    have h3 : l = 0 \/ 2 ^ 52 * 2 ^ b <= mag:=by
     rcases Nat.eq_zero_or_pos l with h | h
     ·exact .inl h
     ·right
      have : L = 52 + b:=by omega
      rw [<- Nat.pow_add,<- this]; exact hlo
    refine ⟨h2,?_,h3⟩
    rcases h3 with h | h
    ·exact .inl h
    ·right
     have h4:=hcut.hi
     have : 2 * 2 ^ 52 * 2 ^ b <= (2 * k + 1) * 2 ^ b:=by
      have : 2 * 2 ^ 52 * 2 ^ b = 2 * (2 ^ 52 * 2 ^ b):=by grind
      omega
     have:=mul_le_cancel pb this
     omega
  refine ⟨l * B + k,rfl,?_⟩
  intro d n hd hn
  refine rnd_of_cut (mag * 2 ^ a) b k l n d hcut hk.1 hk.2.1 hk.2.2 ?_
  rw [hn,Nat.mul_assoc,Nat.mul_assoc,Nat.mul_assoc,<- Nat.pow_add,<- Nat.pow_add,<- Nat.pow_add]
  have : (place + 1074 + (d : Int)).toNat + b = a + (l + d):=by omega
  rw [this]
end Fl
end
section
namespace Fl
open Ieee
def sg (w : Nat) : Bool:=w / W % 2 == 1
def rg (w : Nat) : Nat:=w % W
def fin (w : Nat) : Bool:=decide (rg w < I)
def wd (s : Bool) (r : Nat) : Nat:=if s then W + r else r
def vl (w : Nat) : Int:=if sg w then -(rv (rg w) : Int) else (rv (rg w) : Int)
def ng (w : Nat) : Nat:=if sg w then w - W else w + W
theorem word_eq (s : Bool) (r : Nat) : double.word s r = wd s r:=by
 unfold Format.word wd; rw [dW]
theorem wd_lt (s : Bool) (r : Nat) (h : r < W) : wd s r < 2 * W:=by unfold wd; split <;> omega
theorem rg_lt (w : Nat) : rg w < W:=Nat.mod_lt _ (by decide)
theorem sg_wd (s : Bool) (r : Nat) (h : r < W) : sg (wd s r) = s:=by
 unfold sg wd W at *
 cases s
 ·simp; omega
 ·simp; omega
theorem rg_wd (s : Bool) (r : Nat) (h : r < W) : rg (wd s r) = r:=by
 unfold rg wd W at *
 cases s
 ·simp; omega
 ·simp; omega
theorem wd_sg_rg (w : Nat) (h : w < 2 * W) : wd (sg w) (rg w) = w:=by
 unfold wd sg rg W at *
 by_cases h1 : w < 9223372036854775808
 ·have h2 : w / 9223372036854775808 = 0:=Nat.div_eq_of_lt h1
  simp [h2]; omega
 ·have h2 : w / 9223372036854775808 = 1:=by omega
  simp [h2]; omega
theorem ng_wd (s : Bool) (r : Nat) (h : r < W) : ng (wd s r) = wd (!s) r:=by
 unfold ng; rw [sg_wd s r h]; cases s <;> simp [wd] <;> omega
theorem ng_lt (w : Nat) (h : w < 2 * W) : ng w < 2 * W:=by
 rw [<- wd_sg_rg w h,ng_wd _ _ (rg_lt w)]; exact wd_lt _ _ (rg_lt w)
theorem sg_ng (w : Nat) (h : w < 2 * W) : sg (ng w) = !sg w:=by
 conv=>lhs; rw [<- wd_sg_rg w h]
 rw [ng_wd _ _ (rg_lt w),sg_wd _ _ (rg_lt w)]
theorem rg_ng (w : Nat) (h : w < 2 * W) : rg (ng w) = rg w:=by
 conv=>lhs; rw [<- wd_sg_rg w h]
 rw [ng_wd _ _ (rg_lt w),rg_wd _ _ (rg_lt w)]
theorem vl_ng (w : Nat) (h : w < 2 * W) : vl (ng w) = -vl w:=by
 unfold vl; rw [rg_ng w h,sg_ng w h]; cases sg w <;> simp
theorem vl_wd (s : Bool) (r : Nat) (h : r < W) : vl (wd s r) = if s then -(rv r : Int) else (rv r : Int):=by
 unfold vl; rw [sg_wd s r h,rg_wd s r h]
theorem I_lt_W : I < W:=by decide
theorem read_fin (w : Nat) (h : rg w < I) : double.read w = .number (sg w) (mant (rg w)) (-1074 + (ex (rg w) : Nat)):=by
 unfold Format.read
 rw [dW,dB,dI,dL]
 dsimp only
 rw [show w % W = rg w from rfl,show (w / W % 2 == 1) = sg w from rfl]
 by_cases h1 : rg w < B
 ·rw [if_pos h1]
  have e1 : ex (rg w) = 0:=by unfold ex; rw [Nat.div_eq_of_lt h1]
  have e2 : mant (rg w) = rg w:=by unfold mant; rw [e1]; omega
  rw [e1,e2]; rfl
 ·rw [if_neg h1,if_pos h]
  have e2 : B + rg w % B = mant (rg w):=by
   unfold mant ex; generalize rg w = r at *; clear h; unfold B at *; omega
  rw [e2]; rfl
theorem read_inf (w : Nat) (h : rg w = I) : double.read w = .infinity (sg w):=by
 unfold Format.read
 rw [dW,dB,dI,dL]
 dsimp only
 rw [show w % W = rg w from rfl,show (w / W % 2 == 1) = sg w from rfl,h,if_neg (by decide),if_neg (by decide),if_pos rfl]
theorem read_nan (w : Nat) (h : I < rg w) : double.read w = .nan (sg w) (rg w - I):=by
 unfold Format.read
 rw [dW,dB,dI,dL]
 dsimp only
 have hBI : B < I:=by decide
 rw [show w % W = rg w from rfl,show (w / W % 2 == 1) = sg w from rfl,if_neg (by omega),if_neg (by omega),if_neg (by omega)]
theorem signed_units (s : Bool) (r : Nat) (base : Int) (h : base <= -1074 + (ex r : Nat)) (hb : -1074 <= base) :
  signed s (mant r) (-1074 + (ex r : Nat) - base).toNat * 2 ^ (base + 1074).toNat = if s then -(rv r : Int) else (rv r : Int):=by
 have key : mant r * 2 ^ (-1074 + (ex r : Nat) - base).toNat * 2 ^ (base + 1074).toNat = rv r:=by
  unfold rv; rw [Nat.mul_assoc,<- Nat.pow_add]; congr 2; omega
 unfold signed
 rw [Nat.shiftLeft_eq]
 cases s
 ·simp only [Bool.false_eq_true,if_false]
  rw [<- key]; simp
 ·simp only [if_true]
  rw [<- key]; simp [Int.neg_mul]
theorem pow_pos_int (k : Nat) : (0 : Int) < 2 ^ k:=by
 have:=Nat.two_pow_pos k
 have e : ((2 ^ k : Nat) : Int) = (2 : Int) ^ k:=by simp
 omega
theorem compare_int (a b : Int) : compare a b = if a < b then .lt else if a = b then .eq else .gt:=rfl
theorem order_fin (x y : Nat) (hx : rg x < I) (hy : rg y < I) : double.order x y = some (compare (vl x) (vl y)):=by
 unfold Format.order
 rw [read_fin x hx,read_fin y hy]
 unfold Datum.order
 dsimp only
 generalize hbase : min (-1074 + (ex (rg x) : Nat) : Int) (-1074 + (ex (rg y) : Nat)) = base
 have h1:=signed_units (sg x) (rg x) base (by omega) (by omega)
 have h2:=signed_units (sg y) (rg y) base (by omega) (by omega)
 generalize signed (sg x) (mant (rg x)) (-1074 + (ex (rg x) : Nat) - base).toNat = a at *
 generalize signed (sg y) (mant (rg y)) (-1074 + (ex (rg y) : Nat) - base).toNat = b at *
 have e1 : vl x = a * 2 ^ (base + 1074).toNat:=by unfold vl; exact h1.symm
 have e2 : vl y = b * 2 ^ (base + 1074).toNat:=by unfold vl; exact h2.symm
 have hp:=pow_pos_int (base + 1074).toNat
 generalize (2 : Int) ^ (base + 1074).toNat = p at *
 rw [e1,e2,compare_int,compare_int]
 congr 1
 rcases Int.lt_trichotomy a b with h | h | h
 ·rw [if_pos h,if_pos (Int.mul_lt_mul_of_pos_right h hp)]
 ·subst h; simp
 ·have h3:=Int.mul_lt_mul_of_pos_right h hp
  rw [if_neg (by omega),if_neg (by omega),if_neg (by omega),if_neg (by omega)]
def rnd (s : Bool) (n : Nat) : Nat:=double.nearest s n (-1074)
theorem nearest_word (s : Bool) (mag : Nat) (place : Int) : ∃ r,double.nearest s mag place = wd s (min r I) /\ ∀ d n : Nat,0 <= place + 1074 + d -> n = mag * 2 ^ (place + 1074 + d).toNat -> Rnd n d r:=by
 obtain ⟨r,h1,h2⟩:=nearest_spec s mag place
 exact ⟨r,by rw [h1,word_eq],h2⟩
theorem nearest_congr (s : Bool) (m1 m2 : Nat) (p1 p2 : Int) (c1 c2 : Nat) (h : m1 * 2 ^ c1 = m2 * 2 ^ c2) (hp : p1 - c1 = p2 - c2) : double.nearest s m1 p1 = double.nearest s m2 p2:=by
 obtain ⟨r1,e1,f1⟩:=nearest_word s m1 p1
 obtain ⟨r2,e2,f2⟩:=nearest_word s m2 p2
 have a1:=f1 ((-(p1 + 1074)).toNat + (-(p2 + 1074)).toNat + c1 + c2) _ (by omega) rfl
 have a2:=f2 ((-(p1 + 1074)).toNat + (-(p2 + 1074)).toNat + c1 + c2) _ (by omega) rfl
 have : m1 * 2 ^ (p1 + 1074 + ((-(p1 + 1074)).toNat + (-(p2 + 1074)).toNat + c1 + c2 : Nat)).toNat = m2 * 2 ^ (p2 + 1074 + ((-(p1 + 1074)).toNat + (-(p2 + 1074)).toNat + c1 + c2 : Nat)).toNat:=by
  have q1 : (p1 + 1074 + ((-(p1 + 1074)).toNat + (-(p2 + 1074)).toNat + c1 + c2 : Nat)).toNat = c1 + (p1 - c1 + 1074 + ((-(p1 + 1074)).toNat + (-(p2 + 1074)).toNat + c1 + c2 : Nat)).toNat:=by omega
  have q2 : (p2 + 1074 + ((-(p1 + 1074)).toNat + (-(p2 + 1074)).toNat + c1 + c2 : Nat)).toNat = c2 + (p1 - c1 + 1074 + ((-(p1 + 1074)).toNat + (-(p2 + 1074)).toNat + c1 + c2 : Nat)).toNat:=by omega
  rw [q1,q2,Nat.pow_add,Nat.pow_add,<- Nat.mul_assoc,<- Nat.mul_assoc,h]
 rw [this] at a1
 rw [e1,e2,a1.eq a2]
theorem rnd_spec (s : Bool) (n : Nat) : ∃ r,rnd s n = wd s (min r I) /\ Rnd n 0 r:=by
 obtain ⟨r,h1,h2⟩:=nearest_word s n (-1074)
 exact ⟨r,h1,h2 0 n (by omega) (by simp)⟩
theorem rnd_exact (s : Bool) (r : Nat) (h : r <= I) : rnd s (rv r) = wd s r:=by
 obtain ⟨q,h1,h2⟩:=rnd_spec s (rv r)
 have:=Rnd.exact r 0
 rw [Nat.pow_zero,Nat.mul_one] at this
 rw [h1,<- this.eq h2,Nat.min_eq_left h]
theorem nearest_units (s : Bool) (mag : Nat) (place : Int) (h : -1074 <= place) : double.nearest s mag place = rnd s (mag * 2 ^ (place + 1074).toNat) :=
 nearest_congr s _ _ _ _ ((place + 1074).toNat) 0 (by simp) (by omega)
def sgn2 (s t : Bool) (n : Int) : Bool:=if n = 0 then s && t else decide (n < 0)
theorem add_fin (x y : Nat) (hx : rg x < I) (hy : rg y < I) : double.add x y = some (rnd (sgn2 (sg x) (sg y) (vl x + vl y)) (vl x + vl y).natAbs):=by
 unfold Format.add
 rw [read_fin x hx,read_fin y hy]
 unfold Datum.sum
 dsimp only
 generalize hbase : min (-1074 + (ex (rg x) : Nat) : Int) (-1074 + (ex (rg y) : Nat)) = base
 have h1:=signed_units (sg x) (rg x) base (by omega) (by omega)
 have h2:=signed_units (sg y) (rg y) base (by omega) (by omega)
 generalize signed (sg x) (mant (rg x)) (-1074 + (ex (rg x) : Nat) - base).toNat = a at *
 generalize signed (sg y) (mant (rg y)) (-1074 + (ex (rg y) : Nat) - base).toNat = b at *
 have e1 : vl x = a * 2 ^ (base + 1074).toNat:=by unfold vl; exact h1.symm
 have e2 : vl y = b * 2 ^ (base + 1074).toNat:=by unfold vl; exact h2.symm
 have e3 : vl x + vl y = (a + b) * 2 ^ (base + 1074).toNat:=by rw [e1,e2,Int.add_mul]
 have hp:=pow_pos_int (base + 1074).toNat
 have hs : (if a + b = 0 then (sg x && sg y) else decide (a + b < 0)) = sgn2 (sg x) (sg y) (vl x + vl y):=by
  unfold sgn2; rw [e3]
  generalize (2 : Int) ^ (base + 1074).toNat = p at *
  by_cases h0 : a + b = 0
  ·rw [h0]; simp
  ·have : (a + b) * p ≠ 0:=Int.mul_ne_zero h0 (by omega)
   rw [if_neg h0,if_neg this]
   congr 1
   apply propext
   constructor
   ·intro h; exact Int.mul_neg_of_neg_of_pos h hp
   ·intro h
    rcases Int.lt_trichotomy (a + b) 0 with h3 | h3 | h3
    ·exact h3
    ·omega
    ·have:=Int.mul_pos h3 hp; omega
 simp only [Option.map_some,Format.write]
 rw [hs,nearest_units _ _ _ (by omega),e3,Int.natAbs_mul]
 congr 3
theorem sub_any (x y : Nat) (hw : y < 2 * W) : double.sub x y = double.add x (ng y):=by
 unfold Format.sub Format.add
 rcases Nat.lt_trichotomy (rg y) I with h | h | h
 ·rw [read_fin y h,read_fin (ng y) (by rw [rg_ng y hw]; exact h),rg_ng y hw,sg_ng y hw]; rfl
 ·rw [read_inf y h,read_inf (ng y) (by rw [rg_ng y hw]; exact h),sg_ng y hw]; rfl
 ·rw [read_nan y h,read_nan (ng y) (by rw [rg_ng y hw]; exact h),rg_ng y hw,sg_ng y hw]; rfl
end Fl
end
section
namespace Fl
open Ieee
def key (w : Nat) : Int:=if sg w then -(rg w : Int) else (rg w : Int)
def V (k : Int) : Int:=if k < 0 then -(rv (-k).toNat : Int) else (rv k.toNat : Int)
theorem V_lt {a b : Int} (h : a < b) : V a < V b:=by
 unfold V
 by_cases ha : a < 0
 ·rw [if_pos ha]
  by_cases hb : b < 0
  ·rw [if_pos hb]
   have:=rv_mono (show (-b).toNat < (-a).toNat by omega)
   omega
  ·rw [if_neg hb]
   have:=rv_pos (show 0 < (-a).toNat by omega)
   omega
 ·rw [if_neg ha,if_neg (by omega)]
  have:=rv_mono (show a.toNat < b.toNat by omega)
  omega
theorem V_le {a b : Int} (h : a <= b) : V a <= V b:=by
 rcases Int.lt_or_eq_of_le h with h | h
 ·exact Int.le_of_lt (V_lt h)
 ·subst h; exact Int.le_refl _
theorem V_lt_iff {a b : Int} : V a < V b ↔ a < b :=
 ⟨fun h=>by rcases Int.lt_or_le a b with h1 | h1; exact h1; have:=V_le h1; omega,V_lt⟩
theorem V_le_iff {a b : Int} : V a <= V b ↔ a <= b :=
 ⟨fun h=>by rcases Int.lt_or_le b a with h1 | h1; have:=V_lt h1; omega; exact h1,V_le⟩
theorem V_zero : V 0 = 0:=by decide
theorem V_neg (k : Int) : V (-k) = -V k:=by
 unfold V
 rcases Int.lt_trichotomy k 0 with h | h | h
 ·rw [if_neg (by omega),if_pos h]; omega
 ·subst h; simp [rv_zero]
 ·rw [if_pos (by omega),if_neg (by omega)]; simp
theorem vl_key (w : Nat) : vl w = V (key w):=by
 unfold vl V key
 cases sg w
 ·simp only [Bool.false_eq_true,if_false]; rw [if_neg (by omega)]; simp
 ·simp only [if_true]
  by_cases h : rg w = 0
  ·rw [h]; simp [rv_zero]
  ·rw [if_pos (by omega)]; simp
theorem compare_V (a b : Int) : compare (V a) (V b) = compare a b:=by
 rw [compare_int,compare_int]
 rcases Int.lt_trichotomy a b with h | h | h
 ·rw [if_pos h,if_pos (V_lt h)]
 ·subst h; simp
 ·have:=V_lt h; rw [if_neg (by omega),if_neg (by omega),if_neg (by omega),if_neg (by omega)]
theorem order_key (x y : Nat) (hx : rg x <= I) (hy : rg y <= I) : double.order x y = some (compare (key x) (key y)):=by
 rcases Nat.lt_or_ge (rg x) I with h1 | h1
 ·rcases Nat.lt_or_ge (rg y) I with h2 | h2
  ·rw [order_fin x y h1 h2,vl_key,vl_key,compare_V]
  ·have e2 : rg y = I:=by omega
   unfold Format.order
   rw [read_fin x h1,read_inf y e2]
   unfold Datum.order key
   dsimp only
   rw [e2]
   have : 0 <= rg x:=Nat.zero_le _
   cases sg y
   ·simp only [Bool.false_eq_true,if_false]
    rw [compare_int,if_pos (by cases sg x <;> simp <;> omega)]
   ·simp only [if_true]
    rw [compare_int,if_neg (by cases sg x <;> simp <;> omega),if_neg (by cases sg x <;> simp <;> omega)]
 ·have e1 : rg x = I:=by omega
  rcases Nat.lt_or_ge (rg y) I with h2 | h2
  ·unfold Format.order
   rw [read_inf x e1,read_fin y h2]
   unfold Datum.order key
   dsimp only
   rw [e1]
   cases sg x
   ·simp only [Bool.false_eq_true,if_false]
    rw [compare_int,if_neg (by cases sg y <;> simp <;> omega),if_neg (by cases sg y <;> simp <;> omega)]
   ·simp only [if_true]
    rw [compare_int,if_pos (by cases sg y <;> simp <;> omega)]
  ·have e2 : rg y = I:=by omega
   unfold Format.order
   rw [read_inf x e1,read_inf y e2]
   unfold Datum.order key
   dsimp only
   rw [e1,e2]
   cases sg x <;> cases sg y <;> decide
theorem order_nan (x y : Nat) (h : I < rg x \/ I < rg y) : double.order x y = none:=by
 unfold Format.order
 rcases h with h | h
 ·rw [read_nan x h]; cases double.read y <;> rfl
 ·rw [read_nan y h]; cases double.read x <;> rfl
theorem order_lt (x y : Nat) (hx : rg x <= I) (hy : rg y <= I) (h : key x < key y) : double.order x y = some .lt:=by
 rw [order_key x y hx hy,compare_int,if_pos h]
theorem order_gt (x y : Nat) (hx : rg x <= I) (hy : rg y <= I) (h : key y < key x) : double.order x y = some .gt:=by
 rw [order_key x y hx hy,compare_int,if_neg (by omega),if_neg (by omega)]
theorem order_eq (x y : Nat) (hx : rg x <= I) (hy : rg y <= I) (h : key x = key y) : double.order x y = some .eq:=by
 rw [order_key x y hx hy,compare_int,if_neg (by omega),if_pos h]
theorem and_sign (x : Nat) : x &&& W = (x / W % 2) * W:=by
 rw [W_eq]
 apply Nat.eq_of_testBit_eq
 intro i
 rw [Nat.testBit_and,Nat.testBit_two_pow]
 have hb : x.testBit 63 = decide (x / 2 ^ 63 % 2 = 1):=Nat.testBit_eq_decide_div_mod_eq
 by_cases h : x / 2 ^ 63 % 2 = 1
 ·rw [h,Nat.one_mul,Nat.testBit_two_pow]
  by_cases hi : 63 = i
  ·subst hi; simp [hb,h]
  ·simp [hi]
 ·have h0 : x / 2 ^ 63 % 2 = 0:=by omega
  rw [h0,Nat.zero_mul,Nat.zero_testBit]
  by_cases hi : 63 = i
  ·subst hi; simp [hb,h0]
  ·simp [hi]
theorem andNot_sign (x : Nat) (h : x < 2 * W) : bits BinOp.andNot IntKind.u64 (x : Int) 9223372036854775808 = ((rg x : Nat) : Int):=by
 have e:=u64_andNot_nat x W (by unfold W at h; omega) (by decide)
 have e2 : ((W : Nat) : Int) = 9223372036854775808:=by decide
 rw [e2] at e
 rw [e,show 18446744073709551615 - W = 2 ^ 63 - 1 by decide,Nat.and_two_pow_sub_one_eq_mod]
 rfl
theorem and_sign_u64 (x : Nat) (h : x < 2 * W) : bits BinOp.and IntKind.u64 (x : Int) 9223372036854775808 = (((if sg x then W else 0) : Nat) : Int):=by
 have e:=u64_and_nat x W (by unfold W at h; omega) (by decide)
 have e2 : ((W : Nat) : Int) = 9223372036854775808:=by decide
 rw [e2] at e
 rw [e,and_sign]
 unfold sg
 by_cases h1 : x / W % 2 = 1
 ·simp [h1]
 ·have : x / W % 2 = 0:=by omega
  simp [this]
theorem or_sign_u64 (s : Bool) (r : Nat) (h : r < W) : bits BinOp.or IntKind.u64 (r : Int) (((if s then W else 0) : Nat) : Int) = ((wd s r : Nat) : Int):=by
 rw [u64_or_nat r _ (by unfold W at h; omega) (by cases s <;> decide)]
 congr 1
 cases s
 ·simp [wd]
 ·simp only [if_true,wd]
  rw [Nat.or_comm,nat_join 63 W r (by decide) (by rw [<- W_eq]; exact h)]
theorem neg_word (x : Nat) (h : x < 2 * W) : Op.negFloat .f64 x = ng x:=by
 unfold Op.negFloat
 rw [show FloatKind.f64.format.exponentBits + FloatKind.f64.format.fractionBits = 63 from rfl]
 apply Nat.eq_of_testBit_eq
 intro i
 rw [Nat.testBit_xor,Nat.testBit_two_pow]
 unfold ng sg
 have h2 : x < 2 ^ 64:=by unfold W at h; omega
 by_cases h1 : x / W % 2 = 1
 ·have hx : x = 2 ^ 63 + (x - W):=by unfold W at *; omega
  have hlt : x - W < 2 ^ 63:=by unfold W at *; omega
  simp only [h1,beq_self_eq_true,if_true]
  generalize x - W = y at *
  rw [hx]
  by_cases hi : i < 63
  ·rw [Nat.testBit_two_pow_add_gt hi]
   have : ¬ 63 = i:=by omega
   simp [this]
  ·by_cases hi2 : i = 63
   ·subst hi2
    rw [Nat.testBit_two_pow_add_eq,Nat.testBit_lt_two_pow hlt]; simp
   ·rw [Nat.testBit_lt_two_pow (show 2 ^ 63 + y < 2 ^ i by have : 2 ^ 64 <= 2 ^ i:=Nat.pow_le_pow_right (by omega) (by omega); omega)]
    rw [Nat.testBit_lt_two_pow (show y < 2 ^ i by have : 2 ^ 64 <= 2 ^ i:=Nat.pow_le_pow_right (by omega) (by omega); omega)]
    simp; omega
 ·have h0 : x / W % 2 = 0:=by omega
  have hlt : x < 2 ^ 63:=by unfold W at *; omega
  simp only [h0]
  rw [show (0 == 1) = false from rfl]
  simp only [Bool.false_eq_true,if_false]
  rw [Nat.add_comm,W_eq]
  by_cases hi : i < 63
  ·rw [Nat.testBit_two_pow_add_gt hi]
   have : ¬ 63 = i:=by omega
   simp [this]
  ·by_cases hi2 : i = 63
   ·subst hi2
    rw [Nat.testBit_two_pow_add_eq]; simp
   ·rw [Nat.testBit_lt_two_pow (show 2 ^ 63 + x < 2 ^ i by have : 2 ^ 64 <= 2 ^ i:=Nat.pow_le_pow_right (by omega) (by omega); omega)]
    rw [Nat.testBit_lt_two_pow (show x < 2 ^ i by have : 2 ^ 64 <= 2 ^ i:=Nat.pow_le_pow_right (by omega) (by omega); omega)]
    simp; omega
def Is (o : Option Nat) (s : Nat) : Prop:=match o with
 | some r=>s = r
 | none=>I < rg s /\ s < 2 * W
theorem nan_draw (t : Nat) : I < rg ((t % 2) * 2 ^ 63 + 0x7ff0000000000000 + 1 + (t / 2) % (2 ^ 52 - 1)) /\ (t % 2) * 2 ^ 63 + 0x7ff0000000000000 + 1 + (t / 2) % (2 ^ 52 - 1) < 2 * W:=by
 unfold rg I W
 generalize t / 2 = u
 have : t % 2 = 0 \/ t % 2 = 1:=by omega
 rcases this with h | h <;> rw [h] <;> omega
theorem add_lt {x y r : Nat} (h : double.add x y = some r) : r < 2 * W:=Format.add_lt double h
theorem mul_lt {x y r : Nat} (h : double.mul x y = some r) : r < 2 * W:=Format.mul_lt double h
theorem sub_self_fin (x : Nat) (hw : x < 2 * W) (h : rg x < I) : double.sub x x = some 0:=by
 rw [sub_any x x hw,add_fin x (ng x) h (by rw [rg_ng x hw]; exact h),vl_ng x hw,sg_ng x hw]
 have : vl x + -vl x = 0:=by omega
 rw [this]
 unfold sgn2
 cases sg x <;> decide
theorem sub_self_not (x : Nat) (h : ¬ rg x < I) : double.sub x x = none:=by
 unfold Format.sub
 rcases Nat.lt_or_ge I (rg x) with h1 | h1
 ·rw [read_nan x h1]; rfl
 ·rw [read_inf x (by omega)]
  unfold Datum.opposite Datum.sum
  cases sg x <;> rfl
end Fl
end
section
open Go.RowKit
theorem ret_fl {a b : Nat} (h : a = b) : Ending.returned (.float .f64 a) = .returned (.float .f64 b):=by rw [h]
theorem ret_bool {a b : Bool} (h : a = b) : Ending.returned (.bool a) = .returned (.bool b):=by rw [h]
theorem run_bits (b : Nat) (w : World) : (callFunc 173 #[.float .f64 b]).run Tryz.prog w = .ok (.value (.int .u64 (b : Int))) w:=by
 rw [run_callFunc_extern (e:=Extern.MathFloatBits.float64bits) Tryz.func173 (by kernel_rfl) (by kernel_rfl) (by kernel_rfl) (by kernel_rfl)]
 rfl
theorem run_from (n : Int) (w : World) : (callFunc 172 #[.int .u64 n]).run Tryz.prog w = .ok (.value (.float .f64 n.toNat)) w:=by
 rw [run_callFunc_extern (e:=Extern.MathFloatBits.float64frombits) Tryz.func172 (by kernel_rfl) (by kernel_rfl) (by kernel_rfl) (by kernel_rfl)]
 rfl
theorem abs_any (x : Nat) (w : World) (hx : x < 2 * Fl.W) : Calls Tryz.prog 133 #[.float .f64 x] w fun e w'=>e = .returned (.float .f64 (Fl.rg x)) /\ w = w':=by
 have hb:=run_bits
 have hf:=run_from
 go_enter Tryz.func133,Tryz.ntmps133
 go_wp2
 go_ret
 exact ⟨ret_fl (by rw [Fl.andNot_sign x hx]; rfl),rfl⟩
theorem signbit_any (x : Nat) (w : World) (hx : x < 2 * Fl.W) : Calls Tryz.prog 199 #[.float .f64 x] w fun e w'=>e = .returned (.bool (Fl.sg x)) /\ w = w':=by
 have hb:=run_bits
 go_enter Tryz.func199,Tryz.ntmps199
 go_wp2
 go_ret
 refine ⟨ret_bool ?_,rfl⟩
 unfold wrap64
 unfold Fl.sg Fl.W at *
 by_cases h : x / 9223372036854775808 % 2 = 1
 ·simp [h]; omega
 ·have : x / 9223372036854775808 % 2 = 0:=by omega
  simp [this]; omega
theorem copysign_any (x y : Nat) (w : World) (hx : x < 2 * Fl.W) (hy : y < 2 * Fl.W) : Calls Tryz.prog 176 #[.float .f64 x,.float .f64 y] w fun e w'=>e = .returned (.float .f64 (Fl.wd (Fl.sg y) (Fl.rg x))) /\ w = w':=by
 have hb:=run_bits
 have hf:=run_from
 go_enter Tryz.func176,Tryz.ntmps176
 go_wp2
 go_ret
 exact ⟨ret_fl (by rw [Fl.andNot_sign x hx,Fl.and_sign_u64 y hy,Fl.or_sign_u64 _ _ (Fl.rg_lt x)]; rfl),rfl⟩
theorem Fl.gt_most (x : Nat) : (FloatKind.f64.format.order x 9218868437227405311 == some .gt) = (decide (Fl.rg x = Fl.I) && !Fl.sg x):=by
 rcases Nat.lt_or_ge Fl.I (Fl.rg x) with h | h
 ·have e : FloatKind.f64.format.order x 9218868437227405311 = none:=Fl.order_nan _ _ (.inl h)
  rw [e,decide_eq_false (by omega)]; rfl
 ·have e : FloatKind.f64.format.order x 9218868437227405311 = some (compare (Fl.key x) (Fl.key 9218868437227405311)):=Fl.order_key _ _ h (by decide)
  have k : Fl.key 9218868437227405311 = 9218868437227405311:=by decide
  rw [e,k,Fl.compare_int]
  unfold Fl.key Fl.I at *
  cases Fl.sg x
  ·by_cases h1 : Fl.rg x = 9218868437227405312
   ·rw [h1]; decide
   ·simp only [Bool.false_eq_true,if_false]
    rw [decide_eq_false h1]
    by_cases h2 : (Fl.rg x : Int) < 9218868437227405311
    ·rw [if_pos h2]; rfl
    ·rw [if_neg h2,if_pos (by omega)]; rfl
  ·simp only [if_true]
   rw [if_pos (by omega)]; simp
theorem isinf_up (x : Nat) (w : World) : Calls Tryz.prog 167 #[.float .f64 x,.int .i64 1] w fun e w'=>e = .returned (.bool (decide (Fl.rg x = Fl.I) && !Fl.sg x)) /\ w = w':=by
 go_enter Tryz.func167,Tryz.ntmps167
 go_wp2
 go_ret
 exact ⟨ret_bool (Fl.gt_most x),rfl⟩
theorem isinf_down (x : Nat) (w : World) (hx : x < 2 * Fl.W) : Calls Tryz.prog 167 #[.float .f64 x,.int .i64 (-1)] w fun e w'=>e = .returned (.bool (decide (Fl.rg x = Fl.I) && Fl.sg x)) /\ w = w':=by
 have hn : ∀ w,(Op.unary .neg (.float .f64 x)).run Tryz.prog w = .ok (.float .f64 (Fl.ng x)) w:=fun w=>by
  rw [<- Fl.neg_word x hx]; rfl
 go_enter Tryz.func167,Tryz.ntmps167
 go_wp2
 go_ret
 exact ⟨ret_bool (by rw [Fl.gt_most,Fl.rg_ng x hx,Fl.sg_ng x hx,Bool.not_not]),rfl⟩
theorem isinf_any (x : Nat) (w : World) (hx : x < 2 * Fl.W) : Calls Tryz.prog 167 #[.float .f64 x,.int .i64 0] w fun e w'=>e = .returned (.bool (decide (Fl.rg x = Fl.I))) /\ w = w':=by
 go_enter Tryz.func167,Tryz.ntmps167
 go_wp2_with (go_at_call 133; refine (abs_any _ _ hx).mono ?_; rintro e w' ⟨rfl,rfl⟩)
 go_ret
 refine ⟨ret_bool ?_,rfl⟩
 have h1 : Fl.rg (Fl.rg x) = Fl.rg x:=Nat.mod_eq_of_lt (Fl.rg_lt x)
 have h2 : Fl.sg (Fl.rg x) = false:=by
  unfold Fl.sg; rw [Nat.div_eq_of_lt (Fl.rg_lt x)]; rfl
 rw [Fl.gt_most,h1,h2]; simp
end
end Go.Proofs.YtnpanpkahbcecaaGreatDoor
namespace Go.Proofs.YtnpanpkahbcecaaGreatDoor
open Go.RowKit
def U (w : World) (A : Option Addr) (n c : Nat) (l : List Int) : Prop :=
 l.length = n /\ n <= c /\ (A = none -> c = 0) /\ ∀ k x,l[k]? = some x -> ∃ ad,A = some ad /\ ad.block < w.heap.size /\ w.cell? (ad.add k) = some (.int .u64 x)
theorem add_block (a : Addr) (n : Nat) : (a.add n).block = a.block:=by unfold Addr.add; split <;> rfl
theorem U.below {w w' : World} {A : Option Addr} {n c : Nat} {l : List Int} (h : U w A n c l) (hb : Below w.heap.size w w') : U w' A n c l:=by
 obtain ⟨h1,h2,h3,h4⟩:=h
 refine ⟨h1,h2,h3,fun k x hk=>?_⟩
 obtain ⟨ad,e,hlt,hc⟩:=h4 k x hk
 exact ⟨ad,e,Nat.lt_of_lt_of_le hlt hb.size,(hb.cell (by rw [add_block]; exact hlt)).trans hc⟩
theorem U.news {w : World} {ad : Addr} {n c : Nat} {l : List Int} (h : U w (some ad) n c l) (m : Nat) (hm : m <= n) : ((l.take m).map (Value.int .u64)).length = m * 1 /\ (∀ j u,((l.take m).map (Value.int .u64))[j]? = some u -> w.cell? (ad.add j) = some u) /\ (∀ u ∈ (l.take m).map (Value.int .u64),u.oneCell' = true):=by
 obtain ⟨h1,h2,h3,h4⟩:=h
 refine ⟨by rw [List.length_map,List.length_take,Nat.min_eq_left (by omega)]; omega,fun j u hu=>?_,fun u hu=>?_⟩
 ·rw [List.getElem?_map] at hu
  obtain ⟨y,hy,rfl⟩:=Option.map_eq_some_iff.1 hu
  have hj : j < m:=by
   rcases Nat.lt_or_ge j m with h | h
   ·exact h
   ·rw [List.getElem?_take,if_neg (by omega)] at hy; cases hy
  rw [List.getElem?_take,if_pos hj] at hy
  obtain ⟨ad2,e2,_,hc2⟩:=h4 j y hy
  obtain rfl : ad = ad2:=Option.some.inj e2
  exact hc2
 ·obtain ⟨y,_,rfl⟩:=List.mem_map.1 hu
  rfl
theorem U.of_own {w : World} {base : Nat} {e : TypeId} {v : Value} {n : Nat} {l : List Int} (h : w.ownsRow base e 1 v n (l.map (Value.int .u64))) : ∃ A c,v = .slice A n c /\ U w A n c l:=by
 have hl : l.length = n:=by have:=h.1; simp at this; omega
 rcases Nat.eq_zero_or_pos n with hn | hn
 ·subst hn
  have hnil : l = []:=List.eq_nil_of_length_eq_zero hl
  subst hnil
  rcases h.2 with ⟨rfl,_⟩ | ⟨g,cap,cur,rfl,_⟩
  ·exact ⟨_,_,rfl,rfl,Nat.le_refl _,fun _=>rfl,fun k x hk=>by simp at hk⟩
  ·exact ⟨_,_,rfl,rfl,Nat.zero_le _,(fun he=>by cases he),fun k x hk=>by simp at hk⟩
 ·obtain ⟨g,cap,hv,hc,hlt⟩:=h.form hn
  refine ⟨_,_,hv,hl,?_,(fun he=>by cases he),fun k x hk=>⟨_,rfl,hlt,h.cells (g:=g) (by rw [hv]; rfl) k _ (by rw [List.getElem?_map,hk]; rfl)⟩⟩
  rcases h.2 with ⟨rfl,h0⟩ | ⟨g',cap',cur,rfl,_,_,hnc,_⟩
  ·omega
  ·injection hv with _ _ hc2; omega
theorem u64_info : (Tryz.prog.info? 105).map (fun i=>(i.zero,i.size,i.bytes)) = some (some (.int .u64 0),1,8):=by kernel_rfl
theorem trimmed (l : List Int) (k : Nat) (hd : Nt.Dig 18446744073709551616 l) (hz : ∀ x,x ∈ l.drop k -> x = 0) (ht : k = 0 \/ ∃ x,l[k - 1]? = some x /\ x ≠ 0) (hk : k <= l.length) :
  l.take k = Nt.dg 18446744073709551616 (Nt.val 18446744073709551616 l):=by
 rw [<- Nt.val_take 18446744073709551616 l k hz]
 refine Nt.dg_val 18446744073709551616 (by decide) _ (hd.take k) ?_
 rcases ht with rfl | ⟨x,hx,h0⟩
 ·exact .inl (List.take_zero)
 ·right
  rcases k with _ | k
  ·rw [List.take_zero]; simp
  ·have hx' : l[k]? = some x:=by simpa using hx
   rw [List.getLast?_eq_getElem?,List.length_take,Nat.min_eq_left hk]
   rw [List.getElem?_take,if_pos (by omega)]
   rw [show k + 1 - 1 = k by omega,hx']
   intro he; exact h0 (Option.some.inj he)
theorem drop_zero (l : List Int) (k : Nat) (h : l[k]? = some 0) (hz : ∀ x,x ∈ l.drop (k + 1) -> x = 0) : ∀ x,x ∈ l.drop k -> x = 0:=by
 intro x hx
 have hk : k < l.length:=(List.getElem?_eq_some_iff.1 h).1
 rw [List.drop_eq_getElem_cons hk] at hx
 rw [List.getElem?_eq_getElem hk] at h
 rcases List.mem_cons.1 hx with e | hx
 ·rw [e]; exact Option.some.inj h
 ·exact hz x hx
end Go.Proofs.YtnpanpkahbcecaaGreatDoor
namespace Go.Proofs.YtnpanpkahbcecaaGreatDoor
open Go.RowKit
theorem cell_new (w : World) (cs : Array Value) (t : TypeId) (i : Nat) : (w.alloc (.cells cs t)).cell? ((⟨w.heap.size,0,none⟩ : Addr).add i) = cs[i]?:=by
 have h : (w.alloc (.cells cs t)).heap[w.heap.size]? = some (.cells cs t (0,0)):=heap_alloc_new w _
 have e : (⟨w.heap.size,0,none⟩ : Addr).add i = ⟨w.heap.size,i,none⟩:=by unfold Addr.add; split <;> simp_all
 rw [e]
 exact cell_of_row _ _ _ _ _ _ h
theorem alloc_lt (w : World) (o : Obj) : w.heap.size < (w.alloc o).heap.size:=(Array.getElem?_eq_some_iff.1 (heap_alloc_new w o)).1
def bitsN (n : Nat) : Nat:=if n = 0 then 0 else n.log2 + 1
theorem bitsN_le (t : Nat) (h : t < 18446744073709551616) : bitsN t <= 64:=by
 unfold bitsN
 split
 ·exact Nat.zero_le _
 ·rename_i h0
  have:=(Nat.log2_lt h0).2 (show t < 2 ^ 64 by exact h)
  omega
theorem dg_top (B : Nat) (hB : 2 <= B) : ∀ N : Nat,N ≠ 0 -> ∃ t m : Nat,(Nt.dg B N).length = m + 1 /\ (Nt.dg B N)[m]? = some (t : Int) /\ 0 < t /\ t < B /\ t * B ^ m <= N /\ N < (t + 1) * B ^ m:=by
 intro N
 induction N using Nat.strongRecOn with
 | _ N ih =>
   intro h
   rw [Nt.dg_pos B N hB h]
   by_cases h0 : N / B = 0
   ·have hlt : N < B:=by
     rcases Nat.lt_or_ge N B with h1 | h1
     ·exact h1
     ·have:=Nat.div_pos h1 (by omega); omega
    refine ⟨N,0,?_,?_,by omega,hlt,by simp,by simp⟩
    ·rw [h0,Nt.dg_zero]; rfl
    ·rw [Nat.mod_eq_of_lt hlt]; rfl
   ·obtain ⟨t,m,h1,h2,h3,h4,h5,h6⟩:=ih (N / B) (Nat.div_lt_self (by omega) (by omega)) h0
    refine ⟨t,m + 1,by rw [List.length_cons,h1],by rw [List.getElem?_cons_succ]; exact h2,h3,h4,?_,?_⟩
    ·rw [Nat.pow_succ,<- Nat.mul_assoc]
     exact (Nat.le_div_iff_mul_le (by omega)).1 h5
    ·rw [Nat.pow_succ,<- Nat.mul_assoc]
     exact (Nat.div_lt_iff_lt_mul (by omega)).1 h6
theorem bits_top (N t m : Nat) (h3 : 0 < t) (h5 : t * 18446744073709551616 ^ m <= N) (h6 : N < (t + 1) * 18446744073709551616 ^ m) : bitsN N = 64 * m + bitsN t:=by
 have e : (18446744073709551616 : Nat) ^ m = 2 ^ (64 * m):=by rw [Nat.pow_mul]
 rw [e] at h5 h6
 have hN : N ≠ 0:=by
  have:=Nat.mul_pos h3 (Nat.two_pow_pos (64 * m)); omega
 unfold bitsN
 rw [if_neg hN,if_neg (by omega)]
 have l1:=Nat.log2_self_le (show t ≠ 0 by omega)
 have l2:=@Nat.lt_log2_self t
 have : N.log2 = 64 * m + t.log2:=by
  rw [Nat.log2_eq_iff hN]
  constructor
  ·rw [Nat.pow_add,Nat.mul_comm]
   exact Nat.le_trans (Nat.mul_le_mul_right _ l1) h5
  ·rw [Nat.add_assoc,Nat.pow_add,Nat.mul_comm]
   exact Nat.lt_of_lt_of_le h6 (Nat.mul_le_mul_right _ l2)
 omega
end Go.Proofs.YtnpanpkahbcecaaGreatDoor
namespace Go.Proofs.YtnpanpkahbcecaaGreatDoor
open Go.RowKit
namespace Nt
theorem val_split (B : Nat) (l : List Int) (i : Nat) (x : Int) (h : l[i]? = some x) : val B l = val B (l.take i) + B ^ i * (x.toNat + B * val B (l.drop (i + 1))):=by
 have hi : i < l.length:=(List.getElem?_eq_some_iff.1 h).1
 have hx : l[i] = x:=(List.getElem?_eq_some_iff.1 h).2
 conv=>lhs; rw [<- List.take_append_drop i l]
 rw [val_append,List.drop_eq_getElem_cons hi,hx,List.length_take,Nat.min_eq_left (Nat.le_of_lt hi)]
 rfl
theorem val_lt_of (B : Nat) (hB : 2 <= B) (a b : List Int) (ha : Dig B a) (hb : Dig B b) (i : Nat) (x y : Int) (h1 : a[i]? = some x) (h2 : b[i]? = some y) (hd : a.drop (i + 1) = b.drop (i + 1)) (hxy : x < y) : val B a < val B b:=by
 rw [val_split B a i x h1,val_split B b i y h2,hd]
 have hl : val B (a.take i) < B ^ i:=by
  have:=val_lt B hB (a.take i) (ha.take i)
  have hi : i < a.length:=(List.getElem?_eq_some_iff.1 h1).1
  rwa [List.length_take,Nat.min_eq_left (Nat.le_of_lt hi)] at this
 have hx : 0 <= x:=(ha x (List.mem_of_getElem? h1)).1
 have hle : x.toNat + 1 <= y.toNat:=by omega
 generalize B * val B (b.drop (i + 1)) = q
 have h3 : B ^ i * (x.toNat + 1 + q) <= B ^ i * (y.toNat + q):=Nat.mul_le_mul_left _ (by omega)
 have h4 : B ^ i * (x.toNat + 1 + q) = B ^ i * (x.toNat + q) + B ^ i:=by rw [show x.toNat + 1 + q = (x.toNat + q) + 1 by omega,Nat.mul_add,Nat.mul_one]
 omega
theorem dg_lt_len (B : Nat) (hB : 2 <= B) (N : Nat) : N < B ^ (dg B N).length:=by
 have:=val_lt B hB (dg B N) (dig_dg B hB N)
 rwa [val_dg B hB N] at this
theorem len_lt (B : Nat) (hB : 2 <= B) (N M : Nat) (h : (dg B N).length < (dg B M).length) : N < M:=by
 have h1:=dg_lt_len B hB N
 have hM : M ≠ 0:=by intro h0; subst h0; rw [dg_zero] at h; simp at h
 obtain ⟨t,m,t1,t2,t3,t4,t5,t6⟩:=dg_top B hB M hM
 have h2 : B ^ (dg B N).length <= B ^ m:=Nat.pow_le_pow_right (by omega) (by omega)
 have h3 : B ^ m <= t * B ^ m:=Nat.le_mul_of_pos_left _ t3
 omega
end Nt
end Go.Proofs.YtnpanpkahbcecaaGreatDoor
namespace Go.Proofs.YtnpanpkahbcecaaGreatDoor
open Go.RowKit
namespace Nt
def hv : List Int -> List Int
 | []=>[]
 | x :: l=>x % 4294967296 :: x / 4294967296 :: hv l
end Nt
end Go.Proofs.YtnpanpkahbcecaaGreatDoor
namespace Go.Proofs.YtnpanpkahbcecaaGreatDoor
end Go.Proofs.YtnpanpkahbcecaaGreatDoor
namespace Go.Proofs.YtnpanpkahbcecaaGreatDoor
open Go.RowKit
end Go.Proofs.YtnpanpkahbcecaaGreatDoor
namespace Go.Proofs.YtnpanpkahbcecaaGreatDoor
open Go.RowKit
namespace Nt
end Nt
end Go.Proofs.YtnpanpkahbcecaaGreatDoor
namespace Go.Proofs.YtnpanpkahbcecaaGreatDoor
end Go.Proofs.YtnpanpkahbcecaaGreatDoor
namespace Go.Proofs.YtnpanpkahbcecaaGreatDoor
open Go.RowKit
namespace Nt
theorem val_take_succ (B : Nat) (l : List Int) (i : Nat) (hd : Dig B l) : val B (l.take (i + 1)) = val B (l.take i) + B ^ i * (l[i]?.getD 0).toNat:=by
 by_cases hi : i < l.length
 ·rw [List.take_succ_eq_append_getElem hi,val_append,List.length_take,Nat.min_eq_left (Nat.le_of_lt hi),List.getElem?_eq_getElem hi]
  simp [val]
 ·rw [List.getElem?_eq_none (by omega),List.take_of_length_le (by omega),List.take_of_length_le (by omega)]; simp
theorem val_snoc (B : Nat) (o : List Int) (x : Int) : val B (o ++ [x]) = val B o + B ^ o.length * x.toNat:=by
 rw [val_append]; simp [val]
end Nt
end Go.Proofs.YtnpanpkahbcecaaGreatDoor
namespace Go.Proofs.YtnpanpkahbcecaaGreatDoor
open Go.RowKit
namespace Nt
end Nt
end Go.Proofs.YtnpanpkahbcecaaGreatDoor
namespace Go.Proofs.YtnpanpkahbcecaaGreatDoor
end Go.Proofs.YtnpanpkahbcecaaGreatDoor
namespace Go.Proofs.YtnpanpkahbcecaaGreatDoor
open Go.RowKit
namespace Nt
theorem val_set (B : Nat) : ∀ (l : List Int) (j : Nat) (v u : Int),l[j]? = some u -> val B (l.set j v) + B ^ j * u.toNat = val B l + B ^ j * v.toNat
 | [],_,_,_,h=>by simp at h
 | x :: l,0,v,u,h=>by
   simp at h; subst h
   simp [val]; omega
 | x :: l,j + 1,v,u,h=>by
   have ih:=val_set B l j v u (by simpa using h)
   simp only [List.set_cons_succ,val,Nat.pow_succ]
   have e : B * (val B (l.set j v) + B ^ j * u.toNat) = B * (val B l + B ^ j * v.toNat):=by rw [ih]
   rw [Nat.mul_add,Nat.mul_add] at e
   rw [Nat.mul_comm (B ^ j) B,Nat.mul_assoc,Nat.mul_assoc]
   omega
theorem Dig.set {B : Nat} {l : List Int} (h : Dig B l) (j : Nat) (v : Int) (h0 : 0 <= v) (h1 : v < (B : Int)) : Dig B (l.set j v):=by
 intro x hx
 rcases List.mem_or_eq_of_mem_set hx with hx | rfl
 ·exact h x hx
 ·exact ⟨h0,h1⟩
end Nt
def Row (w : World) (base g n : Nat) (o : List Int) : Prop:=w.ownsRow base 105 1 (.slice (some ⟨g,0,none⟩) n n) n (o.map (Value.int .u64))
theorem Row.made {w : World} {base n m : Nat} (h : w.ownsRow base 105 1 (.slice (some ⟨m,0,none⟩) n n) n (madeCells (Value.int .u64 0).cells (n * 1)).toList) : Row w base m n (List.replicate n 0):=by
 have e : (madeCells (Value.int .u64 0).cells (n * 1)).toList = (List.replicate n (0 : Int)).map (Value.int .u64):=by
  rw [show (Value.int .u64 0).cells = #[Value.int .u64 0] from rfl,toList_madeCells_one,Nat.mul_one,List.map_replicate]
 rw [e] at h; exact h
namespace Nt
end Nt
end Go.Proofs.YtnpanpkahbcecaaGreatDoor
namespace Go.Proofs.YtnpanpkahbcecaaGreatDoor
open Go.RowKit
namespace Nt
end Nt
end Go.Proofs.YtnpanpkahbcecaaGreatDoor
namespace Go.Proofs.YtnpanpkahbcecaaGreatDoor
end Go.Proofs.YtnpanpkahbcecaaGreatDoor

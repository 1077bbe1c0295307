/-
Walks: product, NatMul.
  Walk: NatUp.
-/
import Derived.Test.YtfpopdneokekiaaGreatDoorT1
import Ieee.Arith
import Derived.Laws.FloatBits
import Derived.Laws.BitsAllLaws
import Derived.Laws.Cover2
import Derived.Laws.FloatArith
import Derived.Test.YtfpopdneokekiaaGreatDoorProg
import Derived.WalkKit
import Derived.WalkLawsBesides
import Derived.WalkSpells
import Derived.KernelRfl
import Derived.Laws.Externs
import Derived.Outline
import Derived.Lib.Hide
import Derived.OwnWalk
import Derived.LoopTactic
import Derived.Below
import Derived.Laws.OwnMore
import Derived.Laws.AppendOwnNone
import Derived.Deep.AppendLies
import Derived.RegionTactic
import Derived.ChangeAlike
import Derived.Deep.RegionLaw
import Derived.Deep.QuietTactic
import Derived.BigQuiet
import Derived.IntWalk
set_option linter.unusedVariables false
set_option linter.unusedSimpArgs false
namespace Go.Proofs.YtfpopdneokekiaaGreatDoor
section
namespace Fl
open Ieee
def I : Nat:=9218868437227405312
def B : Nat:=4503599627370496
def W : Nat:=9223372036854775808
theorem B_eq : B = 2 ^ 52:=by decide
theorem W_eq : W = 2 ^ 63:=by decide
theorem dB : double.binade = B:=by decide
theorem dI : double.infRung = I:=by decide
theorem dW : double.signWeight = W:=by decide
theorem dL : double.leastPlace = -1074:=by decide
theorem dF : double.fractionBits = 52:=by decide
def ex (r : Nat) : Nat:=r / B - 1
def mant (r : Nat) : Nat:=r - ex r * B
def rv (r : Nat) : Nat:=mant r * 2 ^ ex r
theorem mant_lt (r : Nat) : mant r < 2 * B:=by
 unfold mant ex B; omega
theorem ex_mant (r : Nat) : r = ex r * B + mant r:=by
 unfold mant ex B; omega
theorem mant_ge (r : Nat) : ex r = 0 \/ B <= mant r:=by
 unfold mant ex B; omega
theorem ex_of (e m : Nat) (hm : m < 2 * B) (h : e = 0 \/ B <= m) : ex (e * B + m) = e:=by
 unfold ex B at *; omega
theorem mant_of (e m : Nat) (hm : m < 2 * B) (h : e = 0 \/ B <= m) : mant (e * B + m) = m:=by
 unfold mant; rw [ex_of e m hm h]; omega
theorem rv_of (e m : Nat) (hm : m <= 2 * B) (h : e = 0 \/ B <= m) : rv (e * B + m) = m * 2 ^ e:=by
 rcases Nat.lt_or_ge m (2 * B) with h1 | h1
 ·unfold rv; rw [ex_of e m h1 h,mant_of e m h1 h]
 ·have h2 : m = 2 * B:=by omega
  subst h2
  have e1 : e * B + 2 * B = (e + 1) * B + B:=by grind
  have hB : B < 2 * B:=by unfold B; omega
  rw [e1]; unfold rv; rw [ex_of (e + 1) B hB (Or.inr (Nat.le_refl _)),mant_of (e + 1) B hB (Or.inr (Nat.le_refl _))]
  rw [Nat.pow_succ,Nat.mul_comm (2 ^ e) 2,<- Nat.mul_assoc,Nat.mul_comm B 2]
theorem rv_succ (r : Nat) : rv (r + 1) = rv r + 2 ^ ex r:=by
 have h:=rv_of (ex r) (mant r + 1) (by have:=mant_lt r; omega) (by rcases mant_ge r with h | h; exact .inl h; exact .inr (by omega))
 rw [<- Nat.add_assoc,<- ex_mant r] at h
 rw [h,Nat.succ_mul]; rfl
theorem rv_lt_succ (r : Nat) : rv r < rv (r + 1):=by
 have:=rv_succ r; have : 0 < 2 ^ ex r:=Nat.two_pow_pos _; omega
theorem rv_mono {a b : Nat} (h : a < b) : rv a < rv b:=by
 induction b with
 | zero=>omega
 | succ n ih =>
   have:=rv_lt_succ n
   rcases Nat.lt_or_ge a n with h1 | h1
   ·have:=ih h1; omega
   ·have : a = n:=by omega
    subst this; omega
theorem rv_le {a b : Nat} (h : a <= b) : rv a <= rv b:=by
 rcases Nat.lt_or_ge a b with h1 | h1
 ·exact Nat.le_of_lt (rv_mono h1)
 ·have : a = b:=by omega
  subst this; exact Nat.le_refl _
theorem rv_lt_iff {a b : Nat} : rv a < rv b ↔ a < b :=
 ⟨fun h=>by rcases Nat.lt_or_ge a b with h1 | h1; exact h1; have:=rv_le h1; omega,rv_mono⟩
theorem rv_le_iff {a b : Nat} : rv a <= rv b ↔ a <= b :=
 ⟨fun h=>by rcases Nat.lt_or_ge b a with h1 | h1; have:=rv_mono h1; omega; exact h1,rv_le⟩
theorem rv_inj {a b : Nat} (h : rv a = rv b) : a = b:=by
 have h1:=rv_le_iff.1 (Nat.le_of_eq h); have h2:=rv_le_iff.1 (Nat.le_of_eq h.symm); omega
theorem rv_zero : rv 0 = 0:=by decide
theorem rv_pos {r : Nat} (h : 0 < r) : 0 < rv r:=by have:=rv_mono h; rw [rv_zero] at this; exact this
theorem rep (m j : Nat) (h : m <= 2 * B) : ∃ r,rv r = m * 2 ^ j:=by
 induction j generalizing m with
 | zero=>exact ⟨m,by have:=rv_of 0 m h (.inl rfl); simpa using this⟩
 | succ j ih =>
   rcases Nat.lt_or_ge m B with h1 | h1
   ·obtain ⟨r,hr⟩:=ih (2 * m) (by omega)
    exact ⟨r,by rw [hr,Nat.pow_succ,Nat.mul_comm 2 m,Nat.mul_assoc,Nat.mul_comm 2]⟩
   ·exact ⟨(j + 1) * B + m,rv_of (j + 1) m h (.inr h1)⟩
structure Rnd (n d r : Nat) : Prop where
 hi : 2 * n <= (rv r + rv (r + 1)) * 2 ^ d
 hie : 2 * n = (rv r + rv (r + 1)) * 2 ^ d -> r % 2 = 0
 lo : 0 < r -> (rv (r - 1) + rv r) * 2 ^ d <= 2 * n
 loe : 0 < r -> (rv (r - 1) + rv r) * 2 ^ d = 2 * n -> r % 2 = 0
theorem Rnd.mono {n d r m k q : Nat} (h1 : Rnd n d r) (h2 : Rnd m k q) (h : n * 2 ^ k <= m * 2 ^ d) : r <= q:=by
 rcases Nat.lt_or_ge q r with hq | hq
 ·exfalso
  have a1:=h1.lo (by omega)
  have a2:=h2.hi
  have hle : rv q + rv (q + 1) <= rv (r - 1) + rv r:=Nat.add_le_add (rv_le (by omega)) (rv_le (by omega))
  have b1 : (rv (r - 1) + rv r) * 2 ^ d * 2 ^ k <= 2 * n * 2 ^ k:=Nat.mul_le_mul_right _ a1
  have b2 : 2 * m * 2 ^ d <= (rv q + rv (q + 1)) * 2 ^ k * 2 ^ d:=Nat.mul_le_mul_right _ a2
  have b3 : 2 * n * 2 ^ k <= 2 * m * 2 ^ d:=by rw [Nat.mul_assoc,Nat.mul_assoc]; exact Nat.mul_le_mul_left 2 h
  have b4 : (rv (r - 1) + rv r) * (2 ^ d * 2 ^ k) <= (rv q + rv (q + 1)) * (2 ^ d * 2 ^ k):=by
   rw [<- Nat.mul_assoc]; refine Nat.le_trans (Nat.le_trans b1 (Nat.le_trans b3 b2)) ?_
   rw [Nat.mul_assoc,Nat.mul_comm (2 ^ k)]; exact Nat.le_refl _
  have hp : 0 < 2 ^ d * 2 ^ k:=Nat.mul_pos (Nat.two_pow_pos _) (Nat.two_pow_pos _)
  have b5:=Nat.le_of_mul_le_mul_right b4 hp
  have heq : rv q + rv (q + 1) = rv (r - 1) + rv r:=by omega
  have hqr : q = r - 1:=by
   have c1 : rv q <= rv (r - 1):=rv_le (by omega)
   have c2 : rv (q + 1) <= rv r:=rv_le (by omega)
   exact rv_inj (by omega)
  -- all are one
  have d1 : 2 * n * 2 ^ k = (rv (r - 1) + rv r) * 2 ^ d * 2 ^ k:=by
   apply Nat.le_antisymm _ b1
   refine Nat.le_trans b3 (Nat.le_trans b2 ?_)
   rw [heq,Nat.mul_assoc,Nat.mul_assoc,Nat.mul_comm (2 ^ k)]; exact Nat.le_refl _
  have d2 : 2 * n = (rv (r - 1) + rv r) * 2 ^ d:=Nat.eq_of_mul_eq_mul_right (Nat.two_pow_pos k) d1
  have d3 : 2 * m * 2 ^ d = (rv q + rv (q + 1)) * 2 ^ k * 2 ^ d:=by
   apply Nat.le_antisymm b2
   rw [heq,Nat.mul_assoc,Nat.mul_comm (2 ^ k),<- Nat.mul_assoc]
   exact Nat.le_trans b1 b3
  have d4 : 2 * m = (rv q + rv (q + 1)) * 2 ^ k:=Nat.eq_of_mul_eq_mul_right (Nat.two_pow_pos d) d3
  have e1:=h1.loe (by omega) d2.symm
  have e2:=h2.hie d4
  omega
 ·exact hq
theorem Rnd.eq {n d r q : Nat} (h1 : Rnd n d r) (h2 : Rnd n d q) : r = q :=
 Nat.le_antisymm (h1.mono h2 (Nat.le_refl _)) (h2.mono h1 (Nat.le_refl _))
theorem Rnd.exact (r d : Nat) : Rnd (rv r * 2 ^ d) d r:=by
 have h0:=rv_lt_succ r
 have hp : 0 < 2 ^ d:=Nat.two_pow_pos _
 refine ⟨?_,?_,?_,?_⟩
 ·rw [<- Nat.mul_assoc]; exact Nat.mul_le_mul_right _ (by omega)
 ·intro h; rw [<- Nat.mul_assoc] at h; have:=Nat.eq_of_mul_eq_mul_right hp h; omega
 ·intro h; have:=rv_mono (show r - 1 < r by omega)
  rw [<- Nat.mul_assoc]; exact Nat.mul_le_mul_right _ (by omega)
 ·intro h h2; have:=rv_mono (show r - 1 < r by omega)
  rw [<- Nat.mul_assoc] at h2; have:=Nat.eq_of_mul_eq_mul_right hp h2; omega
structure Cut (n b k : Nat) : Prop where
 hi : 2 * n <= (2 * k + 1) * 2 ^ b
 hie : 2 * n = (2 * k + 1) * 2 ^ b -> k % 2 = 0
 lo : 2 * k * 2 ^ b <= 2 * n + 2 ^ b
 loe : 2 * k * 2 ^ b = 2 * n + 2 ^ b -> k % 2 = 0
theorem cut_aux (low rest gap : Nat) (hr : rest < gap) :
  let k:=low + (gap < 2 * rest || (gap == 2 * rest && low % 2 == 1)).toNat
  2 * (low * gap + rest) <= (2 * k + 1) * gap /\ (2 * (low * gap + rest) = (2 * k + 1) * gap -> k % 2 = 0) /\ 2 * k * gap <= 2 * (low * gap + rest) + gap /\ (2 * k * gap = 2 * (low * gap + rest) + gap -> k % 2 = 0):=by
 intro k
 rcases Nat.lt_trichotomy gap (2 * rest) with h | h | h
 ·have hk : k = low + 1:=by simp [k,h]
  rw [hk]
  have e1 : (2 * (low + 1) + 1) * gap = 2 * (low * gap) + 3 * gap:=by grind
  have e2 : 2 * (low + 1) * gap = 2 * (low * gap) + 2 * gap:=by grind
  rw [e1,e2]; omega
 ·by_cases hl : low % 2 = 1
  ·have hk : k = low + 1:=by
    simp [k,h,hl]
   rw [hk]
   have e1 : (2 * (low + 1) + 1) * gap = 2 * (low * gap) + 3 * gap:=by grind
   have e2 : 2 * (low + 1) * gap = 2 * (low * gap) + 2 * gap:=by grind
   rw [e1,e2]; omega
  ·have hk : k = low:=by
    have : ¬ gap < 2 * rest:=by omega
    simp [k,this,hl]
   rw [hk]
   have e1 : (2 * low + 1) * gap = 2 * (low * gap) + gap:=by grind
   have e2 : 2 * low * gap = 2 * (low * gap):=by rw [Nat.mul_assoc]
   rw [e1,e2]; omega
 ·have hk : k = low:=by
   have h1 : ¬ gap < 2 * rest:=by omega
   have h2 : ¬ gap = 2 * rest:=by omega
   simp [k,h1,h2]
  rw [hk]
  have e1 : (2 * low + 1) * gap = 2 * (low * gap) + gap:=by grind
  have e2 : 2 * low * gap = 2 * (low * gap):=by rw [Nat.mul_assoc]
  rw [e1,e2]; omega
theorem cut_even (neg : Bool) (n b : Nat) : Cut n b (Toward.even.cut neg n b):=by
 unfold Toward.cut
 simp only [Nat.one_shiftLeft]
 rcases Nat.lt_or_ge (n.log2 + 2) b with hb | hb
 ·-- all is dropped
  have hmin : min b (n.log2 + 2) = n.log2 + 2:=by omega
  rw [hmin]
  have hn : n < 2 ^ (n.log2 + 1):=Nat.lt_log2_self
  have h4 : 2 ^ (n.log2 + 2) = 2 * 2 ^ (n.log2 + 1):=by rw [Nat.pow_succ 2 (n.log2 + 1)]; omega
  have hd : n / 2 ^ (n.log2 + 2) = 0:=Nat.div_eq_of_lt (by omega)
  have hm : n % 2 ^ (n.log2 + 2) = n:=Nat.mod_eq_of_lt (by omega)
  rw [hd,hm]
  have h1 : ¬ 2 ^ (n.log2 + 2) < 2 * n:=by omega
  have h2 : ¬ 2 ^ (n.log2 + 2) = 2 * n:=by omega
  simp only [h1,decide_false,Bool.false_or,beq_eq_false_iff_ne.2 h2,Bool.false_and,Bool.toNat_false,Nat.add_zero]
  have hle : 2 ^ (n.log2 + 2) <= 2 ^ b:=Nat.pow_le_pow_right (by omega) (by omega)
  exact ⟨by omega,by omega,by omega,by omega⟩
 ·have hmin : min b (n.log2 + 2) = b:=by omega
  rw [hmin]
  have hp : 0 < 2 ^ b:=Nat.two_pow_pos _
  have h:=cut_aux (n / 2 ^ b) (n % 2 ^ b) (2 ^ b) (Nat.mod_lt _ hp)
  have hdm : n / 2 ^ b * 2 ^ b + n % 2 ^ b = n:=by rw [Nat.mul_comm]; exact Nat.div_add_mod n (2 ^ b)
  simp only [hdm] at h
  exact ⟨h.1,h.2.1,h.2.2.1,h.2.2.2⟩
theorem mul_le_cancel {a b c : Nat} (hc : 0 < c) (h : a * c <= b * c) : a <= b:=Nat.le_of_mul_le_mul_right h hc
theorem alg1 (s L D P : Nat) : s * L * D * P = s * P * (L * D):=by grind
theorem alg2 (n N P L D : Nat) (h : n * P = N * L * D) : 2 * n * P = 2 * N * (L * D):=by grind
theorem alg3 (k L : Nat) : (2 * k + 1) * L = k * L + (k + 1) * L:=by grind
theorem alg4 (k L D P : Nat) : (k * L + (k + 1) * L) * D * P = (2 * k + 1) * P * (L * D):=by grind
theorem alg5 (q P : Nat) : q * P + P = (q + 1) * P:=by grind
theorem alg6 (x k L D P : Nat) (h : x + L = k * L) : (x + k * L) * D * P + P * (L * D) = 2 * k * P * (L * D):=by
 have : (x + k * L) * D * P + P * (L * D) = (x + L + k * L) * (D * P):=by grind
 rw [this,h]; grind
theorem alg7 (L : Nat) : 2 * B * L = B * L + B * L:=by generalize B = b; grind
theorem rv_around (k l : Nat) (hk : k <= 2 * B) (hlB : l = 0 \/ B <= k) : rv (l * B + k) = k * 2 ^ l /\ (k + 1) * 2 ^ l <= rv (l * B + k + 1) /\ (k < 2 * B -> rv (l * B + k + 1) = (k + 1) * 2 ^ l) /\ (0 < l * B + k -> rv (l * B + k - 1) + 2 ^ l = k * 2 ^ l \/ (0 < l /\ k = B /\ rv (l * B + k - 1) < k * 2 ^ l)):=by
 have pl : 0 < 2 ^ l:=Nat.two_pow_pos _
 have hr:=rv_of l k hk hlB
 refine ⟨hr,?_,?_,?_⟩
 ·rcases Nat.lt_or_ge k (2 * B) with h1 | h1
  ·have:=rv_of l (k + 1) (by omega) (by rcases hlB with h | h; exact .inl h; exact .inr (by omega))
   rw [<- Nat.add_assoc] at this
   omega
  ·have e1 : k = 2 * B:=by omega
   have hs:=rv_succ (l * B + k)
   have e2 : l * B + k = (l + 1) * B + B:=by rw [e1]; generalize B = b; grind
   have hex : ex (l * B + k) = l + 1:=by rw [e2]; exact ex_of (l + 1) B (by unfold B; omega) (.inr (Nat.le_refl _))
   rw [hs,hr,hex,Nat.pow_succ,Nat.succ_mul]; omega
 ·intro h1
  have:=rv_of l (k + 1) (by omega) (by rcases hlB with h | h; exact .inl h; exact .inr (by omega))
  rw [<- Nat.add_assoc] at this
  exact this
 ·intro hpos
  rcases Nat.lt_or_ge 0 l with h0 | h0
  ·rcases Nat.lt_or_ge B k with h1 | h1
   ·left
    have:=rv_of l (k - 1) (by omega) (.inr (by omega))
    have e : l * B + k - 1 = l * B + (k - 1):=by omega
    rw [e,this,alg5]
    have : k - 1 + 1 = k:=by omega
    rw [this]
   ·right
    have hkB : k = B:=by rcases hlB with h | h; omega; omega
    refine ⟨h0,hkB,?_⟩
    rw [<- hr]; exact rv_mono (by omega)
  ·left
   have hl0 : l = 0:=by omega
   subst hl0
   have:=rv_of 0 (k - 1) (by omega) (.inl rfl)
   simp only [Nat.zero_mul,Nat.zero_add,Nat.pow_zero,Nat.mul_one] at *
   omega
theorem rnd_of_cut (N b k l n d : Nat) (hc : Cut N b k) (hk : k <= 2 * B) (hlB : l = 0 \/ B <= k) (hN : l = 0 \/ B * 2 ^ b <= N) (h : n * 2 ^ b = N * 2 ^ l * 2 ^ d) : Rnd n d (l * B + k):=by
 have par : (l * B + k) % 2 = k % 2:=by
  have : l * B = 2 * (l * 2251799813685248):=by unfold B; omega
  omega
 obtain ⟨hr,hup,hup2,hdn⟩:=rv_around k l hk hlB
 obtain ⟨c1,c2,c3,c4⟩:=hc
 have key2:=alg2 n N (2 ^ b) (2 ^ l) (2 ^ d) h
 have pb : 0 < 2 ^ b:=Nat.two_pow_pos _
 have pd : 0 < 2 ^ d:=Nat.two_pow_pos _
 have pld : 0 < 2 ^ l * 2 ^ d:=Nat.mul_pos (Nat.two_pow_pos _) pd
 have hl0 : 0 < l -> B * 2 ^ b <= N:=fun h0=>by rcases hN with h | h; omega; exact h
 clear hlB hN h
 have Bev : (2 * B) % 2 = 0:=by omega
 refine ⟨?_,?_,?_,?_⟩
 all_goals
  generalize 2 ^ b = P at *
  generalize 2 ^ l = L at *
  generalize 2 ^ d = D at *
 ·apply mul_le_cancel pb
  rw [key2,hr]
  refine Nat.le_trans (Nat.mul_le_mul_right _ c1) ?_
  rw [<- alg1]
  refine Nat.mul_le_mul_right _ (Nat.mul_le_mul_right _ ?_)
  rw [alg3]; omega
 ·intro e
  rw [par]
  rcases Nat.lt_or_ge k (2 * B) with h1 | h1
  ·apply c2
   have e2 : 2 * n * P = (k * L + (k + 1) * L) * D * P:=by rw [e,hr,hup2 h1]
   rw [key2,alg4] at e2
   exact Nat.eq_of_mul_eq_mul_right pld e2
  ·have : k = 2 * B:=by omega
   rw [this]; exact Bev
 ·intro hpos
  apply mul_le_cancel pb
  rw [key2]
  rcases hdn hpos with h1 | ⟨h1,h2,h3⟩
  ·have hk0 : 1 <= k:=by
    rcases Nat.eq_zero_or_pos k with h | h
    ·subst h; rw [Nat.zero_mul] at h1
     have : L = 0:=by omega
     subst this; rw [Nat.zero_mul] at pld; omega
    ·exact h
   obtain ⟨q,hq⟩ : ∃ q,2 * k = q + 1:=⟨2 * k - 1,by omega⟩
   have h2 : q * P <= 2 * N:=by
    rw [hq,<- alg5] at c3; omega
   refine Nat.le_trans ?_ (Nat.mul_le_mul_right _ h2)
   rw [<- alg1,hr]
   refine Nat.mul_le_mul_right _ (Nat.mul_le_mul_right _ ?_)
   have e : q * L + L = 2 * (k * L):=by rw [alg5,<- hq,Nat.mul_assoc]
   omega
  ·have e : rv (l * B + k - 1) + rv (l * B + k) <= 2 * B * L:=by
    rw [alg7,hr]; rw [h2] at h3 ⊢; omega
   refine Nat.le_trans (Nat.mul_le_mul_right _ (Nat.mul_le_mul_right _ e)) ?_
   rw [alg1]
   exact Nat.mul_le_mul_right _ (by rw [Nat.mul_assoc]; exact Nat.mul_le_mul_left 2 (hl0 h1))
 ·intro hpos e
  rw [par]
  rcases hdn hpos with h1 | ⟨h1,h2,h3⟩
  ·apply c4
   have e2 : (rv (l * B + k - 1) + k * L) * D * P = 2 * N * (L * D):=by rw [<- key2,<- e,hr]
   have e3:=alg6 (rv (l * B + k - 1)) k L D P h1
   rw [e2,<- Nat.add_mul] at e3
   exact (Nat.eq_of_mul_eq_mul_right pld e3).symm
  ·exfalso
   have e2 : (rv (l * B + k - 1) + k * L) * D * P = 2 * N * (L * D):=by rw [<- key2,<- e,hr]
   have e4 : rv (l * B + k - 1) + k * L < 2 * B * L:=by
    rw [alg7]; rw [h2] at h3 ⊢; omega
   have e5 : (rv (l * B + k - 1) + k * L) * D * P < 2 * B * L * D * P :=
    Nat.mul_lt_mul_of_pos_right (Nat.mul_lt_mul_of_pos_right e4 pd) pb
   rw [alg1 (2 * B),e2] at e5
   have : 2 * N * (L * D) ≥ 2 * B * P * (L * D):=Nat.mul_le_mul_right _ (by rw [Nat.mul_assoc]; exact Nat.mul_le_mul_left 2 (hl0 h1))
   omega
theorem cut_zero {n k : Nat} (h : Cut n 0 k) : k = n:=by
 have:=h.hi; have:=h.lo; omega
theorem nearest_spec (neg : Bool) (mag : Nat) (place : Int) : ∃ r,double.nearest neg mag place = double.word neg (min r I) /\ ∀ d n : Nat,0 <= place + 1074 + d -> n = mag * 2 ^ (place + 1074 + d).toNat -> Rnd n d r:=by
 unfold Format.nearest
 rw [dL,dF,dB,dI]
 by_cases hm : mag = 0
 ·refine ⟨0,by simp [hm],?_⟩
  intro d n _ hn
  subst hm
  rw [Nat.zero_mul] at hn; subst hn
  have:=Rnd.exact 0 d
  rw [rv_zero,Nat.zero_mul] at this; exact this
 ·rw [if_neg hm]
  dsimp only
  have hlo : 2 ^ mag.log2 <= mag:=Nat.log2_self_le hm
  have hhi : mag < 2 ^ (mag.log2 + 1):=Nat.lt_log2_self
  generalize mag.log2 = L at *
  generalize hlast : max (place + (L : Int) - ((52 : Nat) : Int)) (-1074) = last
  generalize ha : (place - last).toNat = a
  generalize hb : (last - place).toNat = b
  rw [Nat.shiftLeft_eq]
  have hcut:=cut_even neg (mag * 2 ^ a) b
  generalize Toward.even.cut neg (mag * 2 ^ a) b = k at *
  generalize hl : (last - -1074).toNat = l
  have hk : k <= 2 * B /\ (l = 0 \/ B <= k) /\ (l = 0 \/ B * 2 ^ b <= mag * 2 ^ a):=by
   rw [B_eq]
   rcases Nat.eq_zero_or_pos b with hb0 | hb0
   ·subst hb0
    have:=cut_zero hcut
    subst this
    have hLa : L + a <= 52:=by omega
    have h1 : mag * 2 ^ a < 2 ^ (L + 1) * 2 ^ a:=Nat.mul_lt_mul_of_pos_right hhi (Nat.two_pow_pos _)
    have h2 : 2 ^ (L + 1) * 2 ^ a <= 2 * 2 ^ 52:=by
     rw [<- Nat.pow_add,<- Nat.pow_succ']; exact Nat.pow_le_pow_right (by omega) (by omega)
    have h3 : l = 0 \/ 2 ^ 52 <= mag * 2 ^ a:=by
     rcases Nat.eq_zero_or_pos l with h | h
     ·exact .inl h
     ·right
      have : L + a = 52:=by omega
      calc 2 ^ 52 = 2 ^ L * 2 ^ a:=by rw [<- Nat.pow_add,this]
       _ <= mag * 2 ^ a:=Nat.mul_le_mul_right _ hlo
    exact ⟨by omega,h3,by simpa using h3⟩
   ·have ha0 : a = 0:=by omega
    subst ha0
    rw [Nat.pow_zero,Nat.mul_one] at hcut ⊢
    have hLb : L <= 52 + b:=by omega
    have h1 : mag < 2 * 2 ^ 52 * 2 ^ b:=by
     refine Nat.lt_of_lt_of_le hhi ?_
     rw [<- Nat.pow_succ',<- Nat.pow_add]; exact Nat.pow_le_pow_right (by omega) (by omega)
    have pb : 0 < 2 ^ b:=Nat.two_pow_pos _
    have h2 : k <= 2 * 2 ^ 52:=by
     have h:=hcut.lo
     have : 2 * k * 2 ^ b < (2 * (2 * 2 ^ 52) + 1) * 2 ^ b:=by
      have : (2 * (2 * 2 ^ 52) + 1) * 2 ^ b = 2 * (2 * 2 ^ 52 * 2 ^ b) + 2 ^ b:=by grind
      omega
     have:=Nat.lt_of_mul_lt_mul_right this
     omega
    have h3 : l = 0 \/ 2 ^ 52 * 2 ^ b <= mag:=by
     rcases Nat.eq_zero_or_pos l with h | h
     ·exact .inl h
     ·right
      have : L = 52 + b:=by omega
      rw [<- Nat.pow_add,<- this]; exact hlo
    refine ⟨h2,?_,h3⟩
    rcases h3 with h | h
    ·exact .inl h
    ·right
     have h4:=hcut.hi
     have : 2 * 2 ^ 52 * 2 ^ b <= (2 * k + 1) * 2 ^ b:=by
      have : 2 * 2 ^ 52 * 2 ^ b = 2 * (2 ^ 52 * 2 ^ b):=by grind
      omega
     have:=mul_le_cancel pb this
     omega
  refine ⟨l * B + k,rfl,?_⟩
  intro d n hd hn
  refine rnd_of_cut (mag * 2 ^ a) b k l n d hcut hk.1 hk.2.1 hk.2.2 ?_
  rw [hn,Nat.mul_assoc,Nat.mul_assoc,Nat.mul_assoc,<- Nat.pow_add,<- Nat.pow_add,<- Nat.pow_add]
  have : (place + 1074 + (d : Int)).toNat + b = a + (l + d):=by omega
  rw [this]
end Fl
end
section
namespace Fl
open Ieee
def sg (w : Nat) : Bool:=w / W % 2 == 1
def rg (w : Nat) : Nat:=w % W
def fin (w : Nat) : Bool:=decide (rg w < I)
def wd (s : Bool) (r : Nat) : Nat:=if s then W + r else r
def vl (w : Nat) : Int:=if sg w then -(rv (rg w) : Int) else (rv (rg w) : Int)
def ng (w : Nat) : Nat:=if sg w then w - W else w + W
theorem word_eq (s : Bool) (r : Nat) : double.word s r = wd s r:=by
 unfold Format.word wd; rw [dW]
theorem wd_lt (s : Bool) (r : Nat) (h : r < W) : wd s r < 2 * W:=by unfold wd; split <;> omega
theorem rg_lt (w : Nat) : rg w < W:=Nat.mod_lt _ (by decide)
theorem sg_wd (s : Bool) (r : Nat) (h : r < W) : sg (wd s r) = s:=by
 unfold sg wd W at *
 cases s
 ·simp; omega
 ·simp; omega
theorem rg_wd (s : Bool) (r : Nat) (h : r < W) : rg (wd s r) = r:=by
 unfold rg wd W at *
 cases s
 ·simp; omega
 ·simp; omega
theorem wd_sg_rg (w : Nat) (h : w < 2 * W) : wd (sg w) (rg w) = w:=by
 unfold wd sg rg W at *
 by_cases h1 : w < 9223372036854775808
 ·have h2 : w / 9223372036854775808 = 0:=Nat.div_eq_of_lt h1
  simp [h2]; omega
 ·have h2 : w / 9223372036854775808 = 1:=by omega
  simp [h2]; omega
theorem ng_wd (s : Bool) (r : Nat) (h : r < W) : ng (wd s r) = wd (!s) r:=by
 unfold ng; rw [sg_wd s r h]; cases s <;> simp [wd] <;> omega
theorem ng_lt (w : Nat) (h : w < 2 * W) : ng w < 2 * W:=by
 rw [<- wd_sg_rg w h,ng_wd _ _ (rg_lt w)]; exact wd_lt _ _ (rg_lt w)
theorem sg_ng (w : Nat) (h : w < 2 * W) : sg (ng w) = !sg w:=by
 conv=>lhs; rw [<- wd_sg_rg w h]
 rw [ng_wd _ _ (rg_lt w),sg_wd _ _ (rg_lt w)]
theorem rg_ng (w : Nat) (h : w < 2 * W) : rg (ng w) = rg w:=by
 conv=>lhs; rw [<- wd_sg_rg w h]
 rw [ng_wd _ _ (rg_lt w),rg_wd _ _ (rg_lt w)]
theorem vl_ng (w : Nat) (h : w < 2 * W) : vl (ng w) = -vl w:=by
 unfold vl; rw [rg_ng w h,sg_ng w h]; cases sg w <;> simp
theorem vl_wd (s : Bool) (r : Nat) (h : r < W) : vl (wd s r) = if s then -(rv r : Int) else (rv r : Int):=by
 unfold vl; rw [sg_wd s r h,rg_wd s r h]
theorem I_lt_W : I < W:=by decide
theorem read_fin (w : Nat) (h : rg w < I) : double.read w = .number (sg w) (mant (rg w)) (-1074 + (ex (rg w) : Nat)):=by
 unfold Format.read
 rw [dW,dB,dI,dL]
 dsimp only
 rw [show w % W = rg w from rfl,show (w / W % 2 == 1) = sg w from rfl]
 by_cases h1 : rg w < B
 ·rw [if_pos h1]
  have e1 : ex (rg w) = 0:=by unfold ex; rw [Nat.div_eq_of_lt h1]
  have e2 : mant (rg w) = rg w:=by unfold mant; rw [e1]; omega
  rw [e1,e2]; rfl
 ·rw [if_neg h1,if_pos h]
  have e2 : B + rg w % B = mant (rg w):=by
   unfold mant ex; generalize rg w = r at *; clear h; unfold B at *; omega
  rw [e2]; rfl
theorem read_inf (w : Nat) (h : rg w = I) : double.read w = .infinity (sg w):=by
 unfold Format.read
 rw [dW,dB,dI,dL]
 dsimp only
 rw [show w % W = rg w from rfl,show (w / W % 2 == 1) = sg w from rfl,h,if_neg (by decide),if_neg (by decide),if_pos rfl]
theorem read_nan (w : Nat) (h : I < rg w) : double.read w = .nan (sg w) (rg w - I):=by
 unfold Format.read
 rw [dW,dB,dI,dL]
 dsimp only
 have hBI : B < I:=by decide
 rw [show w % W = rg w from rfl,show (w / W % 2 == 1) = sg w from rfl,if_neg (by omega),if_neg (by omega),if_neg (by omega)]
theorem signed_units (s : Bool) (r : Nat) (base : Int) (h : base <= -1074 + (ex r : Nat)) (hb : -1074 <= base) :
  signed s (mant r) (-1074 + (ex r : Nat) - base).toNat * 2 ^ (base + 1074).toNat = if s then -(rv r : Int) else (rv r : Int):=by
 have key : mant r * 2 ^ (-1074 + (ex r : Nat) - base).toNat * 2 ^ (base + 1074).toNat = rv r:=by
  unfold rv; rw [Nat.mul_assoc,<- Nat.pow_add]; congr 2; omega
 unfold signed
 rw [Nat.shiftLeft_eq]
 cases s
 ·simp only [Bool.false_eq_true,if_false]
  rw [<- key]; simp
 ·simp only [if_true]
  rw [<- key]; simp [Int.neg_mul]
theorem pow_pos_int (k : Nat) : (0 : Int) < 2 ^ k:=by
 have:=Nat.two_pow_pos k
 have e : ((2 ^ k : Nat) : Int) = (2 : Int) ^ k:=by simp
 omega
theorem compare_int (a b : Int) : compare a b = if a < b then .lt else if a = b then .eq else .gt:=rfl
theorem order_fin (x y : Nat) (hx : rg x < I) (hy : rg y < I) : double.order x y = some (compare (vl x) (vl y)):=by
 unfold Format.order
 rw [read_fin x hx,read_fin y hy]
 unfold Datum.order
 dsimp only
 generalize hbase : min (-1074 + (ex (rg x) : Nat) : Int) (-1074 + (ex (rg y) : Nat)) = base
 have h1:=signed_units (sg x) (rg x) base (by omega) (by omega)
 have h2:=signed_units (sg y) (rg y) base (by omega) (by omega)
 generalize signed (sg x) (mant (rg x)) (-1074 + (ex (rg x) : Nat) - base).toNat = a at *
 generalize signed (sg y) (mant (rg y)) (-1074 + (ex (rg y) : Nat) - base).toNat = b at *
 have e1 : vl x = a * 2 ^ (base + 1074).toNat:=by unfold vl; exact h1.symm
 have e2 : vl y = b * 2 ^ (base + 1074).toNat:=by unfold vl; exact h2.symm
 have hp:=pow_pos_int (base + 1074).toNat
 generalize (2 : Int) ^ (base + 1074).toNat = p at *
 rw [e1,e2,compare_int,compare_int]
 congr 1
 rcases Int.lt_trichotomy a b with h | h | h
 ·rw [if_pos h,if_pos (Int.mul_lt_mul_of_pos_right h hp)]
 ·subst h; simp
 ·have h3:=Int.mul_lt_mul_of_pos_right h hp
  rw [if_neg (by omega),if_neg (by omega),if_neg (by omega),if_neg (by omega)]
def rnd (s : Bool) (n : Nat) : Nat:=double.nearest s n (-1074)
theorem nearest_word (s : Bool) (mag : Nat) (place : Int) : ∃ r,double.nearest s mag place = wd s (min r I) /\ ∀ d n : Nat,0 <= place + 1074 + d -> n = mag * 2 ^ (place + 1074 + d).toNat -> Rnd n d r:=by
 obtain ⟨r,h1,h2⟩:=nearest_spec s mag place
 exact ⟨r,by rw [h1,word_eq],h2⟩
theorem nearest_congr (s : Bool) (m1 m2 : Nat) (p1 p2 : Int) (c1 c2 : Nat) (h : m1 * 2 ^ c1 = m2 * 2 ^ c2) (hp : p1 - c1 = p2 - c2) : double.nearest s m1 p1 = double.nearest s m2 p2:=by
 obtain ⟨r1,e1,f1⟩:=nearest_word s m1 p1
 obtain ⟨r2,e2,f2⟩:=nearest_word s m2 p2
 have a1:=f1 ((-(p1 + 1074)).toNat + (-(p2 + 1074)).toNat + c1 + c2) _ (by omega) rfl
 have a2:=f2 ((-(p1 + 1074)).toNat + (-(p2 + 1074)).toNat + c1 + c2) _ (by omega) rfl
 have : m1 * 2 ^ (p1 + 1074 + ((-(p1 + 1074)).toNat + (-(p2 + 1074)).toNat + c1 + c2 : Nat)).toNat = m2 * 2 ^ (p2 + 1074 + ((-(p1 + 1074)).toNat + (-(p2 + 1074)).toNat + c1 + c2 : Nat)).toNat:=by
  have q1 : (p1 + 1074 + ((-(p1 + 1074)).toNat + (-(p2 + 1074)).toNat + c1 + c2 : Nat)).toNat = c1 + (p1 - c1 + 1074 + ((-(p1 + 1074)).toNat + (-(p2 + 1074)).toNat + c1 + c2 : Nat)).toNat:=by omega
  have q2 : (p2 + 1074 + ((-(p1 + 1074)).toNat + (-(p2 + 1074)).toNat + c1 + c2 : Nat)).toNat = c2 + (p1 - c1 + 1074 + ((-(p1 + 1074)).toNat + (-(p2 + 1074)).toNat + c1 + c2 : Nat)).toNat:=by omega
  rw [q1,q2,Nat.pow_add,Nat.pow_add,<- Nat.mul_assoc,<- Nat.mul_assoc,h]
 rw [this] at a1
 rw [e1,e2,a1.eq a2]
theorem rnd_spec (s : Bool) (n : Nat) : ∃ r,rnd s n = wd s (min r I) /\ Rnd n 0 r:=by
 obtain ⟨r,h1,h2⟩:=nearest_word s n (-1074)
 exact ⟨r,h1,h2 0 n (by omega) (by simp)⟩
theorem rnd_exact (s : Bool) (r : Nat) (h : r <= I) : rnd s (rv r) = wd s r:=by
 obtain ⟨q,h1,h2⟩:=rnd_spec s (rv r)
 have:=Rnd.exact r 0
 rw [Nat.pow_zero,Nat.mul_one] at this
 rw [h1,<- this.eq h2,Nat.min_eq_left h]
theorem nearest_units (s : Bool) (mag : Nat) (place : Int) (h : -1074 <= place) : double.nearest s mag place = rnd s (mag * 2 ^ (place + 1074).toNat) :=
 nearest_congr s _ _ _ _ ((place + 1074).toNat) 0 (by simp) (by omega)
def sgn2 (s t : Bool) (n : Int) : Bool:=if n = 0 then s && t else decide (n < 0)
theorem add_fin (x y : Nat) (hx : rg x < I) (hy : rg y < I) : double.add x y = some (rnd (sgn2 (sg x) (sg y) (vl x + vl y)) (vl x + vl y).natAbs):=by
 unfold Format.add
 rw [read_fin x hx,read_fin y hy]
 unfold Datum.sum
 dsimp only
 generalize hbase : min (-1074 + (ex (rg x) : Nat) : Int) (-1074 + (ex (rg y) : Nat)) = base
 have h1:=signed_units (sg x) (rg x) base (by omega) (by omega)
 have h2:=signed_units (sg y) (rg y) base (by omega) (by omega)
 generalize signed (sg x) (mant (rg x)) (-1074 + (ex (rg x) : Nat) - base).toNat = a at *
 generalize signed (sg y) (mant (rg y)) (-1074 + (ex (rg y) : Nat) - base).toNat = b at *
 have e1 : vl x = a * 2 ^ (base + 1074).toNat:=by unfold vl; exact h1.symm
 have e2 : vl y = b * 2 ^ (base + 1074).toNat:=by unfold vl; exact h2.symm
 have e3 : vl x + vl y = (a + b) * 2 ^ (base + 1074).toNat:=by rw [e1,e2,Int.add_mul]
 have hp:=pow_pos_int (base + 1074).toNat
 have hs : (if a + b = 0 then (sg x && sg y) else decide (a + b < 0)) = sgn2 (sg x) (sg y) (vl x + vl y):=by
  unfold sgn2; rw [e3]
  generalize (2 : Int) ^ (base + 1074).toNat = p at *
  by_cases h0 : a + b = 0
  ·rw [h0]; simp
  ·have : (a + b) * p ≠ 0:=Int.mul_ne_zero h0 (by omega)
   rw [if_neg h0,if_neg this]
   congr 1
   apply propext
   constructor
   ·intro h; exact Int.mul_neg_of_neg_of_pos h hp
   ·intro h
    rcases Int.lt_trichotomy (a + b) 0 with h3 | h3 | h3
    ·exact h3
    ·omega
    ·have:=Int.mul_pos h3 hp; omega
 simp only [Option.map_some,Format.write]
 rw [hs,nearest_units _ _ _ (by omega),e3,Int.natAbs_mul]
 congr 3
theorem sub_any (x y : Nat) (hw : y < 2 * W) : double.sub x y = double.add x (ng y):=by
 unfold Format.sub Format.add
 rcases Nat.lt_trichotomy (rg y) I with h | h | h
 ·rw [read_fin y h,read_fin (ng y) (by rw [rg_ng y hw]; exact h),rg_ng y hw,sg_ng y hw]; rfl
 ·rw [read_inf y h,read_inf (ng y) (by rw [rg_ng y hw]; exact h),sg_ng y hw]; rfl
 ·rw [read_nan y h,read_nan (ng y) (by rw [rg_ng y hw]; exact h),rg_ng y hw,sg_ng y hw]; rfl
end Fl
end
section
namespace Fl
open Ieee
def key (w : Nat) : Int:=if sg w then -(rg w : Int) else (rg w : Int)
def V (k : Int) : Int:=if k < 0 then -(rv (-k).toNat : Int) else (rv k.toNat : Int)
theorem V_lt {a b : Int} (h : a < b) : V a < V b:=by
 unfold V
 by_cases ha : a < 0
 ·rw [if_pos ha]
  by_cases hb : b < 0
  ·rw [if_pos hb]
   have:=rv_mono (show (-b).toNat < (-a).toNat by omega)
   omega
  ·rw [if_neg hb]
   have:=rv_pos (show 0 < (-a).toNat by omega)
   omega
 ·rw [if_neg ha,if_neg (by omega)]
  have:=rv_mono (show a.toNat < b.toNat by omega)
  omega
theorem V_le {a b : Int} (h : a <= b) : V a <= V b:=by
 rcases Int.lt_or_eq_of_le h with h | h
 ·exact Int.le_of_lt (V_lt h)
 ·subst h; exact Int.le_refl _
theorem V_lt_iff {a b : Int} : V a < V b ↔ a < b :=
 ⟨fun h=>by rcases Int.lt_or_le a b with h1 | h1; exact h1; have:=V_le h1; omega,V_lt⟩
theorem V_le_iff {a b : Int} : V a <= V b ↔ a <= b :=
 ⟨fun h=>by rcases Int.lt_or_le b a with h1 | h1; have:=V_lt h1; omega; exact h1,V_le⟩
theorem V_zero : V 0 = 0:=by decide
theorem V_neg (k : Int) : V (-k) = -V k:=by
 unfold V
 rcases Int.lt_trichotomy k 0 with h | h | h
 ·rw [if_neg (by omega),if_pos h]; omega
 ·subst h; simp [rv_zero]
 ·rw [if_pos (by omega),if_neg (by omega)]; simp
theorem vl_key (w : Nat) : vl w = V (key w):=by
 unfold vl V key
 cases sg w
 ·simp only [Bool.false_eq_true,if_false]; rw [if_neg (by omega)]; simp
 ·simp only [if_true]
  by_cases h : rg w = 0
  ·rw [h]; simp [rv_zero]
  ·rw [if_pos (by omega)]; simp
theorem compare_V (a b : Int) : compare (V a) (V b) = compare a b:=by
 rw [compare_int,compare_int]
 rcases Int.lt_trichotomy a b with h | h | h
 ·rw [if_pos h,if_pos (V_lt h)]
 ·subst h; simp
 ·have:=V_lt h; rw [if_neg (by omega),if_neg (by omega),if_neg (by omega),if_neg (by omega)]
theorem order_key (x y : Nat) (hx : rg x <= I) (hy : rg y <= I) : double.order x y = some (compare (key x) (key y)):=by
 rcases Nat.lt_or_ge (rg x) I with h1 | h1
 ·rcases Nat.lt_or_ge (rg y) I with h2 | h2
  ·rw [order_fin x y h1 h2,vl_key,vl_key,compare_V]
  ·have e2 : rg y = I:=by omega
   unfold Format.order
   rw [read_fin x h1,read_inf y e2]
   unfold Datum.order key
   dsimp only
   rw [e2]
   have : 0 <= rg x:=Nat.zero_le _
   cases sg y
   ·simp only [Bool.false_eq_true,if_false]
    rw [compare_int,if_pos (by cases sg x <;> simp <;> omega)]
   ·simp only [if_true]
    rw [compare_int,if_neg (by cases sg x <;> simp <;> omega),if_neg (by cases sg x <;> simp <;> omega)]
 ·have e1 : rg x = I:=by omega
  rcases Nat.lt_or_ge (rg y) I with h2 | h2
  ·unfold Format.order
   rw [read_inf x e1,read_fin y h2]
   unfold Datum.order key
   dsimp only
   rw [e1]
   cases sg x
   ·simp only [Bool.false_eq_true,if_false]
    rw [compare_int,if_neg (by cases sg y <;> simp <;> omega),if_neg (by cases sg y <;> simp <;> omega)]
   ·simp only [if_true]
    rw [compare_int,if_pos (by cases sg y <;> simp <;> omega)]
  ·have e2 : rg y = I:=by omega
   unfold Format.order
   rw [read_inf x e1,read_inf y e2]
   unfold Datum.order key
   dsimp only
   rw [e1,e2]
   cases sg x <;> cases sg y <;> decide
theorem order_nan (x y : Nat) (h : I < rg x \/ I < rg y) : double.order x y = none:=by
 unfold Format.order
 rcases h with h | h
 ·rw [read_nan x h]; cases double.read y <;> rfl
 ·rw [read_nan y h]; cases double.read x <;> rfl
theorem order_lt (x y : Nat) (hx : rg x <= I) (hy : rg y <= I) (h : key x < key y) : double.order x y = some .lt:=by
 rw [order_key x y hx hy,compare_int,if_pos h]
theorem order_gt (x y : Nat) (hx : rg x <= I) (hy : rg y <= I) (h : key y < key x) : double.order x y = some .gt:=by
 rw [order_key x y hx hy,compare_int,if_neg (by omega),if_neg (by omega)]
theorem order_eq (x y : Nat) (hx : rg x <= I) (hy : rg y <= I) (h : key x = key y) : double.order x y = some .eq:=by
 rw [order_key x y hx hy,compare_int,if_neg (by omega),if_pos h]
theorem and_sign (x : Nat) : x &&& W = (x / W % 2) * W:=by
 rw [W_eq]
 apply Nat.eq_of_testBit_eq
 intro i
 rw [Nat.testBit_and,Nat.testBit_two_pow]
 have hb : x.testBit 63 = decide (x / 2 ^ 63 % 2 = 1):=Nat.testBit_eq_decide_div_mod_eq
 by_cases h : x / 2 ^ 63 % 2 = 1
 ·rw [h,Nat.one_mul,Nat.testBit_two_pow]
  by_cases hi : 63 = i
  ·subst hi; simp [hb,h]
  ·simp [hi]
 ·have h0 : x / 2 ^ 63 % 2 = 0:=by omega
  rw [h0,Nat.zero_mul,Nat.zero_testBit]
  by_cases hi : 63 = i
  ·subst hi; simp [hb,h0]
  ·simp [hi]
theorem andNot_sign (x : Nat) (h : x < 2 * W) : bits BinOp.andNot IntKind.u64 (x : Int) 9223372036854775808 = ((rg x : Nat) : Int):=by
 have e:=u64_andNot_nat x W (by unfold W at h; omega) (by decide)
 have e2 : ((W : Nat) : Int) = 9223372036854775808:=by decide
 rw [e2] at e
 rw [e,show 18446744073709551615 - W = 2 ^ 63 - 1 by decide,Nat.and_two_pow_sub_one_eq_mod]
 rfl
theorem and_sign_u64 (x : Nat) (h : x < 2 * W) : bits BinOp.and IntKind.u64 (x : Int) 9223372036854775808 = (((if sg x then W else 0) : Nat) : Int):=by
 have e:=u64_and_nat x W (by unfold W at h; omega) (by decide)
 have e2 : ((W : Nat) : Int) = 9223372036854775808:=by decide
 rw [e2] at e
 rw [e,and_sign]
 unfold sg
 by_cases h1 : x / W % 2 = 1
 ·simp [h1]
 ·have : x / W % 2 = 0:=by omega
  simp [this]
theorem or_sign_u64 (s : Bool) (r : Nat) (h : r < W) : bits BinOp.or IntKind.u64 (r : Int) (((if s then W else 0) : Nat) : Int) = ((wd s r : Nat) : Int):=by
 rw [u64_or_nat r _ (by unfold W at h; omega) (by cases s <;> decide)]
 congr 1
 cases s
 ·simp [wd]
 ·simp only [if_true,wd]
  rw [Nat.or_comm,nat_join 63 W r (by decide) (by rw [<- W_eq]; exact h)]
theorem neg_word (x : Nat) (h : x < 2 * W) : Op.negFloat .f64 x = ng x:=by
 unfold Op.negFloat
 rw [show FloatKind.f64.format.exponentBits + FloatKind.f64.format.fractionBits = 63 from rfl]
 apply Nat.eq_of_testBit_eq
 intro i
 rw [Nat.testBit_xor,Nat.testBit_two_pow]
 unfold ng sg
 have h2 : x < 2 ^ 64:=by unfold W at h; omega
 by_cases h1 : x / W % 2 = 1
 ·have hx : x = 2 ^ 63 + (x - W):=by unfold W at *; omega
  have hlt : x - W < 2 ^ 63:=by unfold W at *; omega
  simp only [h1,beq_self_eq_true,if_true]
  generalize x - W = y at *
  rw [hx]
  by_cases hi : i < 63
  ·rw [Nat.testBit_two_pow_add_gt hi]
   have : ¬ 63 = i:=by omega
   simp [this]
  ·by_cases hi2 : i = 63
   ·subst hi2
    rw [Nat.testBit_two_pow_add_eq,Nat.testBit_lt_two_pow hlt]; simp
   ·rw [Nat.testBit_lt_two_pow (show 2 ^ 63 + y < 2 ^ i by have : 2 ^ 64 <= 2 ^ i:=Nat.pow_le_pow_right (by omega) (by omega); omega)]
    rw [Nat.testBit_lt_two_pow (show y < 2 ^ i by have : 2 ^ 64 <= 2 ^ i:=Nat.pow_le_pow_right (by omega) (by omega); omega)]
    simp; omega
 ·have h0 : x / W % 2 = 0:=by omega
  have hlt : x < 2 ^ 63:=by unfold W at *; omega
  simp only [h0]
  rw [show (0 == 1) = false from rfl]
  simp only [Bool.false_eq_true,if_false]
  rw [Nat.add_comm,W_eq]
  by_cases hi : i < 63
  ·rw [Nat.testBit_two_pow_add_gt hi]
   have : ¬ 63 = i:=by omega
   simp [this]
  ·by_cases hi2 : i = 63
   ·subst hi2
    rw [Nat.testBit_two_pow_add_eq]; simp
   ·rw [Nat.testBit_lt_two_pow (show 2 ^ 63 + x < 2 ^ i by have : 2 ^ 64 <= 2 ^ i:=Nat.pow_le_pow_right (by omega) (by omega); omega)]
    rw [Nat.testBit_lt_two_pow (show x < 2 ^ i by have : 2 ^ 64 <= 2 ^ i:=Nat.pow_le_pow_right (by omega) (by omega); omega)]
    simp; omega
def Is (o : Option Nat) (s : Nat) : Prop:=match o with
 | some r=>s = r
 | none=>I < rg s /\ s < 2 * W
theorem nan_draw (t : Nat) : I < rg ((t % 2) * 2 ^ 63 + 0x7ff0000000000000 + 1 + (t / 2) % (2 ^ 52 - 1)) /\ (t % 2) * 2 ^ 63 + 0x7ff0000000000000 + 1 + (t / 2) % (2 ^ 52 - 1) < 2 * W:=by
 unfold rg I W
 generalize t / 2 = u
 have : t % 2 = 0 \/ t % 2 = 1:=by omega
 rcases this with h | h <;> rw [h] <;> omega
theorem add_lt {x y r : Nat} (h : double.add x y = some r) : r < 2 * W:=Format.add_lt double h
theorem mul_lt {x y r : Nat} (h : double.mul x y = some r) : r < 2 * W:=Format.mul_lt double h
theorem sub_self_fin (x : Nat) (hw : x < 2 * W) (h : rg x < I) : double.sub x x = some 0:=by
 rw [sub_any x x hw,add_fin x (ng x) h (by rw [rg_ng x hw]; exact h),vl_ng x hw,sg_ng x hw]
 have : vl x + -vl x = 0:=by omega
 rw [this]
 unfold sgn2
 cases sg x <;> decide
theorem sub_self_not (x : Nat) (h : ¬ rg x < I) : double.sub x x = none:=by
 unfold Format.sub
 rcases Nat.lt_or_ge I (rg x) with h1 | h1
 ·rw [read_nan x h1]; rfl
 ·rw [read_inf x (by omega)]
  unfold Datum.opposite Datum.sum
  cases sg x <;> rfl
end Fl
end
section
open Go.RowKit
theorem ret_fl {a b : Nat} (h : a = b) : Ending.returned (.float .f64 a) = .returned (.float .f64 b):=by rw [h]
theorem ret_bool {a b : Bool} (h : a = b) : Ending.returned (.bool a) = .returned (.bool b):=by rw [h]
theorem run_bits (b : Nat) (w : World) : (callFunc 45 #[.float .f64 b]).run Tryz.prog w = .ok (.value (.int .u64 (b : Int))) w:=by
 rw [run_callFunc_extern (e:=Extern.MathFloatBits.float64bits) Tryz.func45 (by kernel_rfl) (by kernel_rfl) (by kernel_rfl) (by kernel_rfl)]
 rfl
theorem run_from (n : Int) (w : World) : (callFunc 117 #[.int .u64 n]).run Tryz.prog w = .ok (.value (.float .f64 n.toNat)) w:=by
 rw [run_callFunc_extern (e:=Extern.MathFloatBits.float64frombits) Tryz.func117 (by kernel_rfl) (by kernel_rfl) (by kernel_rfl) (by kernel_rfl)]
 rfl
theorem abs_any (x : Nat) (w : World) (hx : x < 2 * Fl.W) : Calls Tryz.prog 67 #[.float .f64 x] w fun e w'=>e = .returned (.float .f64 (Fl.rg x)) /\ w = w':=by
 have hb:=run_bits
 have hf:=run_from
 go_enter Tryz.func67,Tryz.ntmps67
 go_wp2
 go_ret
 exact ⟨ret_fl (by rw [Fl.andNot_sign x hx]; rfl),rfl⟩
theorem signbit_any (x : Nat) (w : World) (hx : x < 2 * Fl.W) : Calls Tryz.prog 145 #[.float .f64 x] w fun e w'=>e = .returned (.bool (Fl.sg x)) /\ w = w':=by
 have hb:=run_bits
 go_enter Tryz.func145,Tryz.ntmps145
 go_wp2
 go_ret
 refine ⟨ret_bool ?_,rfl⟩
 unfold wrap64
 unfold Fl.sg Fl.W at *
 by_cases h : x / 9223372036854775808 % 2 = 1
 ·simp [h]; omega
 ·have : x / 9223372036854775808 % 2 = 0:=by omega
  simp [this]; omega
theorem copysign_any (x y : Nat) (w : World) (hx : x < 2 * Fl.W) (hy : y < 2 * Fl.W) : Calls Tryz.prog 142 #[.float .f64 x,.float .f64 y] w fun e w'=>e = .returned (.float .f64 (Fl.wd (Fl.sg y) (Fl.rg x))) /\ w = w':=by
 have hb:=run_bits
 have hf:=run_from
 go_enter Tryz.func142,Tryz.ntmps142
 go_wp2
 go_ret
 exact ⟨ret_fl (by rw [Fl.andNot_sign x hx,Fl.and_sign_u64 y hy,Fl.or_sign_u64 _ _ (Fl.rg_lt x)]; rfl),rfl⟩
theorem Fl.gt_most (x : Nat) : (FloatKind.f64.format.order x 9218868437227405311 == some .gt) = (decide (Fl.rg x = Fl.I) && !Fl.sg x):=by
 rcases Nat.lt_or_ge Fl.I (Fl.rg x) with h | h
 ·have e : FloatKind.f64.format.order x 9218868437227405311 = none:=Fl.order_nan _ _ (.inl h)
  rw [e,decide_eq_false (by omega)]; rfl
 ·have e : FloatKind.f64.format.order x 9218868437227405311 = some (compare (Fl.key x) (Fl.key 9218868437227405311)):=Fl.order_key _ _ h (by decide)
  have k : Fl.key 9218868437227405311 = 9218868437227405311:=by decide
  rw [e,k,Fl.compare_int]
  unfold Fl.key Fl.I at *
  cases Fl.sg x
  ·by_cases h1 : Fl.rg x = 9218868437227405312
   ·rw [h1]; decide
   ·simp only [Bool.false_eq_true,if_false]
    rw [decide_eq_false h1]
    by_cases h2 : (Fl.rg x : Int) < 9218868437227405311
    ·rw [if_pos h2]; rfl
    ·rw [if_neg h2,if_pos (by omega)]; rfl
  ·simp only [if_true]
   rw [if_pos (by omega)]; simp
theorem isinf_up (x : Nat) (w : World) : Calls Tryz.prog 60 #[.float .f64 x,.int .i64 1] w fun e w'=>e = .returned (.bool (decide (Fl.rg x = Fl.I) && !Fl.sg x)) /\ w = w':=by
 go_enter Tryz.func60,Tryz.ntmps60
 go_wp2
 go_ret
 exact ⟨ret_bool (Fl.gt_most x),rfl⟩
theorem isinf_down (x : Nat) (w : World) (hx : x < 2 * Fl.W) : Calls Tryz.prog 60 #[.float .f64 x,.int .i64 (-1)] w fun e w'=>e = .returned (.bool (decide (Fl.rg x = Fl.I) && Fl.sg x)) /\ w = w':=by
 have hn : ∀ w,(Op.unary .neg (.float .f64 x)).run Tryz.prog w = .ok (.float .f64 (Fl.ng x)) w:=fun w=>by
  rw [<- Fl.neg_word x hx]; rfl
 go_enter Tryz.func60,Tryz.ntmps60
 go_wp2
 go_ret
 exact ⟨ret_bool (by rw [Fl.gt_most,Fl.rg_ng x hx,Fl.sg_ng x hx,Bool.not_not]),rfl⟩
theorem isinf_any (x : Nat) (w : World) (hx : x < 2 * Fl.W) : Calls Tryz.prog 60 #[.float .f64 x,.int .i64 0] w fun e w'=>e = .returned (.bool (decide (Fl.rg x = Fl.I))) /\ w = w':=by
 go_enter Tryz.func60,Tryz.ntmps60
 go_wp2_with (go_at_call 67; refine (abs_any _ _ hx).mono ?_; rintro e w' ⟨rfl,rfl⟩)
 go_ret
 refine ⟨ret_bool ?_,rfl⟩
 have h1 : Fl.rg (Fl.rg x) = Fl.rg x:=Nat.mod_eq_of_lt (Fl.rg_lt x)
 have h2 : Fl.sg (Fl.rg x) = false:=by
  unfold Fl.sg; rw [Nat.div_eq_of_lt (Fl.rg_lt x)]; rfl
 rw [Fl.gt_most,h1,h2]; simp
end
end Go.Proofs.YtfpopdneokekiaaGreatDoor
namespace Go.Proofs.YtfpopdneokekiaaGreatDoor
open Go.RowKit
def U (w : World) (A : Option Addr) (n c : Nat) (l : List Int) : Prop :=
 l.length = n /\ n <= c /\ (A = none -> c = 0) /\ ∀ k x,l[k]? = some x -> ∃ ad,A = some ad /\ ad.block < w.heap.size /\ w.cell? (ad.add k) = some (.int .u64 x)
theorem add_block (a : Addr) (n : Nat) : (a.add n).block = a.block:=by unfold Addr.add; split <;> rfl
theorem U.below {w w' : World} {A : Option Addr} {n c : Nat} {l : List Int} (h : U w A n c l) (hb : Below w.heap.size w w') : U w' A n c l:=by
 obtain ⟨h1,h2,h3,h4⟩:=h
 refine ⟨h1,h2,h3,fun k x hk=>?_⟩
 obtain ⟨ad,e,hlt,hc⟩:=h4 k x hk
 exact ⟨ad,e,Nat.lt_of_lt_of_le hlt hb.size,(hb.cell (by rw [add_block]; exact hlt)).trans hc⟩
theorem U.news {w : World} {ad : Addr} {n c : Nat} {l : List Int} (h : U w (some ad) n c l) (m : Nat) (hm : m <= n) : ((l.take m).map (Value.int .u64)).length = m * 1 /\ (∀ j u,((l.take m).map (Value.int .u64))[j]? = some u -> w.cell? (ad.add j) = some u) /\ (∀ u ∈ (l.take m).map (Value.int .u64),u.oneCell' = true):=by
 obtain ⟨h1,h2,h3,h4⟩:=h
 refine ⟨by rw [List.length_map,List.length_take,Nat.min_eq_left (by omega)]; omega,fun j u hu=>?_,fun u hu=>?_⟩
 ·rw [List.getElem?_map] at hu
  obtain ⟨y,hy,rfl⟩:=Option.map_eq_some_iff.1 hu
  have hj : j < m:=by
   rcases Nat.lt_or_ge j m with h | h
   ·exact h
   ·rw [List.getElem?_take,if_neg (by omega)] at hy; cases hy
  rw [List.getElem?_take,if_pos hj] at hy
  obtain ⟨ad2,e2,_,hc2⟩:=h4 j y hy
  obtain rfl : ad = ad2:=Option.some.inj e2
  exact hc2
 ·obtain ⟨y,_,rfl⟩:=List.mem_map.1 hu
  rfl
theorem U.of_own {w : World} {base : Nat} {e : TypeId} {v : Value} {n : Nat} {l : List Int} (h : w.ownsRow base e 1 v n (l.map (Value.int .u64))) : ∃ A c,v = .slice A n c /\ U w A n c l:=by
 have hl : l.length = n:=by have:=h.1; simp at this; omega
 rcases Nat.eq_zero_or_pos n with hn | hn
 ·subst hn
  have hnil : l = []:=List.eq_nil_of_length_eq_zero hl
  subst hnil
  rcases h.2 with ⟨rfl,_⟩ | ⟨g,cap,cur,rfl,_⟩
  ·exact ⟨_,_,rfl,rfl,Nat.le_refl _,fun _=>rfl,fun k x hk=>by simp at hk⟩
  ·exact ⟨_,_,rfl,rfl,Nat.zero_le _,(fun he=>by cases he),fun k x hk=>by simp at hk⟩
 ·obtain ⟨g,cap,hv,hc,hlt⟩:=h.form hn
  refine ⟨_,_,hv,hl,?_,(fun he=>by cases he),fun k x hk=>⟨_,rfl,hlt,h.cells (g:=g) (by rw [hv]; rfl) k _ (by rw [List.getElem?_map,hk]; rfl)⟩⟩
  rcases h.2 with ⟨rfl,h0⟩ | ⟨g',cap',cur,rfl,_,_,hnc,_⟩
  ·omega
  ·injection hv with _ _ hc2; omega
def NatPost (N : Nat) (w : World) (e : Ending) (w' : World) : Prop:=∃ A c,e = .returned (.slice A (Nt.dg 18446744073709551616 N).length c) /\ U w' A (Nt.dg 18446744073709551616 N).length c (Nt.dg 18446744073709551616 N) /\ Below w.heap.size w w'
theorem u64_info : (Tryz.prog.info? 39).map (fun i=>(i.zero,i.size,i.bytes)) = some (some (.int .u64 0),1,8):=by kernel_rfl
theorem trimmed (l : List Int) (k : Nat) (hd : Nt.Dig 18446744073709551616 l) (hz : ∀ x,x ∈ l.drop k -> x = 0) (ht : k = 0 \/ ∃ x,l[k - 1]? = some x /\ x ≠ 0) (hk : k <= l.length) :
  l.take k = Nt.dg 18446744073709551616 (Nt.val 18446744073709551616 l):=by
 rw [<- Nt.val_take 18446744073709551616 l k hz]
 refine Nt.dg_val 18446744073709551616 (by decide) _ (hd.take k) ?_
 rcases ht with rfl | ⟨x,hx,h0⟩
 ·exact .inl (List.take_zero)
 ·right
  rcases k with _ | k
  ·rw [List.take_zero]; simp
  ·have hx' : l[k]? = some x:=by simpa using hx
   rw [List.getLast?_eq_getElem?,List.length_take,Nat.min_eq_left hk]
   rw [List.getElem?_take,if_pos (by omega)]
   rw [show k + 1 - 1 = k by omega,hx']
   intro he; exact h0 (Option.some.inj he)
theorem drop_zero (l : List Int) (k : Nat) (h : l[k]? = some 0) (hz : ∀ x,x ∈ l.drop (k + 1) -> x = 0) : ∀ x,x ∈ l.drop k -> x = 0:=by
 intro x hx
 have hk : k < l.length:=(List.getElem?_eq_some_iff.1 h).1
 rw [List.drop_eq_getElem_cons hk] at hx
 rw [List.getElem?_eq_getElem hk] at h
 rcases List.mem_cons.1 hx with e | hx
 ·rw [e]; exact Option.some.inj h
 ·exact hz x hx
set_option maxRecDepth 100000 in
theorem trim_any (A : Option Addr) (n c : Nat) (l : List Int) (w : World) (h : U w A n c l) (hl : n <= 1000000000) (hd : Nt.Dig 18446744073709551616 l) :
  Calls Tryz.prog 136 #[.slice A n c] w (NatPost (Nt.val 18446744073709551616 l) w):=by
 obtain ⟨i0,hi0,hz0,hz1,hz2⟩:=info_parts u64_info
 have HU:=Hd h
 obtain ⟨h1,h2,h3,h4⟩:=h
 have HN:=Hd h1
 have H4:=Hd h4
 have HD:=Hd hd
 clear h4 hd
 rcases A with _ | ad
 ·have hc : c = 0:=h3 rfl
  subst hc
  have hn : n = 0:=by omega
  subst hn
  have hnil : l = []:=List.eq_nil_of_length_eq_zero h1
  subst hnil
  clear h1 h2 h3
  go_enter Tryz.func136,Tryz.ntmps136
  go_wp2_with fail
  refine wp_loop_rounds 1 ?_
  rw [rounds_succ]
  go_wp2
  go_ret
  have hnil : Nt.dg 18446744073709551616 (Nt.val 18446744073709551616 []) = []:=Nt.dg_zero _
  unfold NatPost
  rw [hnil]
  exact ⟨none,0,rfl,⟨rfl,Nat.le_refl _,fun _=>rfl,fun k x hk=>by simp at hk⟩,Below.refl _ _⟩
 ·clear h3 h1
  go_enter Tryz.func136,Tryz.ntmps136
  go_wp2_with fail
  go_loop [3] (fun v=>∃ k : Nat,k <= n /\ v = .int .i64 k /\ ∀ x,x ∈ l.drop k -> x = 0) (fun v=>(intOf v).toNat)
  case atStart=>exact ⟨n,Nat.le_refl _,rfl,fun x hx=>by rw [<- HN.out,List.drop_length] at hx; cases hx⟩
  case round =>
   obtain ⟨k,hk,rfl,hz⟩:=hrel
   have HZ:=Hd hz
   clear hz
   have fin : ∀ (m : Nat) (v : Value) (w1 : World),m = k -> (m = 0 \/ ∃ x,l[m - 1]? = some x /\ x ≠ 0) -> w1.ownsRow w.heap.size 39 1 v (0 + m) ([] ++ (l.take m).map (Value.int .u64)) -> w.grownBy w1 (Value.slice none 0 0).ownBlock -> NatPost (Nt.val 18446744073709551616 l) w (.returned v) w1:=by
    intro m v w1 hm ht hown hg
    subst hm
    rw [Nat.zero_add,List.nil_append] at hown
    have ht2:=trimmed l m HD.out HZ.out ht (by have:=HN.out; omega)
    have hlen : (l.take m).length = m:=by rw [List.length_take,Nat.min_eq_left (by have:=HN.out; omega)]
    obtain ⟨A',c',rfl,hu⟩:=U.of_own hown
    have hll : (Nt.dg 18446744073709551616 (Nt.val 18446744073709551616 l)).length = m:=by rw [<- ht2,hlen]
    unfold NatPost
    rw [hll]
    rw [<- ht2]
    refine ⟨A',c',rfl,hu,(Below.refl _ _).grown hg (Nat.le_refl _) (fun k hk=>by simp [Value.ownBlock] at hk)⟩
   have FIN:=Hd fin
   clear fin
   rcases k with _ | k
   ·go_wp2_with (at_builtin; refine wpList_append_own _ rfl (.tmp 19) (.tmp 22) _ rfl w.heap.size 39 i0 _ 1 8 Tryz.underlying50 hi0 hz0 hz1 hz2 rfl (by omega) (.slice none 0 0) 0 [] rfl ⟨by simp,.inl ⟨rfl,rfl⟩⟩ ad 0 c ((l.take 0).map (Value.int .u64)) rfl (HU.out.news 0 (by omega)).1 (HU.out.news 0 (by omega)).2.1 (HU.out.news 0 (by omega)).2.2 (by simp only [maxLen]; omega) (by omega) (Nat.le_refl _) ?_; intro v1 w1 hown1 hg1 _)
    go_ret
    exact FIN.out 0 v1 w1 rfl (.inl rfl) hown1 hg1
   ·obtain ⟨x,hx⟩ : ∃ x,l[k]? = some x:=⟨_,List.getElem?_eq_getElem (by have:=HN.out; omega)⟩
    obtain ⟨ad',e,hb,hc⟩:=H4.out k x hx
    obtain rfl : ad = ad':=Option.some.inj e
    have HX:=Hd hx
    clear hx e
    by_cases h0 : x = 0
    ·subst h0
     go_wp2
     go_round
     case rel=>exact ⟨k,by omega,rfl,drop_zero l k HX.out HZ.out⟩
     case measure=>simp [intOf]
    ·go_wp2_with (at_builtin; refine wpList_append_own _ rfl (.tmp 19) (.tmp 22) _ rfl w.heap.size 39 i0 _ 1 8 Tryz.underlying50 hi0 hz0 hz1 hz2 rfl (by omega) (.slice none 0 0) 0 [] rfl ⟨by simp,.inl ⟨rfl,rfl⟩⟩ ad (k + 1) c ((l.take (k + 1)).map (Value.int .u64)) rfl (HU.out.news (k + 1) (by omega)).1 (HU.out.news (k + 1) (by omega)).2.1 (HU.out.news (k + 1) (by omega)).2.2 (by simp only [maxLen]; omega) (by omega) (Nat.le_refl _) ?_; intro v1 w1 hown1 hg1 _)
     go_ret
     exact FIN.out (k + 1) v1 w1 rfl (.inr ⟨x,by simpa using HX.out,h0⟩) hown1 hg1
end Go.Proofs.YtfpopdneokekiaaGreatDoor
namespace Go.Proofs.YtfpopdneokekiaaGreatDoor
open Go.RowKit
theorem cell_new (w : World) (cs : Array Value) (t : TypeId) (i : Nat) : (w.alloc (.cells cs t)).cell? ((⟨w.heap.size,0,none⟩ : Addr).add i) = cs[i]?:=by
 have h : (w.alloc (.cells cs t)).heap[w.heap.size]? = some (.cells cs t (0,0)):=heap_alloc_new w _
 have e : (⟨w.heap.size,0,none⟩ : Addr).add i = ⟨w.heap.size,i,none⟩:=by unfold Addr.add; split <;> simp_all
 rw [e]
 exact cell_of_row _ _ _ _ _ _ h
theorem alloc_lt (w : World) (o : Obj) : w.heap.size < (w.alloc o).heap.size:=(Array.getElem?_eq_some_iff.1 (heap_alloc_new w o)).1
set_option maxRecDepth 100000 in
theorem natOf_any (x : Nat) (w : World) (hx : x < 18446744073709551616) : Calls Tryz.prog 97 #[.int .u64 x] w (NatPost x w):=by
 go_enter Tryz.func97,Tryz.ntmps97
 go_wp2_with fail
 have hv : Nt.val 18446744073709551616 [(x : Int)] = x:=by simp [Nt.val]
 have hd : Nt.Dig 18446744073709551616 [(x : Int)]:=Nt.Dig.one (by omega) (by omega)
 have hu : U (w.alloc (Obj.cells #[Value.int IntKind.u64 ↑x] 39)) (some ⟨w.heap.size,0,none⟩) 1 1 [(x : Int)]:=by
  refine ⟨rfl,Nat.le_refl _,(fun he=>by cases he),fun k y hk=>⟨_,rfl,?_,?_⟩⟩
  ·exact alloc_lt w _
  ·rw [cell_new]
   rcases k with _ | k
   ·simp at hk; subst hk; rfl
   ·simp at hk
 refine (trim_any _ 1 1 [(x : Int)] _ hu (by decide) hd).mono ?_
 rintro e w1 ⟨A1,c1,rfl,hu1,hb1⟩
 have hb2 : Below w.heap.size w w1:=((Below.refl w.heap.size w).alloc (Nat.le_refl _) _).trans (hb1.mono (((Below.refl w.heap.size w).alloc (Nat.le_refl _) _).size))
 rw [hv] at hu1 ⊢
 have HU:=Hd hu1
 have HB:=Hd hb2
 clear hu1 hb1 hb2
 go_wp2
 go_ret
 exact ⟨A1,c1,rfl,HU.out,HB.out⟩
def bitsN (n : Nat) : Nat:=if n = 0 then 0 else n.log2 + 1
theorem bitsN_half (u : Nat) (h : 0 < u) : bitsN u = bitsN (u / 2) + 1:=by
 unfold bitsN
 rw [if_neg (by omega)]
 by_cases h1 : u / 2 = 0
 ·have : u = 1:=by omega
  subst this; decide
 ·rw [if_neg h1,Nat.log2_def,if_pos (by omega)]
theorem bitsN_le (t : Nat) (h : t < 18446744073709551616) : bitsN t <= 64:=by
 unfold bitsN
 split
 ·exact Nat.zero_le _
 ·rename_i h0
  have:=(Nat.log2_lt h0).2 (show t < 2 ^ 64 by exact h)
  omega
theorem dg_top (B : Nat) (hB : 2 <= B) : ∀ N : Nat,N ≠ 0 -> ∃ t m : Nat,(Nt.dg B N).length = m + 1 /\ (Nt.dg B N)[m]? = some (t : Int) /\ 0 < t /\ t < B /\ t * B ^ m <= N /\ N < (t + 1) * B ^ m:=by
 intro N
 induction N using Nat.strongRecOn with
 | _ N ih =>
   intro h
   rw [Nt.dg_pos B N hB h]
   by_cases h0 : N / B = 0
   ·have hlt : N < B:=by
     rcases Nat.lt_or_ge N B with h1 | h1
     ·exact h1
     ·have:=Nat.div_pos h1 (by omega); omega
    refine ⟨N,0,?_,?_,by omega,hlt,by simp,by simp⟩
    ·rw [h0,Nt.dg_zero]; rfl
    ·rw [Nat.mod_eq_of_lt hlt]; rfl
   ·obtain ⟨t,m,h1,h2,h3,h4,h5,h6⟩:=ih (N / B) (Nat.div_lt_self (by omega) (by omega)) h0
    refine ⟨t,m + 1,by rw [List.length_cons,h1],by rw [List.getElem?_cons_succ]; exact h2,h3,h4,?_,?_⟩
    ·rw [Nat.pow_succ,<- Nat.mul_assoc]
     exact (Nat.le_div_iff_mul_le (by omega)).1 h5
    ·rw [Nat.pow_succ,<- Nat.mul_assoc]
     exact (Nat.div_lt_iff_lt_mul (by omega)).1 h6
theorem bits_top (N t m : Nat) (h3 : 0 < t) (h5 : t * 18446744073709551616 ^ m <= N) (h6 : N < (t + 1) * 18446744073709551616 ^ m) : bitsN N = 64 * m + bitsN t:=by
 have e : (18446744073709551616 : Nat) ^ m = 2 ^ (64 * m):=by rw [Nat.pow_mul]
 rw [e] at h5 h6
 have hN : N ≠ 0:=by
  have:=Nat.mul_pos h3 (Nat.two_pow_pos (64 * m)); omega
 unfold bitsN
 rw [if_neg hN,if_neg (by omega)]
 have l1:=Nat.log2_self_le (show t ≠ 0 by omega)
 have l2:=@Nat.lt_log2_self t
 have : N.log2 = 64 * m + t.log2:=by
  rw [Nat.log2_eq_iff hN]
  constructor
  ·rw [Nat.pow_add,Nat.mul_comm]
   exact Nat.le_trans (Nat.mul_le_mul_right _ l1) h5
  ·rw [Nat.add_assoc,Nat.pow_add,Nat.mul_comm]
   exact Nat.lt_of_lt_of_le h6 (Nat.mul_le_mul_right _ l2)
 omega
set_option maxRecDepth 100000 in
theorem natBits_any (A : Option Addr) (n c : Nat) (l : List Int) (w : World) (h : U w A n c l) (hl : n <= 1000000000) (hd : Nt.Dig 18446744073709551616 l) :
  Calls Tryz.prog 93 #[.slice A n c] w fun e w'=>e = .returned (.int .i64 (bitsN (Nt.val 18446744073709551616 l))) /\ Below w.heap.size w w':=by
 have hlen : (Nt.dg 18446744073709551616 (Nt.val 18446744073709551616 l)).length <= n:=Nt.dg_len _ (by decide) n _ (by have:=Nt.val_lt 18446744073709551616 (by decide) l hd; rwa [h.1] at this)
 have ht:=trim_any A n c l w h hl hd
 clear h hd
 generalize Nt.val 18446744073709551616 l = N at *
 have HT:=Hd ht
 clear ht
 by_cases h0 : N = 0
 ·subst h0
  clear hlen
  go_enter Tryz.func93,Tryz.ntmps93
  go_wp2_with fail
  refine HT.out.mono ?_
  rintro e w1 ⟨A1,c1,rfl,hu,hb⟩
  rw [Nt.dg_zero] at *
  have HB:=Hd hb
  clear hu hb
  go_wp2
  go_ret
  exact ⟨rfl,HB.out⟩
 ·obtain ⟨t,m,t1,t2,t3,t4,t5,t6⟩:=dg_top 18446744073709551616 (by decide) N h0
  have hbits:=Hd (bits_top N t m t3 t5 t6)
  rw [t1] at hlen
  clear t5 t6
  go_enter Tryz.func93,Tryz.ntmps93
  go_wp2_with fail
  refine HT.out.mono ?_
  rintro e w1 ⟨A1,c1,rfl,hu,hb⟩
  rw [t1] at hu ⊢
  have HB:=Hd hb
  obtain ⟨ad,rfl,hblk,hcell⟩:=hu.2.2.2 m t t2
  have T4:=Hd t4
  clear hu hb hblk t1 t2 HT t4 h0
  have hm : m < 1000000000:=by omega
  clear hlen hl t3
  have HBI:=hbits
  clear hbits
  set_option maxRecDepth 400000 in go_wp2_with fail
  go_loop [4,5] (fun b u=>∃ (j v : Nat),v <= t /\ u = .int .u64 v /\ b = .int .i64 j /\ j + bitsN v = 64 * m + bitsN t) (fun _ u=>(intOf u).toNat)
  case atStart=>exact ⟨64 * m,t,Nat.le_refl _,rfl,by go_num,rfl⟩
  case round =>
   obtain ⟨j,v,hv,rfl,rfl,hj⟩:=hrel
   have hb64:=bitsN_le t T4.out
   have hjb : j <= 64000000064:=by omega
   have HJ:=Hd hj
   have hvb : v < 18446744073709551616:=Nat.lt_of_le_of_lt hv T4.out
   have HV:=Hd hvb
   have HVT:=Hd hv
   clear hj hb64 hvb hv
   rcases Nat.eq_zero_or_pos v with h0 | h0
   ·subst h0
    go_wp2
    go_ret
    refine ⟨?_,HB.out⟩
    have h1:=HJ.out
    have h2:=HBI.out
    rw [show bitsN 0 = 0 from rfl] at h1
    rw [h2,<- h1]; rfl
   ·have hw : IntKind.u64.wrap ((v : Int) / 2) = ((v / 2 : Nat) : Int):=by rw [IntKind.wrap_u64]; have:=HV.out; omega
    go_wp2
    go_round
    case rel =>
     have h1:=bitsN_half v h0
     have h2:=HJ.out
     exact ⟨j + 1,v / 2,Nat.le_trans (Nat.div_le_self v 2) HVT.out,by go_num,by go_num,by omega⟩
    case measure =>
     simp [intOf]; omega
end Go.Proofs.YtfpopdneokekiaaGreatDoor
namespace Go.Proofs.YtfpopdneokekiaaGreatDoor
open Go.RowKit
namespace Nt
theorem val_split (B : Nat) (l : List Int) (i : Nat) (x : Int) (h : l[i]? = some x) : val B l = val B (l.take i) + B ^ i * (x.toNat + B * val B (l.drop (i + 1))):=by
 have hi : i < l.length:=(List.getElem?_eq_some_iff.1 h).1
 have hx : l[i] = x:=(List.getElem?_eq_some_iff.1 h).2
 conv=>lhs; rw [<- List.take_append_drop i l]
 rw [val_append,List.drop_eq_getElem_cons hi,hx,List.length_take,Nat.min_eq_left (Nat.le_of_lt hi)]
 rfl
theorem val_lt_of (B : Nat) (hB : 2 <= B) (a b : List Int) (ha : Dig B a) (hb : Dig B b) (i : Nat) (x y : Int) (h1 : a[i]? = some x) (h2 : b[i]? = some y) (hd : a.drop (i + 1) = b.drop (i + 1)) (hxy : x < y) : val B a < val B b:=by
 rw [val_split B a i x h1,val_split B b i y h2,hd]
 have hl : val B (a.take i) < B ^ i:=by
  have:=val_lt B hB (a.take i) (ha.take i)
  have hi : i < a.length:=(List.getElem?_eq_some_iff.1 h1).1
  rwa [List.length_take,Nat.min_eq_left (Nat.le_of_lt hi)] at this
 have hx : 0 <= x:=(ha x (List.mem_of_getElem? h1)).1
 have hle : x.toNat + 1 <= y.toNat:=by omega
 generalize B * val B (b.drop (i + 1)) = q
 have h3 : B ^ i * (x.toNat + 1 + q) <= B ^ i * (y.toNat + q):=Nat.mul_le_mul_left _ (by omega)
 have h4 : B ^ i * (x.toNat + 1 + q) = B ^ i * (x.toNat + q) + B ^ i:=by rw [show x.toNat + 1 + q = (x.toNat + q) + 1 by omega,Nat.mul_add,Nat.mul_one]
 omega
theorem dg_lt_len (B : Nat) (hB : 2 <= B) (N : Nat) : N < B ^ (dg B N).length:=by
 have:=val_lt B hB (dg B N) (dig_dg B hB N)
 rwa [val_dg B hB N] at this
theorem len_lt (B : Nat) (hB : 2 <= B) (N M : Nat) (h : (dg B N).length < (dg B M).length) : N < M:=by
 have h1:=dg_lt_len B hB N
 have hM : M ≠ 0:=by intro h0; subst h0; rw [dg_zero] at h; simp at h
 obtain ⟨t,m,t1,t2,t3,t4,t5,t6⟩:=dg_top B hB M hM
 have h2 : B ^ (dg B N).length <= B ^ m:=Nat.pow_le_pow_right (by omega) (by omega)
 have h3 : B ^ m <= t * B ^ m:=Nat.le_mul_of_pos_left _ t3
 omega
end Nt
def cmpI (N M : Nat) : Int:=if N < M then -1 else if N = M then 0 else 1
set_option maxRecDepth 400000 in
theorem natCmp_any (A : Option Addr) (n c : Nat) (l : List Int) (A' : Option Addr) (n' c' : Nat) (l' : List Int) (w : World) (h : U w A n c l) (hl : n <= 1000000000) (hd : Nt.Dig 18446744073709551616 l) (h' : U w A' n' c' l') (hl' : n' <= 1000000000) (hd' : Nt.Dig 18446744073709551616 l') :
  Calls Tryz.prog 101 #[.slice A n c,.slice A' n' c'] w fun e w'=>e = .returned (.int .i64 (cmpI (Nt.val 18446744073709551616 l) (Nt.val 18446744073709551616 l'))) /\ Below w.heap.size w w':=by
 have hlen : (Nt.dg 18446744073709551616 (Nt.val 18446744073709551616 l)).length <= n:=Nt.dg_len _ (by decide) n _ (by have:=Nt.val_lt 18446744073709551616 (by decide) l hd; rwa [h.1] at this)
 have hlen' : (Nt.dg 18446744073709551616 (Nt.val 18446744073709551616 l')).length <= n':=Nt.dg_len _ (by decide) n' _ (by have:=Nt.val_lt 18446744073709551616 (by decide) l' hd'; rwa [h'.1] at this)
 have ht:=trim_any A n c l w h hl hd
 have ht':=fun w1 (hb : Below w.heap.size w w1)=>trim_any A' n' c' l' w1 (h'.below hb) hl' hd'
 clear h hd h' hd'
 generalize Nt.val 18446744073709551616 l = N at *
 generalize Nt.val 18446744073709551616 l' = M at *
 have HT:=Hd ht
 have HT':=Hd ht'
 clear ht ht'
 have hdN:=Nt.dig_dg 18446744073709551616 (by decide) N
 have hdM:=Nt.dig_dg 18446744073709551616 (by decide) M
 have lt1:=Nt.len_lt 18446744073709551616 (by decide) N M
 have lt2:=Nt.len_lt 18446744073709551616 (by decide) M N
 have vN:=Nt.val_dg 18446744073709551616 (by decide) N
 have vM:=Nt.val_dg 18446744073709551616 (by decide) M
 have cmp1:=Nt.val_lt_of 18446744073709551616 (by decide) _ _ hdN hdM
 have cmp2:=Nt.val_lt_of 18446744073709551616 (by decide) _ _ hdM hdN
 rw [vN,vM] at cmp1
 rw [vN,vM] at cmp2
 have same : Nt.dg 18446744073709551616 N = Nt.dg 18446744073709551616 M -> N = M:=fun e=>by rw [<- vN,e,vM]
 go_enter Tryz.func101,Tryz.ntmps101
 have HH:=Hd (And.intro lt1 (And.intro lt2 (And.intro cmp1 (And.intro cmp2 same))))
 clear lt1 lt2 cmp1 cmp2 same vN vM hdN hdM
 go_wp2_with fail
 refine HT.out.mono ?_
 rintro e w1 ⟨A1,c1,rfl,hu,hb⟩
 have HU:=Hd hu
 have HB:=Hd hb
 clear hu hb
 go_wp2_with fail
 refine (HT'.out _ HB.out).mono ?_
 rintro e w2 ⟨A2,c2,rfl,hu,hb⟩
 have HU1:=Hd (HU.out.below hb)
 have HU2:=Hd hu
 have HB2:=Hd (HB.out.trans (hb.mono HB.out.size))
 clear hu hb
 generalize hx : Nt.dg 18446744073709551616 N = x at *
 generalize hy : Nt.dg 18446744073709551616 M = y at *
 have HX:=Hd hx
 have HY:=Hd hy
 clear hx hy HT HT'
 obtain ⟨k,hk⟩ : ∃ k,x.length = k:=⟨_,rfl⟩
 obtain ⟨q,hq⟩ : ∃ q,y.length = q:=⟨_,rfl⟩
 have hkb : k <= 1000000000:=by rw [<- hk]; exact Nat.le_trans hlen hl
 have hqb : q <= 1000000000:=by rw [<- hq]; exact Nat.le_trans hlen' hl'
 rw [hk,hq] at HH
 rw [hk] at HU HU1
 rw [hq] at HU2
 clear hlen hlen' hl hl'
 rw [hk,hq]
 have HK:=Hd hk
 have HQ:=Hd hq
 clear hk hq
 rcases Nat.lt_trichotomy k q with h0 | h0 | h0
 ·have hne : ¬ k = q:=by omega
  go_wp2
  go_ret
  refine ⟨?_,HB2.out⟩
  have h1:=HH.out.1 h0
  unfold cmpI; rw [if_pos h1]; rfl
 ·subst h0
  have hw : wrap64 ((k : Int) - 1) = (k : Int) - 1:=by unfold wrap64; omega
  go_wp2_with fail
  go_loopw [7] (fun v wr=>∃ i : Nat,i <= k /\ v = .int .i64 ((i : Int) - 1) /\ x.drop i = y.drop i /\ Below w2.heap.size w2 wr) (fun v _=>(intOf v + 1).toNat)
  case atStart=>exact ⟨k,Nat.le_refl _,rfl,by rw [List.drop_eq_nil_of_le (Nat.le_of_eq HK.out),List.drop_eq_nil_of_le (Nat.le_of_eq HQ.out)],Below.refl _ _⟩
  case round =>
   obtain ⟨i,hi,rfl,hdr,hbr⟩:=hrel
   have HDR:=Hd hdr
   have HBR:=Hd hbr
   have U1:=Hd (HU1.out.below HBR.out)
   have U2:=Hd (HU2.out.below HBR.out)
   clear hdr hbr
   rcases i with _ | i
   ·have e : N = M:=by
     refine HH.out.2.2.2.2 ?_
     have:=HDR.out
     rwa [List.drop_zero,List.drop_zero] at this
    have HE:=Hd e
    clear e
    go_wp2
    go_ret
    refine ⟨?_,HB2.out.trans (HBR.out.mono HB2.out.size)⟩
    unfold cmpI; rw [if_neg (by have:=HE.out; omega),if_pos HE.out]; rfl
   ·obtain ⟨p,hp⟩ : ∃ p,x[i]? = some p:=⟨_,List.getElem?_eq_getElem (by have:=HK.out; omega)⟩
    obtain ⟨r,hr⟩ : ∃ r,y[i]? = some r:=⟨_,List.getElem?_eq_getElem (by have:=HQ.out; omega)⟩
    obtain ⟨ad1,rfl,_,g1⟩:=U1.out.2.2.2 i p hp
    obtain ⟨ad2,rfl,_,g2⟩:=U2.out.2.2.2 i r hr
    have HP:=Hd hp
    have HR:=Hd hr
    clear hp hr
    have hwi : wrap64 ((i : Int) - 1) = (i : Int) - 1:=by unfold wrap64; omega
    have hik : i < k:=by omega
    rcases Int.lt_trichotomy p r with hpr | hpr | hpr
    ·have e : N < M:=HH.out.2.2.1 i p r HP.out HR.out HDR.out hpr
     have HE:=Hd e
     clear e
     go_wp2_with fail
     go_region
     go_wp2
     go_ret
     refine ⟨?_,(HB2.out.trans (HBR.out.mono HB2.out.size)).drew⟩
     unfold cmpI; rw [if_pos HE.out]; rfl
    ·subst hpr
     have hpp : ¬ p < p:=Int.lt_irrefl p
     go_wp2_with fail
     go_region
     go_wp2_with fail
     go_region
     go_wp2
     go_roundw
     case rel =>
      refine ⟨i,by omega,by go_num,?_,HBR.out.drew.drew⟩
      have h1:=(List.getElem?_eq_some_iff.1 HP.out)
      have h2:=(List.getElem?_eq_some_iff.1 HR.out)
      rw [List.drop_eq_getElem_cons h1.1,List.drop_eq_getElem_cons h2.1,h1.2,h2.2,HDR.out]
     case measure=>simp [intOf]
    ·have e : M < N:=HH.out.2.2.2.1 i r p HR.out HP.out HDR.out.symm hpr
     have HE:=Hd e
     clear e
     have hnp : ¬ p < r:=by omega
     go_wp2_with fail
     go_region
     go_wp2_with fail
     go_region
     go_wp2
     go_ret
     refine ⟨?_,((HB2.out.trans (HBR.out.mono HB2.out.size)).drew).drew⟩
     unfold cmpI; rw [if_neg (by have:=HE.out; omega),if_neg (by have:=HE.out; omega)]; rfl
 ·have hne : ¬ k = q:=by omega
  have hnl : ¬ k < q:=by omega
  go_wp2
  go_ret
  refine ⟨?_,HB2.out⟩
  have h1:=HH.out.2.1 h0
  unfold cmpI; rw [if_neg (by omega),if_neg (by omega)]; rfl
end Go.Proofs.YtfpopdneokekiaaGreatDoor
namespace Go.Proofs.YtfpopdneokekiaaGreatDoor
open Go.RowKit
namespace Nt
def hv : List Int -> List Int
 | []=>[]
 | x :: l=>x % 4294967296 :: x / 4294967296 :: hv l
theorem hv_append : ∀ l m : List Int,hv (l ++ m) = hv l ++ hv m
 | [],_=>rfl
 | x :: l,m=>by simp only [List.cons_append,hv,hv_append l m]
theorem hv_dig : ∀ l : List Int,Dig 18446744073709551616 l -> Dig 4294967296 (hv l)
 | [],_=>fun y hy=>by cases hy
 | x :: l,h=>fun y hy=>by
   have hx:=h.head
   simp only [hv] at hy
   rcases List.mem_cons.1 hy with rfl | hy
   ·omega
   ·rcases List.mem_cons.1 hy with rfl | hy
    ·omega
    ·exact hv_dig l h.tail y hy
theorem hv_val : ∀ l : List Int,Dig 18446744073709551616 l -> val 4294967296 (hv l) = val 18446744073709551616 l
 | [],_=>rfl
 | x :: l,h=>by
   have hx:=h.head
   simp only [hv,val,hv_val l h.tail]
   generalize val 18446744073709551616 l = v
   omega
theorem hv_take (l : List Int) (i : Nat) (x : Int) (h : l[i]? = some x) : hv (l.take (i + 1)) = hv (l.take i) ++ [x % 4294967296,x / 4294967296]:=by
 have hi : i < l.length:=(List.getElem?_eq_some_iff.1 h).1
 have hx : l[i] = x:=(List.getElem?_eq_some_iff.1 h).2
 rw [List.take_succ_eq_append_getElem hi,hv_append,hx]; rfl
theorem trimB (B : Nat) (hB : 2 <= B) (l : List Int) (k : Nat) (hd : Dig B l) (hz : ∀ x,x ∈ l.drop k -> x = 0) (ht : k = 0 \/ ∃ x,l[k - 1]? = some x /\ x ≠ 0) (hk : k <= l.length) :
  l.take k = dg B (val B l):=by
 rw [<- val_take B l k hz]
 refine dg_val B hB _ (hd.take k) ?_
 rcases ht with rfl | ⟨x,hx,h0⟩
 ·exact .inl (List.take_zero)
 ·right
  rcases k with _ | k
  ·rw [List.take_zero]; simp
  ·have hx' : l[k]? = some x:=by simpa using hx
   rw [List.getLast?_eq_getElem?,List.length_take,Nat.min_eq_left hk]
   rw [List.getElem?_take,if_pos (by omega)]
   rw [show k + 1 - 1 = k by omega,hx']
   intro he; exact h0 (Option.some.inj he)
end Nt
def HPost (N : Nat) (w : World) (e : Ending) (w' : World) : Prop:=∃ A c,e = .returned (.slice A (Nt.dg 4294967296 N).length c) /\ U w' A (Nt.dg 4294967296 N).length c (Nt.dg 4294967296 N) /\ Below w.heap.size w w'
theorem U.take {w : World} {A : Option Addr} {n c : Nat} {l : List Int} (h : U w A n c l) (k : Nat) (hk : k <= n) : U w A k c (l.take k):=by
 obtain ⟨h1,h2,h3,h4⟩:=h
 refine ⟨by rw [List.length_take,Nat.min_eq_left (by omega)],by omega,h3,fun j x hj=>?_⟩
 have hj2 : j < k:=by
  rcases Nat.lt_or_ge j k with h | h
  ·exact h
  ·rw [List.getElem?_take,if_neg (by omega)] at hj; cases hj
 rw [List.getElem?_take,if_pos hj2] at hj
 exact h4 j x hj
set_option maxRecDepth 400000 in
theorem low_any (A : Option Addr) (n c : Nat) (l : List Int) (w : World) (h : U w A n c l) (hl : n <= 4000000000) (hd : Nt.Dig 4294967296 l) :
  Calls Tryz.prog 138 #[.slice A n c] w fun e w'=>e = .returned (.slice A (Nt.dg 4294967296 (Nt.val 4294967296 l)).length c) /\ U w A (Nt.dg 4294967296 (Nt.val 4294967296 l)).length c (Nt.dg 4294967296 (Nt.val 4294967296 l)) /\ w' = w:=by
 have HU:=Hd h
 obtain ⟨h1,h2,h3,h4⟩:=h
 have HN:=Hd h1
 have H4:=Hd h4
 have HD:=Hd hd
 have fin : ∀ k : Nat,k <= n -> (∀ x,x ∈ l.drop k -> x = 0) -> (k = 0 \/ ∃ x,l[k - 1]? = some x /\ x ≠ 0) -> (Nt.dg 4294967296 (Nt.val 4294967296 l)).length = k /\ U w A k c (Nt.dg 4294967296 (Nt.val 4294967296 l)):=by
  intro k hk hz ht
  have ht2:=Nt.trimB 4294967296 (by decide) l k hd hz ht (by omega)
  rw [<- ht2]
  exact ⟨by rw [List.length_take,Nat.min_eq_left (by omega)],HU.out.take k hk⟩
 have FIN:=Hd fin
 clear h4 hd h1 fin
 go_enter Tryz.func138,Tryz.ntmps138
 go_wp2_with fail
 go_loop [3] (fun v=>∃ k : Nat,k <= n /\ v = .int .i64 k /\ ∀ x,x ∈ l.drop k -> x = 0) (fun v=>(intOf v).toNat)
 case atStart=>exact ⟨n,Nat.le_refl _,rfl,fun x hx=>by rw [<- HN.out,List.drop_length] at hx; cases hx⟩
 case round =>
  obtain ⟨k,hk,rfl,hz⟩:=hrel
  have HZ:=Hd hz
  clear hz
  rcases k with _ | k
  ·have hf:=FIN.out 0 hk HZ.out (.inl rfl)
   have HF:=Hd hf
   clear hf
   rcases A with _ | ad
   ·have hc : c = 0:=h3 rfl
    subst hc
    have hn : n = 0:=by omega
    subst hn
    clear h3
    go_wp2
    go_ret
    rw [HF.out.1]
    exact ⟨rfl,HF.out.2,rfl⟩
   ·clear h3
    go_wp2
    go_ret
    rw [HF.out.1]
    exact ⟨rfl,HF.out.2,rfl⟩
  ·obtain ⟨x,hx⟩ : ∃ x,l[k]? = some x:=⟨_,List.getElem?_eq_getElem (by have:=HN.out; omega)⟩
   obtain ⟨ad,rfl,hb,hc⟩:=H4.out k x hx
   have HX:=Hd hx
   clear hx h3
   by_cases h0 : x = 0
   ·subst h0
    go_wp2
    go_round
    case rel=>exact ⟨k,by omega,rfl,drop_zero l k HX.out HZ.out⟩
    case measure=>simp [intOf]
   ·have hf:=FIN.out (k + 1) hk HZ.out (.inr ⟨x,by simpa using HX.out,h0⟩)
    have HF:=Hd hf
    clear hf
    go_wp2
    go_ret
    rw [HF.out.1]
    exact ⟨rfl,HF.out.2,rfl⟩
end Go.Proofs.YtfpopdneokekiaaGreatDoor
namespace Go.Proofs.YtfpopdneokekiaaGreatDoor
end Go.Proofs.YtfpopdneokekiaaGreatDoor
namespace Go.Proofs.YtfpopdneokekiaaGreatDoor
open Go.RowKit
theorem two_cells (w : World) (p q : Int) (t : TypeId) : ([Value.int .u64 p,.int .u64 q] : List Value).length = 2 * 1 /\ (∀ j u,([Value.int .u64 p,.int .u64 q] : List Value)[j]? = some u -> (w.alloc (.cells #[Value.int .u64 p,.int .u64 q] t)).cell? ((⟨w.heap.size,0,none⟩ : Addr).add j) = some u) /\ (∀ u ∈ ([Value.int .u64 p,.int .u64 q] : List Value),u.oneCell' = true):=by
 refine ⟨rfl,fun j u hu=>?_,fun u hu=>?_⟩
 ·rw [cell_new]
  rcases j with _ | _ | j
  ·simpa using hu
  ·simpa using hu
  ·simp at hu
 ·simp at hu
  rcases hu with rfl | rfl <;> rfl
set_option maxRecDepth 400000 in
set_option maxHeartbeats 1000000 in
theorem halves_any (A : Option Addr) (n c : Nat) (l : List Int) (w : World) (h : U w A n c l) (hl : n <= 1000000000) (hd : Nt.Dig 18446744073709551616 l) :
  Calls Tryz.prog 98 #[.slice A n c] w (HPost (Nt.val 18446744073709551616 l) w):=by
 obtain ⟨i0,hi0,hz0,hz1,hz2⟩:=info_parts u64_info
 have HU:=Hd h
 have HN:=Hd h.1
 have HD:=Hd hd
 have HV:=Hd (Nt.hv_val l hd)
 have HVD:=Hd (Nt.hv_dig l hd)
 clear h hd
 go_enter Tryz.func98,Tryz.ntmps98
 go_wp2_with fail
 go_loopw [3,4] (fun v i wr=>∃ k : Nat,k <= n /\ i = .int .i64 k /\ wr.ownsRow w.heap.size 39 1 v (2 * k) ((Nt.hv (l.take k)).map (Value.int .u64)) /\ Below w.heap.size w wr) (fun _ i _=>n - (intOf i).toNat)
 case atStart=>exact ⟨0,Nat.zero_le _,rfl,by rw [List.take_zero]; exact ⟨by simp [Nt.hv],.inl ⟨rfl,rfl⟩⟩,Below.refl _ _⟩
 case round =>
  obtain ⟨k,hk,rfl,hown,hb⟩:=hrel
  have HOWN:=Hd hown
  have HB:=Hd hb
  clear hown hb
  by_cases hlt : k < n
  ·obtain ⟨x,hx⟩ : ∃ x,l[k]? = some x:=⟨_,List.getElem?_eq_getElem (by have:=HN.out; omega)⟩
   have hxr:=HD.out x (List.mem_of_getElem? hx)
   obtain ⟨ad,rfl,hblk,hc⟩:=(HU.out.below HB.out).2.2.2 k x hx
   have HX:=Hd hx
   have hr1 : Int.tmod x 4294967296 = x % 4294967296:=Int.tmod_eq_emod_of_nonneg hxr.1
   have hr2 : IntKind.u64.wrap (Int.tdiv x 4294967296) = x / 4294967296:=by rw [IntKind.wrap_u64,Int.tdiv_eq_ediv_of_nonneg hxr.1]; omega
   have HXR:=Hd hxr
   clear hx hblk hxr
   obtain ⟨v3,hv3⟩ : ∃ v3,v3 = u3:=⟨_,rfl⟩
   have own2 : (wr.drew.alloc (.cells #[.int .u64 (x % 4294967296),.int .u64 (x / 4294967296)] 39)).ownsRow w.heap.size 39 1 u3 (2 * k) ((Nt.hv (l.take k)).map (Value.int .u64)):=HOWN.out.drew.alloc _
   have cells2:=two_cells wr.drew (x % 4294967296) (x / 4294967296) 39
   have size2 : w.heap.size <= (wr.drew.alloc (.cells #[.int .u64 (x % 4294967296),.int .u64 (x / 4294967296)] 39)).heap.size:=Nat.le_trans HB.out.size (Nat.le_of_lt (alloc_lt wr.drew _))
   have OWN2:=Hd own2
   have CELLS2:=Hd cells2
   have SIZE2:=Hd size2
   have h63 : 2 * k + 2 <= maxLen:=by simp only [maxLen]; omega
   have H63:=Hd h63
   clear own2 cells2 size2 h63 hv3
   go_wp2_with fail
   go_region_law (refine step_append_lies (wr.drew.alloc (.cells #[.int .u64 (x % 4294967296),.int .u64 (x / 4294967296)] 39)) rfl (.tmp 11) (.tmp 22) _ rfl w.heap.size 39 i0 _ 1 8 Tryz.underlying50 hi0 hz0 hz1 hz2 rfl (Nat.le_refl 1) u3 (2 * k) ((Nt.hv (l.take k)).map (Value.int .u64)) rfl OWN2.out ⟨wr.heap.size,0,none⟩ 2 2 [Value.int .u64 (x % 4294967296),.int .u64 (x / 4294967296)] rfl CELLS2.out.1 CELLS2.out.2.1 CELLS2.out.2.2 (Nat.le_succ 1) H63.out (by omega) SIZE2.out _ rfl ?_; intro g cap w1 hown1 hg1 hor hgl)
   all_goals
    have hown3 : w1.ownsRow w.heap.size 39 1 (.slice (some ⟨g,0,none⟩) (2 * (k + 1)) cap) (2 * (k + 1)) ((Nt.hv (l.take (k + 1))).map (Value.int .u64)):=by
     rw [Nt.hv_take l k x HX.out,List.map_append]
     exact hown1
    have hb3 : Below w.heap.size w w1:=((HB.out.drew).alloc HB.out.size _).grown hg1 SIZE2.out (fun b hb=>(OWN2.out.lt b hb).1)
    have HOWN3:=Hd hown3
    have HB3:=Hd hb3
    clear hown3 hb3 hown1 hg1 hor hgl
    go_frame
    go_wp2
    go_roundw
    case rel=>exact ⟨k + 1,by omega,by go_num,HOWN3.out,HB3.out⟩
    case measure=>simp [intOf]; omega
  ·have hkn : k = n:=by omega
   subst hkn
   have hown:=HOWN.out
   rw [List.take_of_length_le (Nat.le_of_eq HN.out)] at hown
   obtain ⟨A',c',hv3,hu3⟩:=U.of_own hown
   have HU3:=Hd hu3
   clear hu3 hown HOWN
   subst hv3
   go_wp2_with fail
   refine (low_any A' (2 * k) c' (Nt.hv l) _ HU3.out (by omega) HVD.out).mono ?_
   rintro e w4 ⟨rfl,hu4,rfl⟩
   rw [HV.out] at hu4 ⊢
   have HU4:=Hd hu4
   clear hu4
   go_wp2
   go_ret
   exact ⟨A',c',rfl,HU4.out,HB.out⟩
end Go.Proofs.YtfpopdneokekiaaGreatDoor
namespace Go.Proofs.YtfpopdneokekiaaGreatDoor
open Go.RowKit
namespace Nt
def lm : List Int -> List Int
 | []=>[]
 | [x]=>[x]
 | x :: y :: l=>(x + 4294967296 * y) :: lm l
theorem lm_dig : ∀ l : List Int,Dig 4294967296 l -> Dig 18446744073709551616 (lm l)
 | [],_=>fun y hy=>by cases hy
 | [x],h=>fun y hy=>by
   have hx:=h.head
   simp only [lm] at hy
   rcases List.mem_cons.1 hy with rfl | hy
   ·omega
   ·cases hy
 | x :: z :: l,h=>fun y hy=>by
   have hx:=h.head
   have hz:=h.tail.head
   simp only [lm] at hy
   rcases List.mem_cons.1 hy with rfl | hy
   ·omega
   ·exact lm_dig l h.tail.tail y hy
theorem lm_val : ∀ l : List Int,Dig 4294967296 l -> val 18446744073709551616 (lm l) = val 4294967296 l
 | [],_=>rfl
 | [x],h=>by simp [lm,val]
 | x :: y :: l,h=>by
   have hx:=h.head
   have hy:=h.tail.head
   simp only [lm,val,lm_val l h.tail.tail]
   generalize val 4294967296 l = v
   omega
theorem lm_take : ∀ (j : Nat) (l : List Int) (h : 2 * j < l.length),lm (l.take (2 * (j + 1))) = lm (l.take (2 * j)) ++ [l[2 * j] + 4294967296 * (l[2 * j + 1]?.getD 0)]
 | 0,[],h=>absurd h (by simp)
 | 0,[x],h=>by simp [lm]
 | 0,x :: y :: l,h=>by simp [lm]
 | j + 1,[],h=>absurd h (by simp)
 | j + 1,[x],h=>absurd h (by simp)
 | j + 1,x :: y :: l,h=>by
   have hl : 2 * j < l.length:=by simp at h; omega
   have ih:=lm_take j l hl
   change lm (x :: y :: l.take (2 * (j + 1))) = lm (x :: y :: l.take (2 * j)) ++ [l[2 * j] + 4294967296 * (l[2 * j + 1]?.getD 0)]
   simp only [lm,List.cons_append,ih]
end Nt
set_option maxRecDepth 400000 in
theorem digit_yes (A : Option Addr) (n c : Nat) (l : List Int) (w : World) (i : Nat) (x : Int) (h : U w A n c l) (hl : n <= 4000000000) (hx : l[i]? = some x) : Calls Tryz.prog 139 #[.slice A n c,.int .i64 i] w fun e w'=>e = .returned (.int .u64 x) /\ w = w':=by
 have hi : i < n:=by rw [<- h.1]; exact (List.getElem?_eq_some_iff.1 hx).1
 obtain ⟨ad,rfl,_,hc⟩:=h.2.2.2 i x hx
 clear h hx
 go_enter Tryz.func139,Tryz.ntmps139
 go_wp2
 go_ret
 exact ⟨rfl,rfl⟩
set_option maxRecDepth 400000 in
theorem digit_no (A : Option Addr) (n c : Nat) (w : World) (i : Nat) (hi : n <= i) (hb : i < 4000000000) : Calls Tryz.prog 139 #[.slice A n c,.int .i64 i] w fun e w'=>e = .returned (.int .u64 0) /\ w = w':=by
 have hi2 : ¬ i < n:=by omega
 go_enter Tryz.func139,Tryz.ntmps139
 go_wp2
 go_ret
 exact ⟨rfl,rfl⟩
theorem one_cell (w : World) (p : Int) (t : TypeId) : ([Value.int .u64 p] : List Value).length = 1 * 1 /\ (∀ j u,([Value.int .u64 p] : List Value)[j]? = some u -> (w.alloc (.cells #[Value.int .u64 p] t)).cell? ((⟨w.heap.size,0,none⟩ : Addr).add j) = some u) /\ (∀ u ∈ ([Value.int .u64 p] : List Value),u.oneCell' = true):=by
 refine ⟨rfl,fun j u hu=>?_,fun u hu=>?_⟩
 ·rw [cell_new]
  rcases j with _ | j
  ·simpa using hu
  ·simp at hu
 ·simp at hu
  subst hu; rfl
set_option maxRecDepth 400000 in
set_option maxHeartbeats 1000000 in
theorem limbs_any (A : Option Addr) (n c : Nat) (l : List Int) (w : World) (h : U w A n c l) (hl : n <= 1000000000) (hd : Nt.Dig 4294967296 l) :
  Calls Tryz.prog 99 #[.slice A n c] w (NatPost (Nt.val 4294967296 l) w):=by
 obtain ⟨i0,hi0,hz0,hz1,hz2⟩:=info_parts u64_info
 have HU:=Hd h
 have HN:=Hd h.1
 have HD:=Hd hd
 have HV:=Hd (Nt.lm_val l hd)
 have HVD:=Hd (Nt.lm_dig l hd)
 clear h hd
 go_enter Tryz.func99,Tryz.ntmps99
 go_wp2_with fail
 go_loopw [3,4] (fun v i wr=>∃ j : Nat,2 * j <= n + 1 /\ i = .int .i64 ((2 * j : Nat) : Int) /\ wr.ownsRow w.heap.size 39 1 v j ((Nt.lm (l.take (2 * j))).map (Value.int .u64)) /\ Below w.heap.size w wr) (fun _ i _=>n + 1 - (intOf i).toNat)
 case atStart=>exact ⟨0,Nat.zero_le _,rfl,by rw [List.take_zero]; exact ⟨by simp [Nt.lm],.inl ⟨rfl,rfl⟩⟩,Below.refl _ _⟩
 case round =>
  obtain ⟨j,hj,rfl,hown,hb⟩:=hrel
  have HOWN:=Hd hown
  have HB:=Hd hb
  clear hown hb
  have hlow : ∀ z v : Int,0 <= z -> z < 4294967296 -> 0 <= v -> v < 4294967296 -> IntKind.u64.wrap (4294967296 * z) = 4294967296 * z /\ IntKind.u64.wrap (v + 4294967296 * z) = v + 4294967296 * z:=fun z v h1 h2 h3 h4=>by rw [IntKind.wrap_u64,IntKind.wrap_u64]; omega
  have HLOW:=Hd hlow
  clear hlow
  have step : ∀ (hlt : 2 * j < n) (q : Int),q = l[2 * j]'(by have:=HN.out; omega) + 4294967296 * (l[2 * j + 1]?.getD 0) -> ∀ (w0 : World) (v1 : Value) (w1 : World),w0 = wr.alloc (.cells #[.int .u64 q] 39) -> w1.ownsRow w.heap.size 39 1 v1 (j + 1) ((Nt.lm (l.take (2 * j))).map (Value.int .u64) ++ [.int .u64 q]) -> w0.grownBy w1 u3.ownBlock -> w1.ownsRow w.heap.size 39 1 v1 (j + 1) ((Nt.lm (l.take (2 * (j + 1)))).map (Value.int .u64)) /\ Below w.heap.size w w1:=by
   intro hlt q hq w0 v1 w1 hw0 hown1 hg1
   constructor
   ·rw [Nt.lm_take j l (by have:=HN.out; omega),List.map_append,<- hq]; exact hown1
   ·subst hw0
    exact ((HB.out).alloc HB.out.size _).grown hg1 (Nat.le_trans HB.out.size (Nat.le_of_lt (alloc_lt _ _))) (fun b hb=>(HOWN.out.lt b hb).1)
  have STEP:=Hd step
  clear step
  by_cases hlt : 2 * j < n
  ·obtain ⟨x,hx⟩ : ∃ x,l[2 * j]? = some x:=⟨_,List.getElem?_eq_getElem (by have:=HN.out; omega)⟩
   have hxr:=HD.out x (List.mem_of_getElem? hx)
   obtain ⟨ad,rfl,hblk,hc⟩:=(HU.out.below HB.out).2.2.2 (2 * j) x hx
   have hxe : l[2 * j]'(by have:=HN.out; omega) = x:=(List.getElem?_eq_some_iff.1 hx).2
   have HXE:=Hd hxe
   have HXR:=Hd hxr
   clear hx hblk hxe hxr
   by_cases hodd : 2 * j + 1 < n
   ·obtain ⟨z,hz⟩ : ∃ z,l[2 * j + 1]? = some z:=⟨_,List.getElem?_eq_getElem (by have:=HN.out; omega)⟩
    have hzr:=HD.out z (List.mem_of_getElem? hz)
    obtain ⟨ad',e,hblk,hc2⟩:=(HU.out.below HB.out).2.2.2 (2 * j + 1) z hz
    obtain rfl : ad = ad':=Option.some.inj e
    have hc3 : wr.cell? ⟨ad.block,ad.off + (2 * j + 1),none⟩ = some (.int .u64 z):=by
     have h0:=hc2; unfold Addr.add at h0; rw [if_neg (by omega)] at h0; exact h0
    have HZ:=Hd hz
    obtain ⟨hw1,hw2⟩:=HLOW.out z x (by have:=hzr.1; exact this) (by have:=hzr.2; exact this) (by have:=HXR.out.1; exact this) (by have:=HXR.out.2; exact this)
    have OWN2:=Hd (HOWN.out.alloc (.cells #[.int .u64 (x + 4294967296 * z)] 39))
    have CELLS2:=Hd (one_cell wr (x + 4294967296 * z) 39)
    have SIZE2:=Hd (Nat.le_trans HB.out.size (Nat.le_of_lt (alloc_lt wr (.cells #[.int .u64 (x + 4294967296 * z)] 39))))
    have H63:=Hd (show j + 1 <= maxLen by simp only [maxLen]; omega)
    clear hz hblk e hzr
    go_wp2_with (at_builtin; refine wpList_append_own _ rfl (.tmp 29) (.tmp 31) _ rfl w.heap.size 39 i0 _ 1 8 Tryz.underlying50 hi0 hz0 hz1 hz2 rfl (Nat.le_refl 1) u3 j ((Nt.lm (l.take (2 * j))).map (Value.int .u64)) rfl OWN2.out ⟨wr.heap.size,0,none⟩ 1 1 [Value.int .u64 (x + 4294967296 * z)] rfl CELLS2.out.1 CELLS2.out.2.1 CELLS2.out.2.2 H63.out (by omega) SIZE2.out ?_; intro v1 w1 hown1 hg1 _)
    have hs:=STEP.out hlt _ (by rw [HXE.out,HZ.out]; rfl) _ v1 w1 rfl hown1 hg1
    have HS:=Hd hs
    clear hs hown1 hg1
    go_roundw
    case rel=>exact ⟨j + 1,by omega,by go_num,HS.out.1,HS.out.2⟩
    case measure=>simp [intOf]; omega
   ·have hz : l[2 * j + 1]? = none:=List.getElem?_eq_none (by have:=HN.out; omega)
    have HZ:=Hd hz
    have OWN2:=Hd (HOWN.out.alloc (.cells #[.int .u64 x] 39))
    have CELLS2:=Hd (one_cell wr x 39)
    have SIZE2:=Hd (Nat.le_trans HB.out.size (Nat.le_of_lt (alloc_lt wr (.cells #[.int .u64 x] 39))))
    have H63:=Hd (show j + 1 <= maxLen by simp only [maxLen]; omega)
    clear hz
    go_wp2_with (at_builtin; refine wpList_append_own _ rfl (.tmp 29) (.tmp 31) _ rfl w.heap.size 39 i0 _ 1 8 Tryz.underlying50 hi0 hz0 hz1 hz2 rfl (Nat.le_refl 1) u3 j ((Nt.lm (l.take (2 * j))).map (Value.int .u64)) rfl OWN2.out ⟨wr.heap.size,0,none⟩ 1 1 [Value.int .u64 x] rfl CELLS2.out.1 CELLS2.out.2.1 CELLS2.out.2.2 H63.out (by omega) SIZE2.out ?_; intro v1 w1 hown1 hg1 _)
    have hs:=STEP.out hlt x (by rw [HXE.out,HZ.out]; simp) _ v1 w1 rfl hown1 hg1
    have HS:=Hd hs
    clear hs hown1 hg1
    go_roundw
    case rel=>exact ⟨j + 1,by omega,by go_num,HS.out.1,HS.out.2⟩
    case measure=>simp [intOf]; omega
  ·have hown:=HOWN.out
   rw [List.take_of_length_le (by have:=HN.out; omega)] at hown
   obtain ⟨A',c',hv3,hu3⟩:=U.of_own hown
   have HU3:=Hd hu3
   clear hu3 hown HOWN STEP
   subst hv3
   go_wp2_with fail
   refine (trim_any A' j c' (Nt.lm l) _ HU3.out (by omega) HVD.out).mono ?_
   rintro e w4 ⟨A4,c4,rfl,hu4,hb4⟩
   rw [HV.out] at hu4 ⊢
   have HU4:=Hd hu4
   have HB4:=Hd (HB.out.trans (hb4.mono HB.out.size))
   clear hu4 hb4
   go_wp2
   go_ret
   exact ⟨A4,c4,rfl,HU4.out,HB4.out⟩
end Go.Proofs.YtfpopdneokekiaaGreatDoor
namespace Go.Proofs.YtfpopdneokekiaaGreatDoor
end Go.Proofs.YtfpopdneokekiaaGreatDoor
namespace Go.Proofs.YtfpopdneokekiaaGreatDoor
open Go.RowKit
theorem digit_any (A : Option Addr) (n c : Nat) (l : List Int) (w : World) (i : Nat) (h : U w A n c l) (hl : n <= 4000000000) (hb : i < 4000000000) : Calls Tryz.prog 139 #[.slice A n c,.int .i64 i] w fun e w'=>e = .returned (.int .u64 (l[i]?.getD 0)) /\ w = w':=by
 cases hx : l[i]? with
 | some x=>exact digit_yes A n c l w i x h hl hx
 | none =>
   have : n <= i:=by rw [<- h.1]; exact List.getElem?_eq_none_iff.1 hx
   exact digit_no A n c w i this hb
namespace Nt
theorem sq_pow (n : Nat) : (18446744073709551616 : Nat) ^ n = 4294967296 ^ (2 * n):=by rw [Nat.pow_mul]
theorem val_take_succ (B : Nat) (l : List Int) (i : Nat) (hd : Dig B l) : val B (l.take (i + 1)) = val B (l.take i) + B ^ i * (l[i]?.getD 0).toNat:=by
 by_cases hi : i < l.length
 ·rw [List.take_succ_eq_append_getElem hi,val_append,List.length_take,Nat.min_eq_left (Nat.le_of_lt hi),List.getElem?_eq_getElem hi]
  simp [val]
 ·rw [List.getElem?_eq_none (by omega),List.take_of_length_le (by omega),List.take_of_length_le (by omega)]; simp
theorem dig_get {B : Nat} {l : List Int} (hB : 0 < B) (hd : Dig B l) (i : Nat) : 0 <= l[i]?.getD 0 /\ l[i]?.getD 0 < (B : Int):=by
 cases hx : l[i]? with
 | some x=>exact hd x (List.mem_of_getElem? hx)
 | none=>exact ⟨Int.le_refl _,by simpa using hB⟩
theorem val_snoc (B : Nat) (o : List Int) (x : Int) : val B (o ++ [x]) = val B o + B ^ o.length * x.toNat:=by
 rw [val_append]; simp [val]
theorem add_step (x y o : List Int) (i cy : Nat) (S : Int) (hdx : Dig 4294967296 x) (hdy : Dig 4294967296 y) (hS : S = x[i]?.getD 0 + y[i]?.getD 0 + cy) (hol : o.length = i)
  (hval : val 4294967296 o + 4294967296 ^ i * cy = val 4294967296 (x.take i) + val 4294967296 (y.take i)) :
  val 4294967296 (o ++ [S % 4294967296]) + 4294967296 ^ (i + 1) * (S / 4294967296).toNat = val 4294967296 (x.take (i + 1)) + val 4294967296 (y.take (i + 1)):=by
 have h1:=dig_get (by decide) hdx i
 have h2:=dig_get (by decide) hdy i
 rw [val_snoc,val_take_succ _ x i hdx,val_take_succ _ y i hdy,hol,Nat.pow_succ]
 generalize x[i]?.getD 0 = a at *
 generalize y[i]?.getD 0 = b at *
 have h3 : (S % 4294967296).toNat + 4294967296 * (S / 4294967296).toNat = a.toNat + b.toNat + cy:=by omega
 generalize (S % 4294967296).toNat = r at *
 generalize (S / 4294967296).toNat = q at *
 generalize a.toNat = a' at *
 generalize b.toNat = b' at *
 generalize (4294967296 : Nat) ^ i = P at *
 have h4 : P * (r + 4294967296 * q) = P * (a' + b' + cy):=by rw [h3]
 rw [Nat.mul_add,Nat.mul_add,Nat.mul_add] at h4
 rw [Nat.mul_assoc]
 omega
end Nt
set_option maxRecDepth 400000 in
set_option maxHeartbeats 2000000 in
theorem natAdd_any (A : Option Addr) (n c : Nat) (l : List Int) (A' : Option Addr) (n' c' : Nat) (l' : List Int) (w : World) (h : U w A n c l) (hl : n <= 100000000) (hd : Nt.Dig 18446744073709551616 l) (h' : U w A' n' c' l') (hl' : n' <= 100000000) (hd' : Nt.Dig 18446744073709551616 l') :
  Calls Tryz.prog 100 #[.slice A n c,.slice A' n' c'] w (NatPost (Nt.val 18446744073709551616 l + Nt.val 18446744073709551616 l') w):=by
 obtain ⟨i0,hi0,hz0,hz1,hz2⟩:=info_parts u64_info
 have len1 : (Nt.dg 4294967296 (Nt.val 18446744073709551616 l)).length <= 2 * n:=Nt.dg_len _ (by decide) _ _ (by have h9:=Nt.val_lt 18446744073709551616 (by decide) l hd; rw [h.1] at h9; rwa [Nt.sq_pow] at h9)
 have len2 : (Nt.dg 4294967296 (Nt.val 18446744073709551616 l')).length <= 2 * n':=Nt.dg_len _ (by decide) _ _ (by have h9:=Nt.val_lt 18446744073709551616 (by decide) l' hd'; rw [h'.1] at h9; rwa [Nt.sq_pow] at h9)
 have hv1:=halves_any A n c l w h (by omega) hd
 have hv2:=fun w1 (hb : Below w.heap.size w w1)=>halves_any A' n' c' l' w1 (h'.below hb) (by omega) hd'
 clear h h' hd hd'
 generalize Nt.val 18446744073709551616 l = N at *
 generalize Nt.val 18446744073709551616 l' = M at *
 have HV1:=Hd hv1
 have HV2:=Hd hv2
 clear hv1 hv2
 go_enter Tryz.func100,Tryz.ntmps100
 go_wp2_with fail
 refine HV1.out.mono ?_
 rintro e w1 ⟨A1,c1,rfl,hu,hb⟩
 have HU:=Hd hu
 have HB:=Hd hb
 clear hu hb
 go_wp2_with fail
 refine (HV2.out _ HB.out).mono ?_
 rintro e w2 ⟨A2,c2,rfl,hu,hb⟩
 have HU1:=Hd (HU.out.below hb)
 have HU2:=Hd hu
 have HB2:=Hd (HB.out.trans (hb.mono HB.out.size))
 clear hu hb HU HV1 HV2
 have HDX:=Hd (Nt.dig_dg 4294967296 (by decide) N)
 have HDY:=Hd (Nt.dig_dg 4294967296 (by decide) M)
 have HVX:=Hd (Nt.val_dg 4294967296 (by decide) N)
 have HVY:=Hd (Nt.val_dg 4294967296 (by decide) M)
 generalize Nt.dg 4294967296 N = x at *
 generalize Nt.dg 4294967296 M = y at *
 obtain ⟨p,hp⟩ : ∃ p,x.length = p:=⟨_,rfl⟩
 obtain ⟨q,hq⟩ : ∃ q,y.length = q:=⟨_,rfl⟩
 rw [hp,hq]
 rw [hp] at len1 HU1
 rw [hq] at len2 HU2
 have HP:=Hd hp
 have HQ:=Hd hq
 clear hp hq
 obtain ⟨m,hm⟩ : ∃ m,m = max p q:=⟨_,rfl⟩
 have hpm : p <= m:=by omega
 have hqm : q <= m:=by omega
 have hmb : m <= 200000000:=by omega
 clear hm len1 len2
 go_wp2_with fail
 go_loopw [7,8,9] (fun v u t wr=>∃ (i cy : Nat) (o : List Int),t = .int .i64 i /\ u = .int .u64 cy /\ cy <= 1 /\ (i <= m \/ (i = m + 1 /\ cy = 0)) /\ o.length = i /\ wr.ownsRow w2.heap.size 39 1 v i (o.map (Value.int .u64)) /\ Nt.Dig 4294967296 o /\ Nt.val 4294967296 o + 4294967296 ^ i * cy = Nt.val 4294967296 (x.take i) + Nt.val 4294967296 (y.take i) /\ Below w2.heap.size w2 wr) (fun _ _ t _=>m + 2 - (intOf t).toNat)
 case atStart=>exact ⟨0,0,[],rfl,rfl,by omega,.inl (Nat.zero_le _),rfl,⟨by simp,.inl ⟨rfl,rfl⟩⟩,(fun z hz=>by cases hz),by simp [Nt.val],Below.refl _ _⟩
 case round =>
  obtain ⟨i,cy,o,rfl,rfl,hcy,him,hol,hown,hdo,hval,hb2⟩:=hrel
  have HOL:=Hd hol
  have HOWN:=Hd hown
  have HDO:=Hd hdo
  have HVAL:=Hd hval
  have HBB:=Hd hb2
  clear hol hown hdo hval hb2
  rcases (show (i < p) \/ (¬ i < p /\ i < q) \/ (¬ i < p /\ ¬ i < q /\ 0 < cy) \/ (¬ i < p /\ ¬ i < q /\ cy = 0) from by omega) with k1 | ⟨k1,k2⟩ | ⟨k1,k2,k3⟩ | ⟨k1,k2,k3⟩
  iterate 3
   ·have him2 : i <= m:=by omega
    have r1:=Nt.dig_get (by decide) HDX.out i
    have r2:=Nt.dig_get (by decide) HDY.out i
    have HI1:=Hd (HU1.out.below HBB.out)
    have HI2:=Hd (HU2.out.below HBB.out)
    have hst:=fun S hS=>Nt.add_step x y o i cy S HDX.out HDY.out hS HOL.out HVAL.out
    have hd1:=digit_any A1 p c1 x wr i HI1.out (by omega) (by omega)
    have hd2:=digit_any A2 q c2 y wr i HI2.out (by omega) (by omega)
    have hz : i = m -> x[i]?.getD 0 = 0 /\ y[i]?.getD 0 = 0:=fun e=>by
     rw [List.getElem?_eq_none (by have:=HP.out; omega),List.getElem?_eq_none (by have:=HQ.out; omega)]; exact ⟨rfl,rfl⟩
    generalize x[i]?.getD 0 = a at *
    generalize y[i]?.getD 0 = b at *
    have HZ:=Hd hz
    clear hz
    have hs1 : IntKind.u64.wrap (a + b) = a + b:=by rw [IntKind.wrap_u64]; omega
    obtain ⟨S,hS⟩ : ∃ S : Int,S = a + b + (cy : Int):=⟨_,rfl⟩
    have hs2 : IntKind.u64.wrap (a + b + (cy : Int)) = S:=by rw [IntKind.wrap_u64]; omega
    have hst1:=hst S hS
    have hSb : 0 <= S /\ S < 8589934592:=by omega
    have hr1 : Int.tmod S 4294967296 = S % 4294967296:=Int.tmod_eq_emod_of_nonneg hSb.1
    have hr2 : IntKind.u64.wrap (Int.tdiv S 4294967296) = S / 4294967296:=by rw [IntKind.wrap_u64,Int.tdiv_eq_ediv_of_nonneg hSb.1]; omega
    have HS:=Hd hS
    have HST:=Hd hst1
    have HSB:=Hd hSb
    have HD1:=Hd hd1
    have HD2:=Hd hd2
    have OWN2:=Hd (HOWN.out.alloc (.cells #[.int .u64 (S % 4294967296)] 39))
    have CELLS2:=Hd (one_cell wr (S % 4294967296) 39)
    have SIZE2:=Hd (Nat.le_trans HBB.out.size (Nat.le_of_lt (alloc_lt wr (.cells #[.int .u64 (S % 4294967296)] 39))))
    have H63:=Hd (show i + 1 <= maxLen by simp only [maxLen]; omega)
    clear hst hst1 hSb hd1 hd2 hS r1 r2
    go_wp2_with fail
    refine HD1.out.mono ?_
    rintro e w' ⟨rfl,rfl⟩
    go_wp2_with fail
    refine HD2.out.mono ?_
    rintro e w' ⟨rfl,rfl⟩
    go_wp2_with (at_builtin; refine wpList_append_own _ rfl (.tmp 40) (.tmp 43) _ rfl w2.heap.size 39 i0 _ 1 8 Tryz.underlying50 hi0 hz0 hz1 hz2 rfl (Nat.le_refl 1) u7 i (o.map (Value.int .u64)) rfl OWN2.out ⟨wr.heap.size,0,none⟩ 1 1 [Value.int .u64 (S % 4294967296)] rfl CELLS2.out.1 CELLS2.out.2.1 CELLS2.out.2.2 H63.out (by omega) SIZE2.out ?_; intro v1 w4 hown1 hg1 _)
    have own3 : w4.ownsRow w2.heap.size 39 1 v1 (i + 1) ((o ++ [S % 4294967296]).map (Value.int .u64)):=by rw [List.map_append]; exact hown1
    have hdo3 : Nt.Dig 4294967296 (o ++ [S % 4294967296]):=HDO.out.append (Nt.Dig.one (by omega) (by omega))
    have hbb3 : Below w2.heap.size w2 w4:=((HBB.out).alloc HBB.out.size _).grown hg1 (Nat.le_trans HBB.out.size (Nat.le_of_lt (alloc_lt wr _))) (fun b hb=>(OWN2.out.lt b hb).1)
    have OWN3:=Hd own3
    have DO3:=Hd hdo3
    have BB3:=Hd hbb3
    clear own3 hdo3 hbb3 hown1 hg1
    go_wp2
    go_roundw
    case rel=>exact ⟨i + 1,(S / 4294967296).toNat,o ++ [S % 4294967296],by go_num,by have:=HSB.out; rw [Int.toNat_of_nonneg (by omega)],by have:=HSB.out; omega,(by
      have g1:=HSB.out; have g2:=HS.out
      rcases Nat.lt_or_ge i m with g3 | g3
      ·exact .inl g3
      ·obtain ⟨g4,g5⟩:=HZ.out (by omega)
       right; constructor <;> omega),by rw [List.length_append,HOL.out]; rfl,OWN3.out,DO3.out,HST.out,BB3.out⟩
    case measure=>simp [intOf]; omega
  ·subst k3
   have hv : Nt.val 4294967296 o = N + M:=by
    have h9:=HVAL.out
    rw [List.take_of_length_le (by have:=HP.out; omega),List.take_of_length_le (by have:=HQ.out; omega),HVX.out,HVY.out] at h9
    omega
   obtain ⟨A',c',hv3,hu3⟩:=U.of_own HOWN.out
   have HU3:=Hd hu3
   have HV3:=Hd hv
   clear hu3 hv HOWN
   subst hv3
   go_wp2_with fail
   refine (limbs_any A' i c' o _ HU3.out (by omega) HDO.out).mono ?_
   rintro e w4 ⟨A4,c4,rfl,hu4,hb4⟩
   rw [HV3.out] at hu4 ⊢
   have HU4:=Hd hu4
   have HB4:=Hd (HB2.out.trans ((HBB.out.trans (hb4.mono HBB.out.size)).mono HB2.out.size))
   clear hu4 hb4
   go_wp2
   go_ret
   exact ⟨A4,c4,rfl,HU4.out,HB4.out⟩
end Go.Proofs.YtfpopdneokekiaaGreatDoor
namespace Go.Proofs.YtfpopdneokekiaaGreatDoor
open Go.RowKit
namespace Nt
theorem sub_step (x y o : List Int) (i b : Nat) (S : Int) (hdx : Dig 4294967296 x) (hdy : Dig 4294967296 y) (hb : b <= 1) (hS : S = 4294967296 + x[i]?.getD 0 - y[i]?.getD 0 - b) (hol : o.length = i)
  (hval : val 4294967296 o + val 4294967296 (y.take i) = val 4294967296 (x.take i) + 4294967296 ^ i * b) :
  val 4294967296 (o ++ [S % 4294967296]) + val 4294967296 (y.take (i + 1)) = val 4294967296 (x.take (i + 1)) + 4294967296 ^ (i + 1) * (1 - S / 4294967296).toNat:=by
 have h1:=dig_get (by decide) hdx i
 have h2:=dig_get (by decide) hdy i
 rw [val_snoc,val_take_succ _ x i hdx,val_take_succ _ y i hdy,hol,Nat.pow_succ]
 generalize x[i]?.getD 0 = a at *
 generalize y[i]?.getD 0 = c at *
 have h3 : (S % 4294967296).toNat + c.toNat + b = a.toNat + 4294967296 * (1 - S / 4294967296).toNat:=by omega
 generalize (S % 4294967296).toNat = r at *
 generalize (1 - S / 4294967296).toNat = q at *
 generalize a.toNat = a' at *
 generalize c.toNat = c' at *
 generalize (4294967296 : Nat) ^ i = P at *
 have h4 : P * (r + c' + b) = P * (a' + 4294967296 * q):=by rw [h3]
 rw [Nat.mul_add,Nat.mul_add,Nat.mul_add] at h4
 rw [Nat.mul_assoc]
 omega
theorem sub_end (x y o : List Int) (p b N M : Nat) (hx : x = dg 4294967296 N) (hy : y = dg 4294967296 M) (hMN : M <= N) (hp : x.length = p) (hol : o.length = p) (hdo : Dig 4294967296 o)
  (hval : val 4294967296 o + val 4294967296 (y.take p) = val 4294967296 (x.take p) + 4294967296 ^ p * b) : val 4294967296 o = N - M:=by
 have hN : N < 4294967296 ^ p:=by
  have:=val_lt 4294967296 (by decide) x (by rw [hx]; exact dig_dg _ (by decide) N)
  rw [hp,hx,val_dg _ (by decide)] at this; exact this
 have hyl : y.length <= p:=by rw [hy]; exact dg_len _ (by decide) p M (by omega)
 rw [List.take_of_length_le hyl,List.take_of_length_le (by omega),hx,hy,val_dg _ (by decide),val_dg _ (by decide)] at hval
 have ho:=val_lt 4294967296 (by decide) o hdo
 rw [hol] at ho
 generalize (4294967296 : Nat) ^ p = P at *
 rcases b with _ | b
 ·rw [Nat.mul_zero] at hval; omega
 ·rw [Nat.mul_add,Nat.mul_one] at hval; omega
end Nt
theorem ownsRow_drewN {w : World} {base : Nat} {e : TypeId} {size : Nat} {v : Value} {n : Nat} {xs : List Value} (h : w.ownsRow base e size v n xs) (nq : Nat) : (w.drewN nq).ownsRow base e size v n xs:=h
set_option maxRecDepth 400000 in
set_option maxHeartbeats 2000000 in
theorem natSub_any (A : Option Addr) (n c : Nat) (l : List Int) (A' : Option Addr) (n' c' : Nat) (l' : List Int) (w : World) (h : U w A n c l) (hl : n <= 100000000) (hd : Nt.Dig 18446744073709551616 l) (h' : U w A' n' c' l') (hl' : n' <= 100000000) (hd' : Nt.Dig 18446744073709551616 l') (hle : Nt.val 18446744073709551616 l' <= Nt.val 18446744073709551616 l) :
  Calls Tryz.prog 102 #[.slice A n c,.slice A' n' c'] w (NatPost (Nt.val 18446744073709551616 l - Nt.val 18446744073709551616 l') w):=by
 obtain ⟨i0,hi0,hz0,hz1,hz2⟩:=info_parts u64_info
 have len1 : (Nt.dg 4294967296 (Nt.val 18446744073709551616 l)).length <= 2 * n:=Nt.dg_len _ (by decide) _ _ (by have h9:=Nt.val_lt 18446744073709551616 (by decide) l hd; rw [h.1] at h9; rwa [Nt.sq_pow] at h9)
 have len2 : (Nt.dg 4294967296 (Nt.val 18446744073709551616 l')).length <= 2 * n':=Nt.dg_len _ (by decide) _ _ (by have h9:=Nt.val_lt 18446744073709551616 (by decide) l' hd'; rw [h'.1] at h9; rwa [Nt.sq_pow] at h9)
 have hv1:=halves_any A n c l w h (by omega) hd
 have hv2:=fun w1 (hb : Below w.heap.size w w1)=>halves_any A' n' c' l' w1 (h'.below hb) (by omega) hd'
 clear h h' hd hd'
 generalize Nt.val 18446744073709551616 l = N at *
 generalize Nt.val 18446744073709551616 l' = M at *
 have HV1:=Hd hv1
 have HV2:=Hd hv2
 have HLE:=Hd hle
 clear hv1 hv2 hle
 go_enter Tryz.func102,Tryz.ntmps102
 go_wp2_with fail
 refine HV1.out.mono ?_
 rintro e w1 ⟨A1,c1,rfl,hu,hb⟩
 have HU:=Hd hu
 have HB:=Hd hb
 clear hu hb
 go_wp2_with fail
 refine (HV2.out _ HB.out).mono ?_
 rintro e w2 ⟨A2,c2,rfl,hu,hb⟩
 have HU1:=Hd (HU.out.below hb)
 have HU2:=Hd hu
 have HB2:=Hd (HB.out.trans (hb.mono HB.out.size))
 clear hu hb HU HV1 HV2
 have HDX:=Hd (Nt.dig_dg 4294967296 (by decide) N)
 have HDY:=Hd (Nt.dig_dg 4294967296 (by decide) M)
 obtain ⟨x,hx⟩ : ∃ x,x = Nt.dg 4294967296 N:=⟨_,rfl⟩
 obtain ⟨y,hy⟩ : ∃ y,y = Nt.dg 4294967296 M:=⟨_,rfl⟩
 rw [<- hx] at HDX HU1 len1 ⊢
 rw [<- hy] at HDY HU2 len2 ⊢
 have HX:=Hd hx
 have HY:=Hd hy
 clear hx hy
 obtain ⟨p,hp⟩ : ∃ p,x.length = p:=⟨_,rfl⟩
 obtain ⟨q,hq⟩ : ∃ q,y.length = q:=⟨_,rfl⟩
 rw [hp,hq]
 rw [hp] at len1 HU1
 rw [hq] at len2 HU2
 have HP:=Hd hp
 have HQ:=Hd hq
 clear hp hq
 have hpb : p <= 200000000:=by omega
 have hqb : q <= 200000000:=by omega
 clear len1 len2
 go_wp2_with fail
 go_loopw [7,8,9] (fun v u t wr=>∃ (i b : Nat) (o : List Int),t = .int .i64 i /\ u = .int .u64 b /\ b <= 1 /\ i <= p /\ o.length = i /\ wr.ownsRow w2.heap.size 39 1 v i (o.map (Value.int .u64)) /\ Nt.Dig 4294967296 o /\ Nt.val 4294967296 o + Nt.val 4294967296 (y.take i) = Nt.val 4294967296 (x.take i) + 4294967296 ^ i * b /\ Below w2.heap.size w2 wr) (fun _ _ t _=>p - (intOf t).toNat)
 case atStart=>exact ⟨0,0,[],rfl,rfl,by omega,Nat.zero_le _,rfl,⟨by simp,.inl ⟨rfl,rfl⟩⟩,(fun z hz=>by cases hz),by simp [Nt.val],Below.refl _ _⟩
 case round =>
  obtain ⟨i,b,o,rfl,rfl,hcy,him,hol,hown,hdo,hval,hb2⟩:=hrel
  have HOL:=Hd hol
  have HOWN:=Hd hown
  have HDO:=Hd hdo
  have HVAL:=Hd hval
  have HBB:=Hd hb2
  clear hol hown hdo hval hb2
  by_cases hlt : i < p
  ·have r1:=Nt.dig_get (by decide) HDX.out i
   have r2:=Nt.dig_get (by decide) HDY.out i
   have HI1:=Hd (HU1.out.below HBB.out)
   have HI2:=Hd (HU2.out.below HBB.out)
   have hst:=fun S hS=>Nt.sub_step x y o i b S HDX.out HDY.out hcy hS HOL.out HVAL.out
   have hd2:=fun nq=>Calls.quiet_of_same ((digit_any A2 q c2 y (wr.drewN nq) i (HI2.out.below (below_drewN (Below.refl _ _) nq)) (by omega) (by omega)).mono (fun _ _ he=>⟨he.1,he.2.symm⟩))
   obtain ⟨a,ha⟩ : ∃ a,x[i]? = some a:=⟨_,List.getElem?_eq_getElem (by have:=HP.out; omega)⟩
   obtain ⟨ad,rfl,_,hc⟩:=HI1.out.2.2.2 i a ha
   rw [ha] at r1 hst
   simp only [Option.getD_some] at r1 hst
   clear ha
   generalize y[i]?.getD 0 = d at *
   have hs1 : IntKind.u64.wrap (4294967296 + a) = 4294967296 + a:=by rw [IntKind.wrap_u64]; omega
   have hs3 : IntKind.u64.wrap (4294967296 + a - d) = 4294967296 + a - d:=by rw [IntKind.wrap_u64]; omega
   obtain ⟨S,hS⟩ : ∃ S : Int,S = 4294967296 + a - d - (b : Int):=⟨_,rfl⟩
   have hs2 : IntKind.u64.wrap (4294967296 + a - d - (b : Int)) = S:=by rw [IntKind.wrap_u64]; omega
   have hst1:=hst S hS
   have hSb : 0 <= S /\ S < 8589934592:=by omega
   have hr1 : Int.tmod S 4294967296 = S % 4294967296:=Int.tmod_eq_emod_of_nonneg hSb.1
   have hr2 : IntKind.u64.wrap (Int.tdiv S 4294967296) = S / 4294967296:=by rw [IntKind.wrap_u64,Int.tdiv_eq_ediv_of_nonneg hSb.1]; omega
   have hr3 : IntKind.u64.wrap (1 - S / 4294967296) = 1 - S / 4294967296:=by rw [IntKind.wrap_u64]; omega
   have HS:=Hd hS
   have HST:=Hd hst1
   have HSB:=Hd hSb
   have HD2:=Hd hd2
   have OWN2 : Hid (∀ nq,((wr.drewN nq).alloc (.cells #[.int .u64 (S % 4294967296)] 39)).ownsRow w2.heap.size 39 1 u7 i (o.map (Value.int .u64))):=Hd (fun nq=>ownsRow_drewN HOWN.out nq |>.alloc _)
   have CELLS2:=Hd (fun nq=>one_cell (wr.drewN nq) (S % 4294967296) 39)
   have SIZE2 : Hid (∀ nq,w2.heap.size <= ((wr.drewN nq).alloc (.cells #[.int .u64 (S % 4294967296)] 39)).heap.size):=Hd (fun nq=>Nat.le_trans (below_drewN HBB.out nq).size (Nat.le_of_lt (alloc_lt (wr.drewN nq) (.cells #[.int .u64 (S % 4294967296)] 39))))
   have H63:=Hd (show i + 1 <= maxLen by simp only [maxLen]; omega)
   clear hst hst1 hSb hd2 hS r1 r2
   go_wp2_with fail
   go_quiet ((go_at_call 139; exact HD2.out _))
   rename_i nq
   go_wp2_with (at_builtin; refine wpList_append_own _ rfl (.tmp 32) (.tmp 35) _ rfl w2.heap.size 39 i0 _ 1 8 Tryz.underlying50 hi0 hz0 hz1 hz2 rfl (Nat.le_refl 1) u7 i (o.map (Value.int .u64)) rfl (OWN2.out nq) ⟨wr.heap.size,0,none⟩ 1 1 [Value.int .u64 (S % 4294967296)] rfl (CELLS2.out nq).1 (CELLS2.out nq).2.1 (CELLS2.out nq).2.2 H63.out (by omega) (SIZE2.out nq) ?_; intro v1 w4 hown1 hg1 _)
   have own3 : w4.ownsRow w2.heap.size 39 1 v1 (i + 1) ((o ++ [S % 4294967296]).map (Value.int .u64)):=by rw [List.map_append]; exact hown1
   have hdo3 : Nt.Dig 4294967296 (o ++ [S % 4294967296]):=HDO.out.append (Nt.Dig.one (by omega) (by omega))
   have hbb3 : Below w2.heap.size w2 w4:=((below_drewN HBB.out nq).alloc HBB.out.size _).grown hg1 (SIZE2.out nq) (fun b hb=>((OWN2.out 0).lt b hb).1)
   have OWN3:=Hd own3
   have DO3:=Hd hdo3
   have BB3:=Hd hbb3
   clear own3 hdo3 hbb3 hown1 hg1
   go_wp2
   go_roundw
   case rel=>exact ⟨i + 1,(1 - S / 4294967296).toNat,o ++ [S % 4294967296],by go_num,by have:=HSB.out; rw [Int.toNat_of_nonneg (by omega)],by have:=HSB.out; omega,by omega,by rw [List.length_append,HOL.out]; rfl,OWN3.out,DO3.out,HST.out,BB3.out⟩
   case measure=>simp [intOf]; omega
  ·have hip : i = p:=by omega
   have hv:=Nt.sub_end x y o i b N M HX.out HY.out HLE.out (by rw [HP.out,hip]) HOL.out HDO.out HVAL.out
   clear hip
   obtain ⟨A',c',hv3,hu3⟩:=U.of_own HOWN.out
   have HU3:=Hd hu3
   have HV3:=Hd hv
   clear hu3 hv HOWN
   subst hv3
   go_wp2_with fail
   refine (limbs_any A' i c' o _ HU3.out (by omega) HDO.out).mono ?_
   rintro e w4 ⟨A4,c4,rfl,hu4,hb4⟩
   rw [HV3.out] at hu4 ⊢
   have HU4:=Hd hu4
   have HB4:=Hd (HB2.out.trans ((HBB.out.trans (hb4.mono HBB.out.size)).mono HB2.out.size))
   clear hu4 hb4
   go_wp2
   go_ret
   exact ⟨A4,c4,rfl,HU4.out,HB4.out⟩
end Go.Proofs.YtfpopdneokekiaaGreatDoor
namespace Go.Proofs.YtfpopdneokekiaaGreatDoor
end Go.Proofs.YtfpopdneokekiaaGreatDoor
namespace Go.Proofs.YtfpopdneokekiaaGreatDoor
open Go.RowKit
namespace Nt
theorem val_set (B : Nat) : ∀ (l : List Int) (j : Nat) (v u : Int),l[j]? = some u -> val B (l.set j v) + B ^ j * u.toNat = val B l + B ^ j * v.toNat
 | [],_,_,_,h=>by simp at h
 | x :: l,0,v,u,h=>by
   simp at h; subst h
   simp [val]; omega
 | x :: l,j + 1,v,u,h=>by
   have ih:=val_set B l j v u (by simpa using h)
   simp only [List.set_cons_succ,val,Nat.pow_succ]
   have e : B * (val B (l.set j v) + B ^ j * u.toNat) = B * (val B l + B ^ j * v.toNat):=by rw [ih]
   rw [Nat.mul_add,Nat.mul_add] at e
   rw [Nat.mul_comm (B ^ j) B,Nat.mul_assoc,Nat.mul_assoc]
   omega
theorem Dig.set {B : Nat} {l : List Int} (h : Dig B l) (j : Nat) (v : Int) (h0 : 0 <= v) (h1 : v < (B : Int)) : Dig B (l.set j v):=by
 intro x hx
 rcases List.mem_or_eq_of_mem_set hx with hx | rfl
 ·exact h x hx
 ·exact ⟨h0,h1⟩
theorem mul_step (x y o o1 : List Int) (i k cy : Nat) (a b u S : Int) (ha : x[i]? = some a) (hb : y[k]? = some b) (hu : o1[i + k]? = some u) (hdy : Dig 4294967296 y)
  (ha0 : 0 <= a) (hb0 : 0 <= b) (hu0 : 0 <= u) (hS : S = a * b + u + cy)
  (hval : val 4294967296 o1 + 4294967296 ^ (i + k) * cy = val 4294967296 o + a.toNat * 4294967296 ^ i * val 4294967296 (y.take k)) :
  val 4294967296 (o1.set (i + k) (S % 4294967296)) + 4294967296 ^ (i + (k + 1)) * (S / 4294967296).toNat = val 4294967296 o + a.toNat * 4294967296 ^ i * val 4294967296 (y.take (k + 1)):=by
 have h1:=val_set 4294967296 o1 (i + k) (S % 4294967296) u hu
 have hyk : y[k]?.getD 0 = b:=by rw [hb]; rfl
 rw [val_take_succ _ y k hdy,hyk]
 have hS0 : 0 <= S:=by have:=Int.mul_nonneg ha0 hb0; omega
 have h3 : (S % 4294967296).toNat + 4294967296 * (S / 4294967296).toNat = a.toNat * b.toNat + u.toNat + cy:=by
  have e : (a.toNat * b.toNat : Int) = a * b:=by rw [Int.toNat_of_nonneg ha0,Int.toNat_of_nonneg hb0]
  have e2 : ((a.toNat * b.toNat : Nat) : Int) = a * b:=by rw [<- e]; simp
  generalize a.toNat * b.toNat = p at *
  generalize a * b = q at *
  omega
 rw [show i + (k + 1) = (i + k) + 1 by omega,Nat.pow_succ]
 have e5 : (4294967296 : Nat) ^ (i + k) = 4294967296 ^ i * 4294967296 ^ k:=Nat.pow_add _ _ _
 generalize (S % 4294967296).toNat = r at *
 generalize (S / 4294967296).toNat = q at *
 generalize a.toNat = a' at *
 generalize b.toNat = b' at *
 generalize u.toNat = u' at *
 generalize val 4294967296 (o1.set (i + k) (S % 4294967296)) = V at *
 rw [e5] at *
 generalize (4294967296 : Nat) ^ i = P at *
 generalize (4294967296 : Nat) ^ k = Q at *
 generalize val 4294967296 (y.take k) = Y at *
 have h4 : P * Q * (r + 4294967296 * q) = P * Q * (a' * b' + u' + cy):=by rw [h3]
 grind
end Nt
def Row (w : World) (base g n : Nat) (o : List Int) : Prop:=w.ownsRow base 39 1 (.slice (some ⟨g,0,none⟩) n n) n (o.map (Value.int .u64))
theorem Row.len {w : World} {base g n : Nat} {o : List Int} (h : Row w base g n o) : o.length = n:=by have:=h.1; simpa using this
theorem Row.cell {w : World} {base g n : Nat} {o : List Int} (h : Row w base g n o) (j : Nat) (u : Int) (hj : o[j]? = some u) : w.cell? ⟨g,j,none⟩ = some (.int .u64 u):=by
 have hl : j < n:=by rw [<- h.len]; exact (List.getElem?_eq_some_iff.1 hj).1
 rw [World.ownsRow.cellAt h j (by omega),List.getElem?_map,hj]; rfl
theorem Row.free {w : World} {base g n : Nat} {o : List Int} (h : Row w base g n o) (j : Nat) : w.frozen? ⟨g,j,none⟩ = false:=World.ownsRow.frozenAt h j
theorem Row.set {w : World} {base g n : Nat} {o : List Int} (h : Row w base g n o) (j : Nat) (v : Int) : Row (w.setCell ⟨g,j,none⟩ (.int .u64 v)) base g n (o.set j v):=by
 have:=(World.ownsRow.stored h j (.int .u64 v)).1
 rw [<- List.map_set] at this
 exact this
theorem Row.drewN {w : World} {base g n : Nat} {o : List Int} (h : Row w base g n o) (m : Nat) : Row (w.drewN m) base g n o:=h
theorem Row.made {w : World} {base n m : Nat} (h : w.ownsRow base 39 1 (.slice (some ⟨m,0,none⟩) n n) n (madeCells (Value.int .u64 0).cells (n * 1)).toList) : Row w base m n (List.replicate n 0):=by
 have e : (madeCells (Value.int .u64 0).cells (n * 1)).toList = (List.replicate n (0 : Int)).map (Value.int .u64):=by
  rw [show (Value.int .u64 0).cells = #[Value.int .u64 0] from rfl,toList_madeCells_one,Nat.mul_one,List.map_replicate]
 rw [e] at h; exact h
set_option maxRecDepth 400000 in
set_option maxHeartbeats 4000000 in
theorem product_any (A : Option Addr) (n c : Nat) (x : List Int) (A' : Option Addr) (n' c' : Nat) (y : List Int) (w : World) (h : U w A n c x) (hl : n <= 200000000) (hd : Nt.Dig 4294967296 x) (h' : U w A' n' c' y) (hl' : n' <= 200000000) (hd' : Nt.Dig 4294967296 y) :
  Calls Tryz.prog 140 #[.slice A n c,.slice A' n' c'] w (HPost (Nt.val 4294967296 x * Nt.val 4294967296 y) w):=by
 obtain ⟨i0,hi0,hz0,hz1,hz2⟩:=info_parts u64_info
 have HX:=Hd h
 have HY:=Hd h'
 have HDX:=Hd hd
 have HDY:=Hd hd'
 have HP:=Hd h.1
 have HQ:=Hd h'.1
 clear h h' hd hd'
 go_enter Tryz.func140,Tryz.ntmps140
 go_wp2_with (refine wpList_make_full _ rfl (.tmp 14) (.tmp 14) 50 rfl w.heap.size 39 i0 _ 1 Tryz.underlying50 hi0 hz0 hz1 .i64 .i64 _ _ (n + n') rfl rfl (by omega) (by omega) (by rw [hz2]; omega) (by simp only [maxLen]; omega) (Nat.le_refl _) ?_; intro w1 hown1 hg1)
 have ROW:=Hd (Row.made hown1)
 have HB:=Hd ((Below.refl w.heap.size w).grown hg1 (Nat.le_refl _) (fun k hk=>by cases hk))
 clear hown1 hg1
 go_wp2_with fail
 go_loopw [6] (fun t wr=>∃ (i : Nat) (o : List Int),t = .int .i64 i /\ i <= n /\ Row wr w.heap.size w.heap.size (n + n') o /\ Nt.Dig 4294967296 o /\ Nt.val 4294967296 o = Nt.val 4294967296 (x.take i) * Nt.val 4294967296 y /\ (∀ j u,i + n' <= j -> o[j]? = some u -> u = 0) /\ Below w.heap.size w wr) (fun t _=>n - (intOf t).toNat)
 case atStart=>exact ⟨0,List.replicate (n + n') 0,rfl,Nat.zero_le _,ROW.out,(fun z hz=>by rw [(List.mem_replicate.1 hz).2]; decide),by rw [Nt.val_zeros _ _ (fun z hz=>(List.mem_replicate.1 hz).2)]; simp [Nt.val],(fun j u _ hu=>(List.mem_replicate.1 (List.mem_of_getElem? hu)).2),HB.out⟩
 case round =>
  clear ROW HB
  obtain ⟨i,o,rfl,him,hrow,hdo,hval,hz,hb⟩:=hrel
  obtain ⟨wo,rfl⟩ : ∃ wo : World,wo = wr:=⟨_,rfl⟩
  have ROW:=Hd hrow
  have HDO:=Hd hdo
  have HVAL:=Hd hval
  have HZ:=Hd hz
  have HB:=Hd hb
  clear hrow hdo hval hz hb
  by_cases hlt : i < n
  ·obtain ⟨a,ha⟩ : ∃ a,x[i]? = some a:=⟨_,List.getElem?_eq_getElem (by have:=HP.out; omega)⟩
   have HA:=Hd ha
   clear ha
   go_wp2_with fail
   go_loopw [7,8] (fun cv kv wr=>∃ (k cy : Nat) (o1 : List Int),kv = .int .i64 k /\ cv = .int .u64 cy /\ k <= n' /\ cy < 4294967296 /\ Row wr w.heap.size w.heap.size (n + n') o1 /\ Nt.Dig 4294967296 o1 /\ Nt.val 4294967296 o1 + 4294967296 ^ (i + k) * cy = Nt.val 4294967296 o + a.toNat * 4294967296 ^ i * Nt.val 4294967296 (y.take k) /\ (∀ j u,i + k <= j -> o1[j]? = some u -> o[j]? = some u) /\ Below w.heap.size w wr) (fun _ kv _=>n' - (intOf kv).toNat)
   case atStart=>exact ⟨0,0,o,rfl,rfl,Nat.zero_le _,by decide,ROW.out,HDO.out,by simp [Nt.val],(fun j u _ hu=>hu),HB.out⟩
   case round =>
    obtain ⟨k,cy,o1,rfl,rfl,hkm,hcy,hrow1,hdo1,hval1,hz1',hb1⟩:=hrel
    have ROW1:=Hd hrow1
    have HDO1:=Hd hdo1
    have HVAL1:=Hd hval1
    have HZ1:=Hd hz1'
    have HB1:=Hd hb1
    clear hrow1 hdo1 hval1 hz1' hb1
    by_cases hk : k < n'
    ·obtain ⟨b,hb⟩ : ∃ b,y[k]? = some b:=⟨_,List.getElem?_eq_getElem (by have:=HQ.out; omega)⟩
     obtain ⟨u,hu⟩ : ∃ u,o1[i + k]? = some u:=⟨_,List.getElem?_eq_getElem (by have:=ROW1.out.len; omega)⟩
     obtain ⟨ad1,rfl,_,hc1⟩:=(HX.out.below HB1.out).2.2.2 i a HA.out
     obtain ⟨ad2,rfl,_,hc2⟩:=(HY.out.below HB1.out).2.2.2 k b hb
     have hc3:=ROW1.out.cell (i + k) u hu
     have hfr:=ROW1.out.free (i + k)
     have ra:=HDX.out a (List.mem_of_getElem? HA.out)
     have rb:=HDY.out b (List.mem_of_getElem? hb)
     have ru:=HDO1.out u (List.mem_of_getElem? hu)
     have hab : 0 <= a * b /\ a * b <= 18446744065119617025:=by
      refine ⟨Int.mul_nonneg ra.1 rb.1,?_⟩
      have:=Int.mul_le_mul (show a <= 4294967295 by omega) (show b <= 4294967295 by omega) rb.1 (by decide)
      omega
     obtain ⟨S,hS⟩ : ∃ S : Int,S = a * b + u + (cy : Int):=⟨_,rfl⟩
     have hst:=Nt.mul_step x y o o1 i k cy a b u S HA.out hb hu HDY.out ra.1 rb.1 ru.1 hS HVAL1.out
     have hs1 : IntKind.u64.wrap (a * b) = a * b:=by rw [IntKind.wrap_u64]; omega
     have hs2 : IntKind.u64.wrap (a * b + u) = a * b + u:=by rw [IntKind.wrap_u64]; omega
     have hs3 : IntKind.u64.wrap (a * b + u + (cy : Int)) = S:=by rw [IntKind.wrap_u64]; omega
     have hSb : 0 <= S /\ S < 18446744073709551616:=by omega
     have hr1 : Int.tmod S 4294967296 = S % 4294967296:=Int.tmod_eq_emod_of_nonneg hSb.1
     have hr2 : IntKind.u64.wrap (Int.tdiv S 4294967296) = S / 4294967296:=by rw [IntKind.wrap_u64,Int.tdiv_eq_ediv_of_nonneg hSb.1]; omega
     have HST:=Hd hst
     have HSB:=Hd hSb
     clear hst hSb hS hb hu ra rb ru hab
     go_wp2_with fail
     go_quiet (fail)
     go_wp2_with fail
     rename_i nq _
     have HR2:=Hd ((ROW1.out.drewN nq).set (i + k) (S % 4294967296))
     have HB2:=Hd ((below_drewN HB1.out nq).setCell (p:=⟨w.heap.size,i + k,none⟩) (Nat.le_refl _) (Value.int IntKind.u64 (S % 4294967296)))
     refine ⟨⟨k + 1,(S / 4294967296).toNat,o1.set (i + k) (S % 4294967296),by go_num,by have:=HSB.out; rw [Int.toNat_of_nonneg (by omega)],hk,by have:=HSB.out; omega,HR2.out,HDO1.out.set _ _ (by omega) (by omega),HST.out,(fun j u hj hu=>?_),HB2.out⟩,by simp [intOf]; omega⟩
     rw [List.getElem?_set_ne (by omega)] at hu
     exact HZ1.out j u (by omega) hu
    ·have hkn : k = n':=by omega
     subst hkn
     obtain ⟨u,hu⟩ : ∃ u,o1[i + k]? = some u:=⟨_,List.getElem?_eq_getElem (by have:=ROW1.out.len; omega)⟩
     have hu0 : u = 0:=HZ.out (i + k) u (Nat.le_refl _) (HZ1.out _ _ (Nat.le_refl _) hu)
     subst hu0
     have hc3:=ROW1.out.cell (i + k) 0 hu
     have hfr:=ROW1.out.free (i + k)
     have hfin : Nt.val 4294967296 (o1.set (i + k) (cy : Int)) = Nt.val 4294967296 (x.take (i + 1)) * Nt.val 4294967296 y:=by
      have h1:=Nt.val_set 4294967296 o1 (i + k) (cy : Int) 0 hu
      have h2:=HVAL1.out
      rw [List.take_of_length_le (by have:=HQ.out; omega)] at h2
      rw [Nt.val_take_succ _ x i HDX.out,HA.out,Nat.add_mul,<- HVAL.out]
      simp only [Option.getD_some]
      rw [Int.toNat_natCast,Int.toNat_zero,Nat.mul_zero,Nat.add_zero] at h1
      rw [h1,h2,Nat.mul_comm a.toNat]
     have HFIN:=Hd hfin
     clear hu hfin
     go_wp2_with fail
     have HR2:=Hd (ROW1.out.set (i + k) (cy : Int))
     have HB2:=Hd (HB1.out.setCell (p:=⟨w.heap.size,i + k,none⟩) (Nat.le_refl _) (Value.int IntKind.u64 (cy : Int)))
     refine ⟨⟨i + 1,o1.set (i + k) (cy : Int),by go_num,hlt,HR2.out,HDO1.out.set _ _ (by omega) (by omega),HFIN.out,(fun j u hj hu=>?_),HB2.out⟩,by simp [intOf]; omega⟩
     rw [List.getElem?_set_ne (by omega)] at hu
     exact HZ.out j u (by omega) (HZ1.out j u (by omega) hu)
  ·have hin : i = n:=by omega
   subst hin
   have hv:=HVAL.out
   rw [List.take_of_length_le (Nat.le_of_eq HP.out)] at hv
   have HV:=Hd hv
   obtain ⟨A3,c3,e3,hu3⟩:=U.of_own ROW.out
   injection e3 with e4 e5 e6
   subst e4
   subst e6
   have HU3:=Hd hu3
   clear hv hu3 e5
   go_wp2_with fail
   refine (low_any _ _ _ o _ HU3.out (by omega) HDO.out).mono ?_
   rintro e w4 ⟨rfl,hu4,rfl⟩
   rw [HV.out] at hu4 ⊢
   have HU4:=Hd hu4
   clear hu4
   go_wp2
   go_ret
   exact ⟨_,_,rfl,HU4.out,HB.out⟩
namespace Nt
theorem dg32_len (l : List Int) (n : Nat) (hn : l.length = n) (hd : Dig 18446744073709551616 l) : (dg 4294967296 (val 18446744073709551616 l)).length <= 2 * n :=
 dg_len _ (by decide) _ _ (by have h9:=val_lt 18446744073709551616 (by decide) l hd; rw [hn] at h9; rwa [sq_pow] at h9)
end Nt
set_option maxRecDepth 400000 in
theorem natMul_any (A : Option Addr) (n c : Nat) (l : List Int) (A' : Option Addr) (n' c' : Nat) (l' : List Int) (w : World) (h : U w A n c l) (hl : n <= 100000000) (hd : Nt.Dig 18446744073709551616 l) (h' : U w A' n' c' l') (hl' : n' <= 100000000) (hd' : Nt.Dig 18446744073709551616 l') :
  Calls Tryz.prog 103 #[.slice A n c,.slice A' n' c'] w (NatPost (Nt.val 18446744073709551616 l * Nt.val 18446744073709551616 l') w):=by
 have len1:=Nt.dg32_len l n h.1 hd
 have len2:=Nt.dg32_len l' n' h'.1 hd'
 have HV1:=Hd (halves_any A n c l w h (by omega) hd)
 have HV2:=Hd (fun w1 (hb : Below w.heap.size w w1)=>halves_any A' n' c' l' w1 (h'.below hb) (by omega) hd')
 clear h h' hd hd'
 generalize Nt.val 18446744073709551616 l = N at *
 generalize Nt.val 18446744073709551616 l' = M at *
 go_enter Tryz.func103,Tryz.ntmps103
 go_wp2_with fail
 refine HV1.out.mono ?_
 rintro e w1 ⟨A1,c1,rfl,hu,hb⟩
 have HU:=Hd hu
 have HB:=Hd hb
 clear hu hb
 go_wp2_with fail
 refine (HV2.out _ HB.out).mono ?_
 rintro e w2 ⟨A2,c2,rfl,hu,hb⟩
 have HU1:=Hd (HU.out.below hb)
 have HU2:=Hd hu
 have HB2:=Hd (HB.out.trans (hb.mono HB.out.size))
 clear hu hb HU HV1 HV2
 go_wp2_with fail
 refine (product_any _ _ _ _ _ _ _ _ _ HU1.out (by omega) (Nt.dig_dg 4294967296 (by decide) N) HU2.out (by omega) (Nt.dig_dg 4294967296 (by decide) M)).mono ?_
 rintro e w3 ⟨A3,c3,rfl,hu,hb⟩
 rw [Nt.val_dg _ (by decide),Nt.val_dg _ (by decide)] at hu ⊢
 have len3 : (Nt.dg 4294967296 (N * M)).length <= 2 * n + 2 * n':=by
  refine Nt.dg_len _ (by decide) _ _ ?_
  have e1:=Nt.val_lt 4294967296 (by decide) _ (Nt.dig_dg 4294967296 (by decide) N)
  have e2:=Nt.val_lt 4294967296 (by decide) _ (Nt.dig_dg 4294967296 (by decide) M)
  rw [Nt.val_dg _ (by decide)] at e1 e2
  have e3 : N * M < 4294967296 ^ (Nt.dg 4294967296 N).length * 4294967296 ^ (Nt.dg 4294967296 M).length:=Nat.mul_lt_mul'' e1 e2
  rw [<- Nat.pow_add] at e3
  exact Nat.lt_of_lt_of_le e3 (Nat.pow_le_pow_right (by decide) (by omega))
 have HU3:=Hd hu
 have HB3:=Hd (HB2.out.trans (hb.mono HB2.out.size))
 clear hu hb
 go_wp2_with fail
 refine (limbs_any _ _ _ _ _ HU3.out (by omega) (Nt.dig_dg 4294967296 (by decide) (N * M))).mono ?_
 rintro e w4 ⟨A4,c4,rfl,hu,hb⟩
 rw [Nt.val_dg _ (by decide)] at hu ⊢
 have HU4:=Hd hu
 have HB4:=Hd (HB3.out.trans (hb.mono HB3.out.size))
 clear hu hb
 go_wp2
 go_ret
 exact ⟨A4,c4,rfl,HU4.out,HB4.out⟩
end Go.Proofs.YtfpopdneokekiaaGreatDoor
namespace Go.Proofs.YtfpopdneokekiaaGreatDoor
open Go.RowKit
namespace Nt
theorem up_step (x o : List Int) (i m cy Y : Nat) (a S : Int) (ha : x[i]? = some a) (hd : Dig 4294967296 x) (ha0 : 0 <= a) (hol : o.length = m + i) (hS : S = a * Y + cy)
  (hval : val 4294967296 o + 4294967296 ^ (m + i) * cy = 4294967296 ^ m * (Y * val 4294967296 (x.take i))) :
  val 4294967296 (o ++ [S % 4294967296]) + 4294967296 ^ (m + (i + 1)) * (S / 4294967296).toNat = 4294967296 ^ m * (Y * val 4294967296 (x.take (i + 1))):=by
 have hxi : x[i]?.getD 0 = a:=by rw [ha]; rfl
 rw [val_snoc,val_take_succ _ x i hd,hxi,hol,show m + (i + 1) = (m + i) + 1 by omega,Nat.pow_succ]
 have hS0 : 0 <= S:=by have:=Int.mul_nonneg ha0 (Int.natCast_nonneg Y); omega
 have h3 : (S % 4294967296).toNat + 4294967296 * (S / 4294967296).toNat = a.toNat * Y + cy:=by
  have e : ((a.toNat * Y : Nat) : Int) = a * Y:=by simp [Int.toNat_of_nonneg ha0]
  generalize a.toNat * Y = p at *
  generalize a * (Y : Int) = q at *
  omega
 have e5 : (4294967296 : Nat) ^ (m + i) = 4294967296 ^ m * 4294967296 ^ i:=Nat.pow_add _ _ _
 generalize (S % 4294967296).toNat = r at *
 generalize (S / 4294967296).toNat = q at *
 generalize a.toNat = a' at *
 rw [e5] at hval ⊢
 generalize (4294967296 : Nat) ^ i = P at *
 generalize (4294967296 : Nat) ^ m = Q at *
 have h4 : Q * P * (r + 4294967296 * q) = Q * P * (a' * Y + cy):=by rw [h3]
 have e1 : Q * (Y * (P * a')) = Q * P * (a' * Y):=by ac_rfl
 rw [Nat.mul_add,Nat.mul_add] at h4
 rw [Nat.mul_add,Nat.mul_add,e1,Nat.mul_assoc (Q * P)]
 omega
end Nt
set_option maxRecDepth 400000 in
set_option maxHeartbeats 4000000 in
theorem natUp_any (A : Option Addr) (n c : Nat) (l : List Int) (m : Nat) (w : World) (h : U w A n c l) (hl : n <= 100000000) (hd : Nt.Dig 18446744073709551616 l) (hm : m <= 1000000000) :
  Calls Tryz.prog 53 #[.slice A n c,.int .i64 m] w (NatPost (Nt.val 18446744073709551616 l * 2 ^ m) w):=by
 obtain ⟨i0,hi0,hz0,hz1,hz2⟩:=info_parts u64_info
 have len1:=Nt.dg32_len l n h.1 hd
 have HV1:=Hd (halves_any A n c l w h (by omega) hd)
 clear h hd
 generalize Nt.val 18446744073709551616 l = N at *
 by_cases hN : N = 0
 ·subst hN
  go_enter Tryz.func53,Tryz.ntmps53
  go_wp2_with fail
  refine HV1.out.mono ?_
  rintro e w1 ⟨A1,c1,rfl,hu,hb⟩
  rw [Nt.dg_zero] at hu ⊢
  have HB:=Hd hb
  clear hu hb
  go_wp2
  go_ret
  unfold NatPost
  rw [Nat.zero_mul,Nt.dg_zero]
  exact ⟨none,0,rfl,⟨rfl,Nat.le_refl _,fun _=>rfl,fun k x hk=>by simp at hk⟩,HB.out⟩
 ·go_enter Tryz.func53,Tryz.ntmps53
  go_wp2_with fail
  refine HV1.out.mono ?_
  rintro e w1 ⟨A1,c1,rfl,hu,hb⟩
  have HU:=Hd hu
  have HB:=Hd hb
  clear hu hb HV1
  have HDX:=Hd (Nt.dig_dg 4294967296 (by decide) N)
  have HVX:=Hd (Nt.val_dg 4294967296 (by decide) N)
  have hne : (Nt.dg 4294967296 N).length ≠ 0:=by rw [Nt.dg_pos _ _ (by decide) hN]; simp
  generalize Nt.dg 4294967296 N = x at *
  obtain ⟨p,hp⟩ : ∃ p,x.length = p:=⟨_,rfl⟩
  rw [hp] at len1 HU hne ⊢
  have HP:=Hd hp
  have hpn : 0 < p:=by omega
  have hpz : ((p : Int) == 0) = false:=by simp; omega
  obtain ⟨q,hq⟩ : ∃ q,q = m / 32:=⟨_,rfl⟩
  obtain ⟨r,hr⟩ : ∃ r,r = m % 32:=⟨_,rfl⟩
  have HQI:=Hd (show (m : Int) / 32 = (q : Int) by omega)
  have hqb : q <= 31250000:=by omega
  have hrb : r < 32:=by omega
  have HR:=Hd hr
  have HQR:=Hd (show m = 32 * q + r by omega)
  clear hp hN hq hr hne
  go_wp2_with (refine wpList_make_full _ rfl (.tmp 18) (.tmp 18) 50 rfl w1.heap.size 39 i0 _ 1 Tryz.underlying50 hi0 hz0 hz1 .i64 .i64 _ _ q rfl rfl HQI.out HQI.out (by rw [hz2]; omega) (by simp only [maxLen]; omega) (Nat.le_refl _) ?_; intro w2 hown1 hg1)
  have hrow:=Row.made hown1
  have HB2:=Hd ((Below.refl w1.heap.size w1).grown hg1 (Nat.le_refl _) (fun k hk=>by cases hk))
  clear hown1 hg1
  unfold Row at hrow
  have HOWN0:=Hd hrow
  clear hrow
  obtain ⟨v0,hv0⟩ : ∃ v0,v0 = Value.slice (some ⟨w1.heap.size,0,none⟩) q q:=⟨_,rfl⟩
  rw [<- hv0] at HOWN0
  have HV0:=Hd hv0
  clear hv0
  go_loop [8,9] (fun b t=>∃ j : Nat,j <= r /\ t = .int .i64 j /\ b = .int .u64 ((2 ^ j : Nat) : Int)) (fun _ t=>r - (intOf t).toNat)
  case atStart=>exact ⟨0,Nat.zero_le _,rfl,rfl⟩
  case round =>
   obtain ⟨j,hj,rfl,rfl⟩:=hrel
   by_cases hlt : j < r
   ·have h1 : (j : Int) < (m : Int) % 32:=by have:=HR.out; omega
    have hp2 : 2 ^ j <= 2147483648:=Nat.le_trans (Nat.pow_le_pow_right (n:=2) (by decide) (show _ <= 31 by omega)) (by decide)
    have HE:=Hd (show 2 * 2 ^ j = 2 ^ (j + 1) by rw [Nat.pow_succ]; omega)
    generalize 2 ^ j = Y at *
    go_wp2
    go_round
    case rel=>exact ⟨j + 1,hlt,by go_num,by rw [<- HE.out]; go_num⟩
    case measure=>simp [intOf]; omega
   ·have h1 : ¬ (j : Int) < (m : Int) % 32:=by have:=HR.out; omega
    have hjr : j = r:=by omega
    subst hjr
    have hp2 : 2 ^ j <= 2147483648:=Nat.le_trans (Nat.pow_le_pow_right (n:=2) (by decide) (show _ <= 31 by omega)) (by decide)
    obtain ⟨Y,hY⟩ : ∃ Y,2 ^ j = Y:=⟨_,rfl⟩
    rw [hY] at hp2 ⊢
    have HY:=Hd hY
    have hY0 : 0 < Y:=by rw [<- hY]; exact Nat.two_pow_pos _
    clear hY
    go_wp2_with fail
    go_loopw [6,7,10] (fun v u t wr=>∃ (i cy : Nat) (o : List Int),t = .int .i64 i /\ u = .int .u64 cy /\ i <= p /\ cy < Y /\ o.length = q + i /\ wr.ownsRow w1.heap.size 39 1 v (q + i) (o.map (Value.int .u64)) /\ Nt.Dig 4294967296 o /\ Nt.val 4294967296 o + 4294967296 ^ (q + i) * cy = 4294967296 ^ q * (Y * Nt.val 4294967296 (x.take i)) /\ Below w1.heap.size w1 wr) (fun _ _ t _=>p - (intOf t).toNat)
    case atStart=>exact ⟨0,0,List.replicate q 0,rfl,rfl,Nat.zero_le _,hY0,by simp,by rw [<- HV0.out]; exact HOWN0.out,(fun z hz=>by rw [(List.mem_replicate.1 hz).2]; decide),by rw [Nt.val_zeros _ _ (fun z hz=>(List.mem_replicate.1 hz).2)]; simp [Nt.val],HB2.out⟩
    case round =>
     obtain ⟨i,cy,o,rfl,rfl,hip,hcy,hol,hown,hdo,hval,hb⟩:=hrel
     have HOL:=Hd hol
     have HOWN:=Hd hown
     have HDO:=Hd hdo
     have HVAL:=Hd hval
     have HBB:=Hd hb
     clear hol hown hdo hval hb
     by_cases hi : i < p
     ·obtain ⟨a,ha⟩ : ∃ a,x[i]? = some a:=⟨_,List.getElem?_eq_getElem (by have:=HP.out; omega)⟩
      obtain ⟨ad,rfl,_,hc⟩:=(HU.out.below HBB.out).2.2.2 i a ha
      have ra:=HDX.out a (List.mem_of_getElem? ha)
      have hab : 0 <= a * (Y : Int) /\ a * (Y : Int) <= 4294967295 * (Y : Int):=⟨Int.mul_nonneg ra.1 (by omega),Int.mul_le_mul_of_nonneg_right (by omega) (by omega)⟩
      obtain ⟨S,hS⟩ : ∃ S : Int,S = a * (Y : Int) + (cy : Int):=⟨_,rfl⟩
      have hst:=Nt.up_step x o i q cy Y a S ha HDX.out ra.1 HOL.out hS HVAL.out
      have hs1 : IntKind.u64.wrap (a * (Y : Int)) = a * (Y : Int):=by rw [IntKind.wrap_u64]; omega
      have hs2 : IntKind.u64.wrap (a * (Y : Int) + (cy : Int)) = S:=by rw [IntKind.wrap_u64]; omega
      have hSb : 0 <= S /\ S < 4294967296 * (Y : Int):=by omega
      have hr1 : Int.tmod S 4294967296 = S % 4294967296:=Int.tmod_eq_emod_of_nonneg hSb.1
      have hr2 : IntKind.u64.wrap (Int.tdiv S 4294967296) = S / 4294967296:=by rw [IntKind.wrap_u64,Int.tdiv_eq_ediv_of_nonneg hSb.1]; omega
      have HST:=Hd hst
      have HSB:=Hd hSb
      have OWN2:=Hd (HOWN.out.alloc (.cells #[.int .u64 (S % 4294967296)] 39))
      have CELLS2:=Hd (one_cell wr (S % 4294967296) 39)
      have SIZE2:=Hd (Nat.le_trans HBB.out.size (Nat.le_of_lt (alloc_lt wr (.cells #[.int .u64 (S % 4294967296)] 39))))
      have H63:=Hd (show q + i + 1 <= maxLen by simp only [maxLen]; omega)
      clear hst hSb hS ra hab ha
      go_wp2_with (at_builtin; refine wpList_append_own _ rfl (.tmp 42) (.tmp 45) _ rfl w1.heap.size 39 i0 _ 1 8 Tryz.underlying50 hi0 hz0 hz1 hz2 rfl (Nat.le_refl 1) u6 (q + i) (o.map (Value.int .u64)) rfl OWN2.out ⟨wr.heap.size,0,none⟩ 1 1 [Value.int .u64 (S % 4294967296)] rfl CELLS2.out.1 CELLS2.out.2.1 CELLS2.out.2.2 H63.out (by omega) SIZE2.out ?_; intro v1 w4 hown1 hg1 _)
      have own3 : w4.ownsRow w1.heap.size 39 1 v1 (q + (i + 1)) ((o ++ [S % 4294967296]).map (Value.int .u64)):=by rw [List.map_append]; exact hown1
      have hdo3 : Nt.Dig 4294967296 (o ++ [S % 4294967296]):=HDO.out.append (Nt.Dig.one (by omega) (by omega))
      have hbb3 : Below w1.heap.size w1 w4:=((HBB.out).alloc HBB.out.size _).grown hg1 (Nat.le_trans HBB.out.size (Nat.le_of_lt (alloc_lt wr _))) (fun b hb=>(OWN2.out.lt b hb).1)
      have OWN3:=Hd own3
      have DO3:=Hd hdo3
      have BB3:=Hd hbb3
      clear own3 hdo3 hbb3 hown1 hg1
      go_wp2
      go_roundw
      case rel=>exact ⟨i + 1,(S / 4294967296).toNat,o ++ [S % 4294967296],by go_num,by have:=HSB.out; rw [Int.toNat_of_nonneg (by omega)],hi,by have:=HSB.out; omega,by rw [List.length_append,HOL.out]; rfl,OWN3.out,DO3.out,HST.out,BB3.out⟩
      case measure=>simp [intOf]; omega
     ·have hip2 : i = p:=by omega
      subst hip2
      have hfin : Nt.val 4294967296 (o ++ [(cy : Int)]) = N * 2 ^ m:=by
       have h9:=HVAL.out
       rw [List.take_of_length_le (by have:=HP.out; omega),HVX.out] at h9
       rw [Nt.val_snoc,HOL.out,Int.toNat_natCast,h9,HQR.out,Nat.pow_add,Nat.pow_mul,HY.out,show (2 : Nat) ^ 32 = 4294967296 from rfl]
       ac_rfl
      have HF:=Hd hfin
      have HD9:=Hd (HDO.out.append (Nt.Dig.one (x:=(cy : Int)) (by omega) (by omega)))
      have OWN2:=Hd (HOWN.out.alloc (.cells #[.int .u64 (cy : Int)] 39))
      have CELLS2:=Hd (one_cell wr (cy : Int) 39)
      have SIZE2:=Hd (Nat.le_trans HBB.out.size (Nat.le_of_lt (alloc_lt wr (.cells #[.int .u64 (cy : Int)] 39))))
      have H63:=Hd (show q + i + 1 <= maxLen by simp only [maxLen]; omega)
      clear hfin
      go_wp2_with (at_builtin; refine wpList_append_own _ rfl (.tmp 49) (.tmp 51) _ rfl w1.heap.size 39 i0 _ 1 8 Tryz.underlying50 hi0 hz0 hz1 hz2 rfl (Nat.le_refl 1) u6 (q + i) (o.map (Value.int .u64)) rfl OWN2.out ⟨wr.heap.size,0,none⟩ 1 1 [Value.int .u64 (cy : Int)] rfl CELLS2.out.1 CELLS2.out.2.1 CELLS2.out.2.2 H63.out (by omega) SIZE2.out ?_; intro v1 w4 hown1 hg1 _)
      have own3 : w4.ownsRow w1.heap.size 39 1 v1 (q + i + 1) ((o ++ [(cy : Int)]).map (Value.int .u64)):=by rw [List.map_append]; exact hown1
      have BB3:=Hd (((HBB.out).alloc HBB.out.size _).grown hg1 (Nat.le_trans HBB.out.size (Nat.le_of_lt (alloc_lt wr _))) (fun b hb=>(OWN2.out.lt b hb).1))
      obtain ⟨A',c',hv3,hu3⟩:=U.of_own own3
      have HU3:=Hd hu3
      clear hu3 own3 hown1 hg1
      subst hv3
      go_wp2_with fail
      refine (limbs_any A' (q + i + 1) c' (o ++ [(cy : Int)]) _ HU3.out (by omega) HD9.out).mono ?_
      rintro e w5 ⟨A4,c4,rfl,hu4,hb4⟩
      rw [HF.out] at hu4 ⊢
      have HU4:=Hd hu4
      have HB4:=Hd (HB.out.trans ((BB3.out.trans (hb4.mono BB3.out.size)).mono HB.out.size))
      clear hu4 hb4
      go_wp2
      go_ret
      exact ⟨A4,c4,rfl,HU4.out,HB4.out⟩
end Go.Proofs.YtfpopdneokekiaaGreatDoor
namespace Go.Proofs.YtfpopdneokekiaaGreatDoor
end Go.Proofs.YtfpopdneokekiaaGreatDoor

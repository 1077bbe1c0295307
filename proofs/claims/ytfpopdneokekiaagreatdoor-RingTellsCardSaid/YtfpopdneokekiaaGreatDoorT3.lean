/-
Walk: cut's spread.
-/
import Derived.Test.YtfpopdneokekiaaGreatDoorT2
import Derived.Deep.RegionHeld3
import Derived.Lib.Hide
set_option linter.unusedVariables false
set_option linter.unusedSimpArgs false
namespace Go.Proofs.YtfpopdneokekiaaGreatDoor
section
namespace Fl
open Ieee
@[irreducible] def E : Nat:=1074
theorem E_eq : E = 1074:=by unfold E; rfl
theorem U_ex : ∃ u : Nat,u = 2 ^ E:=⟨_,rfl⟩
noncomputable def U : Nat:=Classical.choose U_ex
theorem U_def : U = 2 ^ E:=Classical.choose_spec U_ex
theorem U_pos : 0 < U:=by rw [U_def]; exact Nat.two_pow_pos _
def c53 : Nat:=4845873199050653696
theorem p1 (e : Nat) : B * 2 ^ (e + 1) = 9007199254740992 * 2 ^ e:=by
 rw [Nat.pow_succ']; generalize 2 ^ e = q; unfold B; omega
theorem p2 (e : Nat) (h : 53 <= e) : 2 * (B * 2 ^ (e - 53)) = 2 ^ e:=by
 rw [<- Nat.mul_assoc,show 2 * B = 2 ^ 53 from by decide,<- Nat.pow_add]; congr 1; omega
theorem p3 (e c : Nat) (h : (e + 1) * B + B = c) : rv c = 9007199254740992 * 2 ^ e:=by
 have:=rv_of (e + 1) B (by unfold B; omega) (.inr (Nat.le_refl _))
 rw [<- h,this]; exact p1 e
theorem p4 (e c : Nat) (he : 53 <= e) (h : (e - 53) * B + B = c) : 2 * rv c = 2 ^ e:=by
 have:=rv_of (e - 53) B (by unfold B; omega) (.inr (Nat.le_refl _))
 rw [<- h,this]; exact p2 e he
theorem rv_c53 : rv c53 = 9007199254740992 * U:=by rw [U_def]; exact p3 E c53 (by rw [E_eq]; decide)
theorem c53_lt : c53 < I:=by decide
def rr (n : Nat) : Nat:=rnd false n
theorem rnd_rr (s : Bool) (n : Nat) : rnd s n = wd s (rr n) /\ rr n <= I:=by
 obtain ⟨r,h1,h2⟩:=rnd_spec s n
 obtain ⟨q,h3,h4⟩:=rnd_spec false n
 have : rr n = min q I:=h3
 rw [h1,this,h2.eq h4]
 exact ⟨rfl,Nat.min_le_right _ _⟩
theorem rr_lt (n : Nat) : rr n < W:=Nat.lt_of_le_of_lt (rnd_rr false n).2 I_lt_W
theorem rg_rnd (s : Bool) (n : Nat) : rg (rnd s n) = rr n:=by rw [(rnd_rr s n).1,rg_wd _ _ (rr_lt n)]
theorem sg_rnd (s : Bool) (n : Nat) : sg (rnd s n) = s:=by rw [(rnd_rr s n).1,sg_wd _ _ (rr_lt n)]
theorem rr_exact (r : Nat) (h : r <= I) : rr (rv r) = r:=by
 have:=rnd_exact false r h
 unfold rr; rw [this]; rfl
theorem rv_rr (n r : Nat) (h : rv r = n) (hr : r <= I) : rv (rr n) = n:=by rw [<- h,rr_exact r hr]
theorem rnd_lt (s : Bool) (n : Nat) : rnd s n < 2 * W:=by rw [(rnd_rr s n).1]; exact wd_lt _ _ (rr_lt n)
theorem rr_zero : rr 0 = 0:=by have:=rr_exact 0 (by decide); rwa [rv_zero] at this
theorem rep_rr (m j : Nat) (h : m <= 2 * B) (hI : m * 2 ^ j < rv I) : rv (rr (m * 2 ^ j)) = m * 2 ^ j /\ rr (m * 2 ^ j) < I:=by
 obtain ⟨r,hr⟩:=rep m j h
 have : r < I:=rv_lt_iff.1 (by rw [hr]; exact hI)
 refine ⟨rv_rr _ r hr (by omega),?_⟩
 rw [<- hr,rr_exact r (by omega)]; exact this
theorem rv_I_big : 9007199254740992 * U < rv I:=by rw [<- rv_c53]; exact rv_mono c53_lt
theorem whole_rr (k : Nat) (h : k <= 9007199254740992) : rv (rr (k * U)) = k * U /\ rr (k * U) < I:=by
 have h2:=Nat.lt_of_le_of_lt (Nat.mul_le_mul_right U h) rv_I_big
 rw [U_def] at h2 ⊢
 exact rep_rr k E (by unfold B; omega) h2
theorem Cut.eq {n b k q : Nat} (h1 : Cut n b k) (h2 : Cut n b q) : k = q:=by
 obtain ⟨a1,a2,a3,a4⟩:=h1
 obtain ⟨b1,b2,b3,b4⟩:=h2
 have pb : 0 < 2 ^ b:=Nat.two_pow_pos _
 generalize 2 ^ b = P at *
 have e1 : (2 * k + 1) * P = 2 * k * P + P:=by rw [Nat.add_mul,Nat.one_mul]
 have e2 : (2 * q + 1) * P = 2 * q * P + P:=by rw [Nat.add_mul,Nat.one_mul]
 rw [e1] at a1 a2; rw [e2] at b1 b2
 rcases Nat.lt_trichotomy k q with h | h | h
 ·exfalso
  have : 2 * (k + 1) * P <= 2 * q * P:=Nat.mul_le_mul_right _ (by omega)
  have e3 : 2 * (k + 1) * P = 2 * k * P + 2 * P:=by rw [Nat.mul_add,Nat.add_mul]
  have h3 : 2 * q * P = 2 * k * P + 2 * P:=by omega
  have c1:=a2 (by omega)
  have c2:=b4 (by omega)
  have : q = k + 1:=by
   have : 2 * q * P = 2 * (k + 1) * P:=by omega
   have:=Nat.eq_of_mul_eq_mul_right pb this
   omega
  omega
 ·exact h
 ·exfalso
  have : 2 * (q + 1) * P <= 2 * k * P:=Nat.mul_le_mul_right _ (by omega)
  have e3 : 2 * (q + 1) * P = 2 * q * P + 2 * P:=by rw [Nat.mul_add,Nat.add_mul]
  have h3 : 2 * k * P = 2 * q * P + 2 * P:=by omega
  have c1:=b2 (by omega)
  have c2:=a4 (by omega)
  have : k = q + 1:=by
   have : 2 * k * P = 2 * (q + 1) * P:=by omega
   have:=Nat.eq_of_mul_eq_mul_right pb this
   omega
  omega
theorem Cut.scale {n b k : Nat} (h : Cut n b k) (c : Nat) : Cut (n * 2 ^ c) (b + c) k:=by
 have hp : 0 < 2 ^ c:=Nat.two_pow_pos _
 have key : ∀ x : Nat,x * 2 ^ (b + c) = x * 2 ^ b * 2 ^ c:=fun x=>by rw [Nat.pow_add,Nat.mul_assoc]
 refine ⟨?_,?_,?_,?_⟩
 ·rw [key,<- Nat.mul_assoc]; exact Nat.mul_le_mul_right _ h.hi
 ·intro e; rw [key,<- Nat.mul_assoc] at e; exact h.hie (Nat.eq_of_mul_eq_mul_right hp e)
 ·rw [key,<- Nat.mul_assoc,Nat.pow_add,<- Nat.add_mul]; exact Nat.mul_le_mul_right _ h.lo
 ·intro e; rw [key,<- Nat.mul_assoc,Nat.pow_add,<- Nat.add_mul] at e; exact h.loe (Nat.eq_of_mul_eq_mul_right hp e)
theorem cut_toward_zero (neg : Bool) (n b : Nat) : Toward.zero.cut neg n b = n / 2 ^ b:=by
 unfold Toward.cut
 simp only [Nat.one_shiftLeft,Bool.toNat_false,Nat.add_zero]
 rcases Nat.lt_or_ge (n.log2 + 2) b with hb | hb
 ·have hmin : min b (n.log2 + 2) = n.log2 + 2:=by omega
  rw [hmin]
  have hn : n < 2 ^ (n.log2 + 1):=Nat.lt_log2_self
  have h1 : 2 ^ (n.log2 + 1) <= 2 ^ (n.log2 + 2):=Nat.pow_le_pow_right (by omega) (by omega)
  have h2 : 2 ^ (n.log2 + 1) <= 2 ^ b:=Nat.pow_le_pow_right (by omega) (by omega)
  rw [Nat.div_eq_of_lt (by omega),Nat.div_eq_of_lt (by omega)]
 ·have hmin : min b (n.log2 + 2) = b:=by omega
  rw [hmin]
noncomputable def wh (x : Nat) : Nat:=rv (rg x) / U
def nk (x : Nat) : Nat:=Toward.even.cut false (rv (rg x)) E
theorem nk_cut (x : Nat) : Cut (rv (rg x)) E (nk x):=cut_even _ _ _
theorem integral_zero (x : Nat) (h : rg x < I) : (double.read x).integral .zero = .number (sg x) (wh x) 0:=by
 rw [read_fin x h]
 unfold Datum.integral
 dsimp only
 rw [cut_toward_zero,Nat.shiftLeft_eq]
 congr 1
 unfold wh rv
 rw [U_def]
 have hE:=E_eq
 rcases Nat.lt_or_ge (ex (rg x)) E with h1 | h1
 ·have e1 : (-1074 + (ex (rg x) : Nat) : Int).toNat = 0:=by omega
  have e2 : (-(-1074 + (ex (rg x) : Nat) : Int)).toNat = E - ex (rg x):=by omega
  rw [e1,e2,Nat.pow_zero,Nat.mul_one]
  have : E = (E - ex (rg x)) + ex (rg x):=by omega
  conv=>rhs; rw [this,Nat.pow_add]
  rw [Nat.mul_div_mul_right _ _ (Nat.two_pow_pos _)]
 ·have e1 : (-1074 + (ex (rg x) : Nat) : Int).toNat = ex (rg x) - E:=by omega
  have e2 : (-(-1074 + (ex (rg x) : Nat) : Int)).toNat = 0:=by omega
  rw [e1,e2,Nat.pow_zero,Nat.div_one]
  have : ex (rg x) = (ex (rg x) - E) + E:=by omega
  conv=>rhs; rw [this,Nat.pow_add,<- Nat.mul_assoc]
  rw [Nat.mul_div_cancel _ (Nat.two_pow_pos _)]
theorem integral_even (x : Nat) (h : rg x < I) : (double.read x).integral .even = .number (sg x) (nk x) 0:=by
 rw [read_fin x h]
 unfold Datum.integral
 dsimp only
 rw [Nat.shiftLeft_eq]
 congr 1
 refine Cut.eq (n:=rv (rg x)) (b:=E) ?_ (nk_cut x)
 unfold rv
 have hE:=E_eq
 rcases Nat.lt_or_ge (ex (rg x)) E with h1 | h1
 ·have e1 : (-1074 + (ex (rg x) : Nat) : Int).toNat = 0:=by omega
  have e2 : (-(-1074 + (ex (rg x) : Nat) : Int)).toNat = E - ex (rg x):=by omega
  rw [e1,e2,Nat.pow_zero,Nat.mul_one]
  have:=(cut_even (sg x) (mant (rg x)) (E - ex (rg x))).scale (ex (rg x))
  rwa [show E - ex (rg x) + ex (rg x) = E by omega] at this
 ·have e1 : (-1074 + (ex (rg x) : Nat) : Int).toNat = ex (rg x) - E:=by omega
  have e2 : (-(-1074 + (ex (rg x) : Nat) : Int)).toNat = 0:=by omega
  rw [e1,e2]
  have:=(cut_even (sg x) (mant (rg x) * 2 ^ (ex (rg x) - E)) 0).scale E
  rw [Nat.mul_assoc,<- Nat.pow_add,show ex (rg x) - E + E = ex (rg x) by omega,Nat.zero_add] at this
  exact this
theorem write_whole (s : Bool) (k : Nat) : double.write (.number s k 0) = rnd s (k * U):=by
 unfold Format.write
 dsimp only
 rw [nearest_units s k 0 (by omega),show ((0 : Int) + 1074).toNat = E from by rw [E_eq]; rfl,U_def]
def sgi (s : Bool) (k : Nat) : Int:=if s then -(k : Int) else (k : Int)
theorem toInt_zero (x : Nat) (h : rg x < I) : (double.read x).toInt .zero = some (sgi (sg x) (wh x)):=by
 unfold Datum.toInt
 rw [integral_zero x h]
 unfold signed sgi
 cases sg x <;> simp
theorem ofInt_sgi (s : Bool) (k : Nat) : floatOfInt .f64 (sgi s k) = rnd (s && decide (0 < k)) (k * U):=by
 unfold floatOfInt FloatKind.nearest
 rw [show FloatKind.f64.encode (.number (decide (sgi s k < 0)) (sgi s k).natAbs 0) = rnd (decide (sgi s k < 0)) ((sgi s k).natAbs * U) from write_whole _ _]
 unfold sgi
 cases s
 ·simp only [Bool.false_eq_true,if_false,Bool.false_and]
  rw [decide_eq_false (by omega)]; rfl
 ·by_cases hk : 0 < k
  ·simp [hk]
  ·have : k = 0:=by omega
   subst this; simp
theorem wh_le (x : Nat) (h : rg x <= c53) : wh x <= 9007199254740992:=by
 have:=rv_le h; rw [rv_c53] at this
 exact Nat.div_le_of_le_mul (by rw [Nat.mul_comm]; exact this)
theorem nk_near (x : Nat) : 2 * rv (rg x) <= (2 * nk x + 1) * U /\ (2 * rv (rg x) = (2 * nk x + 1) * U -> nk x % 2 = 0) /\ 2 * nk x * U <= 2 * rv (rg x) + U /\ (2 * nk x * U = 2 * rv (rg x) + U -> nk x % 2 = 0):=by
 obtain ⟨a,b,c,d⟩:=nk_cut x
 rw [<- U_def] at a b c d
 exact ⟨a,b,c,d⟩
theorem nk_le (x : Nat) (h : rg x <= c53) : nk x <= 9007199254740992:=by
 have h1:=rv_le h; rw [rv_c53] at h1
 have h2:=(nk_near x).2.2.1
 rcases Nat.lt_or_ge 9007199254740992 (nk x) with h3 | h3
 ·exfalso
  have : 2 * 9007199254740993 * U <= 2 * nk x * U:=Nat.mul_le_mul_right _ (by omega)
  have:=U_pos
  omega
 ·exact h3
noncomputable def dist (a k : Nat) : Nat:=((a : Int) - (k * U : Nat)).natAbs
theorem sub_whole (x : Nat) (hx : x < 2 * W) (hf : rg x < I) (t : Bool) (k : Nat) (hk : k <= 9007199254740992) (ht : t = sg x \/ k = 0) :
  ∃ s,double.sub x (rnd t (k * U)) = some (rnd s (dist (rv (rg x)) k)):=by
 obtain ⟨h1,h2⟩:=whole_rr k hk
 have hlt:=rnd_lt t (k * U)
 have hI : rg (rnd t (k * U)) < I:=by rw [rg_rnd]; exact h2
 rw [sub_any _ _ hlt,add_fin _ _ hf (by rw [rg_ng _ hlt]; exact hI),vl_ng _ hlt]
 refine ⟨_,congrArg (fun n=>some (rnd _ n)) ?_⟩
 unfold vl dist
 rw [rg_rnd,sg_rnd,h1]
 have hz : k = 0 -> k * U = 0:=fun h=>by rw [h,Nat.zero_mul]
 generalize k * U = q at *
 generalize rv (rg x) = p at *
 rcases ht with rfl | ht
 ·cases sg x
  ·simp only [Bool.false_eq_true,if_false]; omega
  ·simp only [if_true]; omega
 ·have:=hz ht
  subst this
  cases sg x <;> cases t <;> simp only [Bool.false_eq_true,if_false,if_true] <;> omega
end Fl
end
section
namespace Fl
open Ieee
theorem ex_le {a b : Nat} (h : a <= b) : ex a <= ex b:=by
 unfold ex; have:=Nat.div_le_div_right (c:=B) h; omega
theorem Rnd.near {n r : Nat} (h : Rnd n 0 r) : 2 * n <= 2 * rv r + 2 ^ ex r /\ 2 * rv r <= 2 * n + 2 ^ ex r:=by
 obtain ⟨h1,_,h3,_⟩:=h
 rw [Nat.pow_zero,Nat.mul_one] at h1 h3
 have hs:=rv_succ r
 refine ⟨by omega,?_⟩
 rcases Nat.eq_zero_or_pos r with h0 | h0
 ·subst h0; rw [rv_zero]; exact Nat.le_trans (by omega) (Nat.zero_le _)
 ·have:=h3 h0
  have hp:=rv_succ (r - 1)
  rw [show r - 1 + 1 = r by omega] at hp
  have : 2 ^ ex (r - 1) <= 2 ^ ex r:=Nat.pow_le_pow_right (by omega) (ex_le (by omega))
  omega
theorem rv_dvd (r : Nat) : (2 ^ ex r : Nat) ∣ rv r:=⟨mant r,Nat.mul_comm _ _⟩
theorem pow_dvd {a b : Nat} (h : a <= b) : (2 ^ a : Nat) ∣ 2 ^ b:=Nat.pow_dvd_pow 2 h
theorem rep_nat (x j : Nat) (hd : (2 ^ j : Nat) ∣ x) (h : x <= 2 * B * 2 ^ j) : ∃ t,rv t = x:=by
 obtain ⟨m,rfl⟩:=hd
 rw [Nat.mul_comm]
 refine rep m j ?_
 rw [Nat.mul_comm] at h
 exact Nat.le_of_mul_le_mul_right h (Nat.two_pow_pos _)
theorem fast_rep (a b r : Nat) (A C S : Int) (hA : A.natAbs = rv a) (hC : C.natAbs = rv b) (hba : b <= a) (hr : Rnd (A + C).natAbs 0 r) (hS : S.natAbs = rv r) (hsg : (0 <= A + C /\ 0 <= S) \/ (A + C <= 0 /\ S <= 0)) : ∃ t,rv t = (S - A).natAbs:=by
 have hn:=hr.near
 by_cases hex : A + C = S
 ·exact ⟨b,by rw [<- hC]; congr 1; omega⟩
 have hdiff : (A + C - S).natAbs * 2 <= 2 ^ ex r:=by omega
 generalize hl : ex r = l at *
 have hl0 : 0 < l:=by
  rcases Nat.eq_zero_or_pos l with h | h
  ·subst h; rw [Nat.pow_zero] at hdiff; omega
  ·exact h
 have dS : (2 ^ l : Nat) ∣ S.natAbs:=by rw [hS,<- hl]; exact rv_dvd r
 have dA : (2 ^ ex a : Nat) ∣ A.natAbs:=by rw [hA]; exact rv_dvd a
 have dC : (2 ^ ex b : Nat) ∣ C.natAbs:=by rw [hC]; exact rv_dvd b
 have hexba : ex b <= ex a:=ex_le hba
 have pl : 0 < 2 ^ l:=Nat.two_pow_pos _
 have l2 : 2 ^ l = 2 * 2 ^ (l - 1):=by rw [<- Nat.pow_succ',show (l - 1).succ = l by omega]
 -- b's last digit lies below the sum's
 have hbl : ex b < l:=by
  rcases Nat.lt_or_ge (ex b) l with h | h
  ·exact h
  ·exfalso
   have d1 : ((2 ^ l : Nat) : Int) ∣ A:=Int.ofNat_dvd_left.2 (Nat.dvd_trans (pow_dvd (by omega)) dA)
   have d2 : ((2 ^ l : Nat) : Int) ∣ C:=Int.ofNat_dvd_left.2 (Nat.dvd_trans (pow_dvd h) dC)
   have d3 : ((2 ^ l : Nat) : Int) ∣ S:=Int.ofNat_dvd_left.2 dS
   have d4 : ((2 ^ l : Nat) : Int) ∣ A + C - S:=Int.dvd_sub (Int.dvd_add d1 d2) d3
   have d5 : (2 ^ l : Nat) ∣ (A + C - S).natAbs:=Int.ofNat_dvd_left.1 d4
   have:=Nat.le_of_dvd (by omega) d5
   omega
 have hCb : C.natAbs < B * 2 ^ l:=by
  rw [hC]
  have h1 : rv b < 2 * B * 2 ^ ex b:=Nat.mul_lt_mul_of_pos_right (mant_lt b) (Nat.two_pow_pos _)
  have h2 : 2 * B * 2 ^ ex b <= 2 * B * 2 ^ (l - 1):=Nat.mul_le_mul_left _ (Nat.pow_le_pow_right (by omega) (by omega))
  have h3 : 2 * B * 2 ^ (l - 1) = B * 2 ^ l:=by rw [l2,Nat.mul_comm 2 B,Nat.mul_assoc]
  omega
 rcases Nat.lt_or_ge (ex a) l with hal | hal
 ·-- then l is one more
  have hAlt : A.natAbs + 2 ^ ex a <= 2 * B * 2 ^ ex a:=by
   rw [hA]
   have h1 : rv a = mant a * 2 ^ ex a:=rfl
   have h2 : (mant a + 1) * 2 ^ ex a <= 2 * B * 2 ^ ex a:=Nat.mul_le_mul_right _ (mant_lt a)
   rw [Nat.add_mul,Nat.one_mul] at h2
   omega
  have hCA : C.natAbs <= A.natAbs:=by rw [hA,hC]; exact rv_le hba
  have hle : l = ex a + 1:=by
   -- the rung of 2^52 at ex a + 2,and the one before
   have hq:=rv_of (ex a + 1) (2 * B) (Nat.le_refl _) (.inr (by omega))
   have hq1:=rv_of (ex a + 1) (2 * B - 1) (by omega) (.inr (by unfold B; omega))
   have hmono : r <= (ex a + 1) * B + (2 * B - 1):=by
    refine hr.mono (Rnd.exact _ 0) ?_
    rw [hq1,Nat.pow_zero,Nat.mul_one,Nat.mul_one]
    rw [Nat.mul_one]
    have : (2 * B - 1) * 2 ^ (ex a + 1) + 2 ^ (ex a + 1) = 2 * (2 * B * 2 ^ ex a):=by
     rw [show (2 * B - 1) * 2 ^ (ex a + 1) + 2 ^ (ex a + 1) = (2 * B - 1 + 1) * 2 ^ (ex a + 1) by rw [Nat.add_mul,Nat.one_mul]]
     rw [show 2 * B - 1 + 1 = 2 * B by unfold B; omega,Nat.pow_succ']
     rw [<- Nat.mul_assoc,Nat.mul_comm (2 * B) 2,Nat.mul_assoc]
    have h3 : 2 ^ (ex a + 1) = 2 * 2 ^ ex a:=Nat.pow_succ' ..
    omega
   have:=ex_le hmono
   rw [ex_of (ex a + 1) (2 * B - 1) (by unfold B; omega) (.inr (by unfold B; omega))] at this
   omega
  have e1 : l - 1 = ex a:=by omega
  have d1 : ((2 ^ ex a : Nat) : Int) ∣ A:=Int.ofNat_dvd_left.2 dA
  have d3 : ((2 ^ ex a : Nat) : Int) ∣ S:=Int.ofNat_dvd_left.2 (Nat.dvd_trans (pow_dvd (by omega)) dS)
  have d5 : (2 ^ ex a : Nat) ∣ (S - A).natAbs:=Int.ofNat_dvd_left.1 (Int.dvd_sub d3 d1)
  refine rep_nat _ (ex a) d5 ?_
  rw [e1] at l2
  omega
 ·have d1 : ((2 ^ l : Nat) : Int) ∣ A:=Int.ofNat_dvd_left.2 (Nat.dvd_trans (pow_dvd hal) dA)
  have d3 : ((2 ^ l : Nat) : Int) ∣ S:=Int.ofNat_dvd_left.2 dS
  have d5 : (2 ^ l : Nat) ∣ (S - A).natAbs:=Int.ofNat_dvd_left.1 (Int.dvd_sub d3 d1)
  refine rep_nat _ l d5 ?_
  have h7 : 2 * B * 2 ^ l = B * 2 ^ l + B * 2 ^ l:=alg7 _
  have h8 : 2 ^ l <= B * 2 ^ l:=Nat.le_mul_of_pos_left _ (by decide)
  omega
theorem rr_pos (n : Nat) (h : 0 < n) : 0 < rr n:=by
 obtain ⟨q,h3,h4⟩:=rnd_spec false n
 have h5 : rr n = min q I:=h3
 have hI : 0 < I:=by decide
 rcases Nat.eq_zero_or_pos q with h0 | h0
 ·subst h0
  have:=h4.hi
  rw [rv_zero,show rv (0 + 1) = 1 from by decide] at this
  omega
 ·omega
def sideW (near : Nat) (c : Ordering) (step : Nat) (up : Bool) : Nat:=if (c = .gt /\ up = true) \/ (c = .lt /\ up = false) then step else near
theorem min_I_lt (r : Nat) : min r I < W:=Nat.lt_of_le_of_lt (Nat.min_le_right _ _) I_lt_W
theorem of_min {r i q : Nat} (h : q = min r i) (hq : q < i) : r < i /\ q = r:=by omega
theorem vl_exact (p q : Bool) (n : Int) (t : Nat) (h : rv t = n.natAbs) (ht : t < I) : vl (rnd (sgn2 p q n) n.natAbs) = n /\ rg (rnd (sgn2 p q n) n.natAbs) < I:=by
 have h1 : rr n.natAbs = t:=by rw [<- h]; exact rr_exact t (Nat.le_of_lt ht)
 refine ⟨?_,by rw [rg_rnd,h1]; exact ht⟩
 unfold vl
 rw [rg_rnd,sg_rnd,h1,h]
 unfold sgn2
 by_cases h0 : n = 0
 ·subst h0; simp
 ·rw [if_neg h0]
  by_cases h2 : n < 0
  ·rw [decide_eq_true h2,if_pos rfl]; omega
  ·rw [decide_eq_false h2,if_neg (by simp)]; omega
theorem key_rnd (p q : Bool) (n : Int) : compare (key (rnd (sgn2 p q n) n.natAbs)) 0 = compare n 0:=by
 unfold key
 rw [rg_rnd,sg_rnd]
 unfold sgn2
 rw [compare_int,compare_int]
 by_cases h0 : n = 0
 ·subst h0; rw [show Int.natAbs 0 = 0 from rfl,rr_zero]; simp
 ·have hp:=rr_pos n.natAbs (by omega)
  rw [if_neg h0]
  by_cases h2 : n < 0
  ·rw [decide_eq_true h2,if_pos rfl,if_pos h2,if_pos (by omega)]
  ·rw [decide_eq_false h2,if_neg (show ¬ (false = true) by simp),if_neg h2,if_neg h0,if_neg (by omega),if_neg (by omega)]
theorem vl_neg (x : Nat) (h : sg x = true) : vl x <= 0:=by unfold vl; rw [h,if_pos rfl]; omega
theorem vl_pos (x : Nat) (h : sg x = false) : 0 <= vl x:=by unfold vl; rw [h,if_neg (by simp)]; omega
theorem vl_abs (x : Nat) : (vl x).natAbs = rv (rg x):=by unfold vl; split <;> omega
theorem compare_sub (N v : Int) : compare (N - v) 0 = compare N v:=by
 rw [compare_int,compare_int]
 rcases Int.lt_trichotomy N v with h | h | h
 ·rw [if_pos h,if_pos (by omega)]
 ·subst h; simp
 ·rw [if_neg (by omega),if_neg (by omega),if_neg (by omega),if_neg (by omega)]
theorem fast_sign (a b : Nat) (ha : a < 2 * W) (hb : b < 2 * W) (fa : rg a < I) (fb : rg b < I) (hba : rg b <= rg a) (s : Nat) (hs : s = rnd (sgn2 (sg a) (sg b) (vl a + vl b)) (vl a + vl b).natAbs) (fs : rg s < I) :
  ∃ t off,double.sub s a = some t /\ double.sub b t = some off /\ rg off <= I /\ compare (key off) 0 = compare (vl a + vl b) (vl s):=by
 have hsl : s < 2 * W:=by rw [hs]; exact rnd_lt _ _
 obtain ⟨r,hr1,hr2⟩:=rnd_spec (sgn2 (sg a) (sg b) (vl a + vl b)) (vl a + vl b).natAbs
 have hrg : rg s = min r I:=by rw [hs,hr1,rg_wd _ _ (min_I_lt r)]
 obtain ⟨hrI,hrs⟩:=of_min hrg fs
 have hsg : sg s = sgn2 (sg a) (sg b) (vl a + vl b):=by rw [hs,sg_rnd]
 have hvs : (vl s).natAbs = rv r:=by rw [vl_abs,hrs]
 have hva:=vl_abs a
 have hvb:=vl_abs b
 have hba' : rv (rg b) <= rv (rg a):=rv_le hba
 have hz : vl a + vl b = 0 -> vl s = 0:=by
  intro h
  have h0 : r = 0:=by
   have e:=Rnd.exact 0 0
   rw [rv_zero,Nat.zero_mul] at e
   rw [h] at hr2
   exact hr2.eq e
  unfold vl; rw [hrs,h0,rv_zero]; split <;> omega
 have hsame : (0 <= vl a + vl b /\ 0 <= vl s) \/ (vl a + vl b <= 0 /\ vl s <= 0):=by
  rcases Int.lt_trichotomy (vl a + vl b) 0 with h | h | h
  ·right
   exact ⟨Int.le_of_lt h,vl_neg s (by rw [hsg,sgn2,if_neg (Int.ne_of_lt h),decide_eq_true h])⟩
  ·left
   exact ⟨Int.le_of_eq h.symm,Int.le_of_eq (hz h).symm⟩
  ·left
   exact ⟨Int.le_of_lt h,vl_pos s (by rw [hsg,sgn2,if_neg (Int.ne_of_gt h),decide_eq_false (Int.not_lt.2 (Int.le_of_lt h))])⟩
 obtain ⟨t0,ht0⟩:=fast_rep (rg a) (rg b) r (vl a) (vl b) (vl s) hva hvb hba hr2 hvs hsame
 have ht0I : t0 < I:=by
  rw [<- rv_lt_iff,ht0]
  have h1 : rv r < rv I:=rv_mono hrI
  have h2 : rv (rg a) < rv I:=rv_mono fa
  generalize rv I = ri at *
  clear hs hsl hr1 hr2 hrg hsg ha hb
  omega
 have hal:=ng_lt a ha
 have e1 : double.sub s a = some (rnd (sgn2 (sg s) (sg (ng a)) (vl s - vl a)) (vl s - vl a).natAbs):=by
  rw [sub_any s a ha,add_fin s (ng a) fs (by rw [rg_ng a ha]; exact fa),vl_ng a ha]
  rw [show vl s + -vl a = vl s - vl a from rfl]
 obtain ⟨v1,v2⟩:=vl_exact (sg s) (sg (ng a)) (vl s - vl a) t0 ht0 ht0I
 generalize hT : rnd (sgn2 (sg s) (sg (ng a)) (vl s - vl a)) (vl s - vl a).natAbs = T at *
 have hTl : T < 2 * W:=by rw [<- hT]; exact rnd_lt _ _
 have e2 : double.sub b T = some (rnd (sgn2 (sg b) (sg (ng T)) (vl a + vl b - vl s)) (vl a + vl b - vl s).natAbs):=by
  rw [sub_any b T hTl,add_fin b (ng T) fb (by rw [rg_ng T hTl]; exact v2),vl_ng T hTl,v1]
  rw [show vl b + -(vl s - vl a) = vl a + vl b - vl s by omega]
 refine ⟨T,_,e1,e2,by rw [rg_rnd]; exact (rnd_rr false _).2,?_⟩
 rw [key_rnd,compare_sub]
end Fl
end
section
namespace Fl
open Ieee
def pl (w : Nat) : Int:=-1074 + (ex (rg w) : Nat)
theorem mul_fin (x y : Nat) (hx : rg x < I) (hy : rg y < I) : double.mul x y = some (double.nearest (sg x ^^ sg y) (mant (rg x) * mant (rg y)) (pl x + pl y)):=by
 unfold Format.mul
 rw [read_fin x hx,read_fin y hy]
 rfl
def scl (w : Nat) (k : Int) : Nat:=double.nearest (sg w) (mant (rg w)) (pl w + k)
def nM (r : Nat) : Nat:=if r < B then r * 2 ^ (52 - r.log2) else mant r
def nE (r : Nat) : Int:=if r < B then -((52 - r.log2 : Nat) : Int) else (ex r : Nat)
theorem log2_B (r : Nat) (h0 : 0 < r) (h : r < B) : r.log2 < 52:=by
 rw [Nat.log2_lt (by omega),<- B_eq]; exact h
theorem nM_range (r : Nat) (h0 : 0 < r) : B <= nM r /\ nM r < 2 * B:=by
 unfold nM
 by_cases h : r < B
 ·rw [if_pos h]
  have hl:=log2_B r h0 h
  have h1:=Nat.log2_self_le (show r ≠ 0 by omega)
  have h2 : r < 2 ^ (r.log2 + 1):=Nat.lt_log2_self
  generalize r.log2 = l at *
  have pp : 0 < 2 ^ (52 - l):=Nat.two_pow_pos _
  have e1 : B = 2 ^ l * 2 ^ (52 - l):=by rw [<- Nat.pow_add,B_eq]; congr 1; omega
  have e2 : 2 * B = 2 ^ (l + 1) * 2 ^ (52 - l):=by rw [<- Nat.pow_add,B_eq,<- Nat.pow_succ']; congr 1; omega
  rw [e2]
  refine ⟨?_,Nat.mul_lt_mul_of_pos_right h2 pp⟩
  rw [e1]; exact Nat.mul_le_mul_right _ h1
 ·rw [if_neg h]
  refine ⟨?_,mant_lt r⟩
  unfold mant ex B at *; omega
theorem nE_range (r : Nat) (h0 : 0 < r) (h : r < I) : -52 <= nE r /\ nE r <= 2045:=by
 unfold nE
 by_cases hb : r < B
 ·rw [if_pos hb]; omega
 ·rw [if_neg hb]; unfold ex B I at *; omega
theorem small_rung (r : Nat) (h : r < B) : ex r = 0 /\ mant r = r:=by
 unfold mant ex B at *; omega
theorem norm_val (r : Nat) (h0 : 0 < r) : ∃ c1 c2 : Nat,mant r * 2 ^ c1 = nM r * 2 ^ c2 /\ ((ex r : Nat) : Int) - c1 = nE r - c2:=by
 unfold nM nE
 by_cases h : r < B
 ·rw [if_pos h,if_pos h]
  obtain ⟨e1,e2⟩:=small_rung r h
  exact ⟨52 - r.log2,0,by rw [e2]; simp,by rw [e1]; omega⟩
 ·rw [if_neg h,if_neg h]
  exact ⟨0,0,rfl,rfl⟩
theorem nearest_norm (s : Bool) (r : Nat) (h0 : 0 < r) (k : Int) : double.nearest s (mant r) (k + (ex r : Nat)) = double.nearest s (nM r) (k + nE r):=by
 obtain ⟨c1,c2,h1,h2⟩:=norm_val r h0
 exact nearest_congr s _ _ _ _ c1 c2 h1 (by omega)
theorem scl_norm (w : Nat) (h0 : 0 < rg w) (k : Int) : scl w k = double.nearest (sg w) (nM (rg w)) (-1074 + k + nE (rg w)):=by
 have:=nearest_norm (sg w) (rg w) h0 (-1074 + k)
 rw [<- this]
 unfold scl pl
 congr 1
 omega
theorem nearest_exact (s : Bool) (m e : Nat) (h : B <= m) (h2 : m < 2 * B) (he : e <= 2045) : double.nearest s m (-1074 + (e : Int)) = wd s (e * B + m) /\ e * B + m < I /\ ex (e * B + m) = e /\ mant (e * B + m) = m:=by
 have hI : e * B + m < I:=by unfold B I at *; omega
 have hr:=rv_of e m (by omega) (.inr h)
 refine ⟨?_,hI,ex_of e m h2 (.inr h),mant_of e m h2 (.inr h)⟩
 rw [nearest_units s m _ (by omega),show (-1074 + (e : Int) + 1074).toNat = e by omega,<- hr]
 exact rnd_exact s _ (Nat.le_of_lt hI)
theorem scl_exact (w : Nat) (h0 : 0 < rg w) (k : Int) (h1 : 0 <= nE (rg w) + k) (h2 : nE (rg w) + k <= 2045) :
  scl w k = wd (sg w) ((nE (rg w) + k).toNat * B + nM (rg w)) /\ (nE (rg w) + k).toNat * B + nM (rg w) < I /\ nE ((nE (rg w) + k).toNat * B + nM (rg w)) = nE (rg w) + k /\ nM ((nE (rg w) + k).toNat * B + nM (rg w)) = nM (rg w):=by
 obtain ⟨m1,m2⟩:=nM_range (rg w) h0
 rw [scl_norm w h0]
 generalize nM (rg w) = m at *
 generalize nE (rg w) = e at *
 obtain ⟨n,hn⟩:=Int.eq_ofNat_of_zero_le h1
 rw [hn,Int.toNat_natCast,show -1074 + k + e = -1074 + (n : Int) by omega]
 obtain ⟨a1,a2,a3,a4⟩:=nearest_exact (sg w) m n m1 m2 (by omega)
 refine ⟨a1,a2,?_,?_⟩
 ·unfold nE; rw [if_neg (by unfold B at *; omega),a3]
 ·unfold nM; rw [if_neg (by unfold B at *; omega),a4]
theorem norm_rung (r : Nat) (h : B <= r) : r = (nE r).toNat * B + nM r /\ 0 <= nE r:=by
 unfold nE nM
 rw [if_neg (by omega),if_neg (by omega)]
 exact ⟨by rw [Int.toNat_natCast]; exact ex_mant r,by omega⟩
theorem up52 (x : Nat) (h0 : 0 < rg x) (h : rg x < B) : double.mul x 4841369599423283200 = some (wd (sg x) ((nE (rg x) + 52).toNat * B + nM (rg x))) /\ (nE (rg x) + 52).toNat * B + nM (rg x) < I /\ (nE (rg x) + 52).toNat < 52:=by
 have hc : rg 4841369599423283200 = 4841369599423283200:=by decide
 have hb : B < I:=by decide
 obtain ⟨e1,e2⟩:=small_rung (rg x) h
 have hl:=log2_B (rg x) h0 h
 have hE : nE (rg x) = -((52 - (rg x).log2 : Nat) : Int):=by unfold nE; rw [if_pos h]
 have hr:=nE_range (rg x) h0 (by omega)
 obtain ⟨m1,m2⟩:=nM_range (rg x) h0
 rw [mul_fin x _ (by omega) (by rw [hc]; decide),show sg 4841369599423283200 = false from by decide,Bool.xor_false]
 have hp : pl x + pl 4841369599423283200 = -1074 + (0 : Int):=by
  unfold pl; rw [e1,hc,show ex 4841369599423283200 = 1074 from by decide]; rfl
 have hm : mant (rg 4841369599423283200) = B:=by rw [hc]; decide
 rw [hp,hm,e2]
 have hcg:=nearest_congr (sg x) (rg x * B) (nM (rg x)) (-1074 + (0 : Int)) (-1074 + (((nE (rg x) + 52).toNat : Nat) : Int)) 0 (nE (rg x) + 52).toNat (by
  rw [Nat.pow_zero,Nat.mul_one]
  unfold nM
  rw [if_pos h,Nat.mul_assoc,<- Nat.pow_add,B_eq]
  congr 2
  rw [hE]; omega) (by omega)
 rw [hcg]
 obtain ⟨a1,a2,a3,a4⟩:=nearest_exact (sg x) (nM (rg x)) (nE (rg x) + 52).toNat m1 m2 (by rw [hE]; omega)
 exact ⟨by rw [a1],a2,by rw [hE]; omega⟩
def frx (x : Nat) : Nat:=wd (sg x) (1021 * B + nM (rg x))
def fri (x : Nat) : Int:=nE (rg x) - 1021
theorem frx_facts (x : Nat) (h0 : 0 < rg x) : sg (frx x) = sg x /\ rg (frx x) = 1021 * B + nM (rg x) /\ rg (frx x) < I /\ mant (rg (frx x)) = nM (rg x) /\ ex (rg (frx x)) = 1021 /\ frx x < 2 * W:=by
 obtain ⟨m1,m2⟩:=nM_range (rg x) h0
 have hlt : 1021 * B + nM (rg x) < I:=by unfold B I at *; omega
 have hW : 1021 * B + nM (rg x) < W:=Nat.lt_trans hlt I_lt_W
 unfold frx
 rw [sg_wd _ _ hW,rg_wd _ _ hW]
 exact ⟨rfl,rfl,hlt,mant_of 1021 _ m2 (.inr m1),ex_of 1021 _ m2 (.inr m1),wd_lt _ _ hW⟩
theorem field_exp (s : Bool) (r : Nat) (h : r < W) : wd s r / 4503599627370496 % 2048 = r / B:=by
 unfold wd B W at *
 cases s <;> simp <;> omega
theorem one_mul (y : Nat) (hy : y < 2 * W) (h : rg y < I) : double.mul 4607182418800017408 y = some y:=by
 have hc : rg 4607182418800017408 = 4607182418800017408:=by decide
 rw [mul_fin _ y (by rw [hc]; decide) h,show sg 4607182418800017408 = false from by decide,Bool.false_xor]
 have hp : pl 4607182418800017408 = -52:=by decide
 have hm : mant (rg 4607182418800017408) = 2 ^ 52:=by rw [hc]; decide
 rw [hp,hm]
 rw [nearest_congr (sg y) (2 ^ 52 * mant (rg y)) (mant (rg y)) (-52 + pl y) (pl y) 0 52 (by rw [Nat.pow_zero,Nat.mul_one,Nat.mul_comm]) (by omega)]
 unfold pl
 rw [nearest_units _ _ _ (by omega),show (-1074 + ((ex (rg y) : Nat) : Int) + 1074).toNat = ex (rg y) by omega]
 rw [show mant (rg y) * 2 ^ ex (rg y) = rv (rg y) from rfl,rnd_exact _ _ (Nat.le_of_lt h),wd_sg_rg y hy]
end Fl
end
end Go.Proofs.YtfpopdneokekiaaGreatDoor
namespace Go.Proofs.YtfpopdneokekiaaGreatDoor
open Go.RowKit
def NumV (w : World) (v : Value) (s : Bool) (N : Nat) (e : Int) : Prop:=∃ A c,v = .agg #[.bool s,.slice A (Nt.dg 18446744073709551616 N).length c,.int .i64 e] /\ U w A (Nt.dg 18446744073709551616 N).length c (Nt.dg 18446744073709551616 N)
theorem NumV.below {w w' : World} {v : Value} {s : Bool} {N : Nat} {e : Int} (h : NumV w v s N e) (hb : Below w.heap.size w w') : NumV w' v s N e:=by
 obtain ⟨A,c,hv,hu⟩:=h
 exact ⟨A,c,hv,hu.below hb⟩
theorem size_setCell (w : World) (p : Addr) (v : Value) : (w.setCell p v).heap.size = w.heap.size:=by simp [World.setCell]
theorem U.store {w : World} {A : Option Addr} {n c : Nat} {l : List Int} (h : U w A n c l) (p : Addr) (u v : Value) (hp : w.cell? p = some u) (hn : ∀ x,u ≠ .int .u64 x) : U (w.setCell p v) A n c l:=by
 obtain ⟨h1,h2,h3,h4⟩:=h
 refine ⟨h1,h2,h3,fun k x hk=>?_⟩
 obtain ⟨ad,e,hlt,hc⟩:=h4 k x hk
 refine ⟨ad,e,by rw [size_setCell]; exact hlt,?_⟩
 rw [World.cell?_setCell_other]
 ·exact hc
 ·intro he; rw [he,hc] at hp; exact hn x (Option.some.inj hp).symm
namespace Fl
theorem float_fields (x : Nat) (hx : x < 2 * W) : x / 4503599627370496 % 2048 = rg x / B /\ x % 4503599627370496 = rg x % B /\ x / 9223372036854775808 = (if sg x then 1 else 0):=by
 unfold sg rg B W at *
 refine ⟨by omega,by omega,?_⟩
 have : x / 9223372036854775808 = 0 \/ x / 9223372036854775808 = 1:=by omega
 rcases this with h | h <;> rw [h] <;> rfl
theorem float_zero (r : Nat) (h : r / B = 0) : mant r = r % B /\ ex r = 0:=by
 unfold mant ex B at *; omega
theorem float_pos (r : Nat) (h : r / B ≠ 0) : mant r = r % B + 4503599627370496 /\ ex r = r / B - 1:=by
 unfold mant ex B at *
 refine ⟨?_,rfl⟩
 have:=Nat.div_add_mod r 4503599627370496
 have e : r / 4503599627370496 = (r / 4503599627370496 - 1) + 1:=by omega
 rw [e,Nat.mul_add] at this
 rw [Nat.mul_comm]
 omega
theorem and_2047 (x : Nat) (h : x < 18446744073709551616) : bits BinOp.and IntKind.u64 ((x : Int) / 4503599627370496) 2047 = ((x / 4503599627370496 % 2048 : Nat) : Int):=by
 have e:=u64_and_nat (x / 4503599627370496) 2047 (by omega) (by decide)
 rw [show ((x : Int) / 4503599627370496) = ((x / 4503599627370496 : Nat) : Int) by omega]
 refine e.trans ?_
 rw [show 2047 = 2 ^ 11 - 1 from rfl,Nat.and_two_pow_sub_one_eq_mod]
end Fl
theorem bcell {W w1 : World} (hb : Below W.heap.size W w1) : (∀ b o,b < W.heap.size -> w1.cell? ⟨b,o,none⟩ = W.cell? ⟨b,o,none⟩) /\ (∀ b o,b < W.heap.size -> w1.frozen? ⟨b,o,none⟩ = W.frozen? ⟨b,o,none⟩) :=
 ⟨fun b o h=>hb.cell (p:=⟨b,o,none⟩) h,fun b o h=>hb.frozen (p:=⟨b,o,none⟩) h⟩
theorem num_store {w1 : World} {g : Nat} {b0 : Bool} {A0 : Option Addr} {n0 c0 : Nat} {e0 : Int} (h0 : w1.cell? ⟨g,0,none⟩ = some (.bool b0)) (h1 : w1.cell? ⟨g,1,none⟩ = some (.slice A0 n0 c0)) (h2 : w1.cell? ⟨g,2,none⟩ = some (.int .i64 e0))
  {A : Option Addr} {n c : Nat} {l : List Int} (hu : U w1 A n c l) (v1 v2 v3 : Value) :
  U (((w1.setCell ⟨g,0,none⟩ v1).setCell ⟨g,1,none⟩ v2).setCell ⟨g,2,none⟩ v3) A n c l /\ (∀ B (wb : World),B <= g -> Below B wb w1 -> Below B wb (((w1.setCell ⟨g,0,none⟩ v1).setCell ⟨g,1,none⟩ v2).setCell ⟨g,2,none⟩ v3)) /\
  (((w1.setCell ⟨g,0,none⟩ v1).setCell ⟨g,1,none⟩ v2).setCell ⟨g,2,none⟩ v3).cell? ⟨g,0,none⟩ = some v1 /\ (((w1.setCell ⟨g,0,none⟩ v1).setCell ⟨g,1,none⟩ v2).setCell ⟨g,2,none⟩ v3).cell? ⟨g,1,none⟩ = some v2 /\ (((w1.setCell ⟨g,0,none⟩ v1).setCell ⟨g,1,none⟩ v2).setCell ⟨g,2,none⟩ v3).cell? ⟨g,2,none⟩ = some v3:=by
 have n01 : (⟨g,0,none⟩ : Addr) ≠ ⟨g,1,none⟩:=by simp
 have n02 : (⟨g,0,none⟩ : Addr) ≠ ⟨g,2,none⟩:=by simp
 have n12 : (⟨g,1,none⟩ : Addr) ≠ ⟨g,2,none⟩:=by simp
 have k1 : (w1.setCell ⟨g,0,none⟩ v1).cell? ⟨g,1,none⟩ = some (.slice A0 n0 c0):=(World.cell?_setCell_other _ _ _ _ n01).trans h1
 have k2 : (w1.setCell ⟨g,0,none⟩ v1).cell? ⟨g,2,none⟩ = some (.int .i64 e0):=(World.cell?_setCell_other _ _ _ _ n02).trans h2
 have k3 : ((w1.setCell ⟨g,0,none⟩ v1).setCell ⟨g,1,none⟩ v2).cell? ⟨g,2,none⟩ = some (.int .i64 e0):=(World.cell?_setCell_other _ _ _ _ n12).trans k2
 refine ⟨?_,fun B wb hB hb=>((hb.setCell (p:=⟨g,0,none⟩) hB _).setCell (p:=⟨g,1,none⟩) hB _).setCell (p:=⟨g,2,none⟩) hB _,?_,?_,?_⟩
 ·exact ((hu.store _ _ v1 h0 (fun x hx=>by cases hx)).store _ _ v2 k1 (fun x hx=>by cases hx)).store _ _ v3 k3 (fun x hx=>by cases hx)
 ·rw [World.cell?_setCell_other _ _ _ _ n02.symm,World.cell?_setCell_other _ _ _ _ n01.symm]; exact World.cell?_setCell_same _ _ _ h0
 ·rw [World.cell?_setCell_other _ _ _ _ n12.symm]; exact World.cell?_setCell_same _ _ _ k1
 ·exact World.cell?_setCell_same _ _ _ k3
theorem new_cells (w w1 : World) (a b c : Value) (t : TypeId) (hb : Below (w.alloc (.cells #[a,b,c] t)).heap.size (w.alloc (.cells #[a,b,c] t)) w1) : w1.cell? ⟨w.heap.size,0,none⟩ = some a /\ w1.cell? ⟨w.heap.size,1,none⟩ = some b /\ w1.cell? ⟨w.heap.size,2,none⟩ = some c /\ Below w.heap.size w w1:=by
 have hlt:=alloc_lt w (.cells #[a,b,c] t)
 have e : ∀ i,w1.cell? ⟨w.heap.size,i,none⟩ = (#[a,b,c] : Array Value)[i]?:=fun i=>by
  rw [hb.cell (p:=⟨w.heap.size,i,none⟩) hlt]
  have h : (w.alloc (.cells #[a,b,c] t)).heap[w.heap.size]? = some (.cells #[a,b,c] t (0,0)):=heap_alloc_new w _
  exact cell_of_row _ _ _ _ _ _ h
 exact ⟨e 0,e 1,e 2,((Below.refl w.heap.size w).alloc (Nat.le_refl _) _).trans (hb.mono (Nat.le_of_lt hlt))⟩
theorem natOf_int (x : Int) (w : World) (h0 : 0 <= x) (hx : x < 18446744073709551616) : Calls Tryz.prog 97 #[.int .u64 x] w (NatPost x.toNat w):=by
 have h:=natOf_any x.toNat w (by omega)
 rwa [Int.toNat_of_nonneg h0] at h
set_option maxRecDepth 400000 in
set_option maxHeartbeats 4000000 in
theorem float_any (x : Nat) (w : World) (hx : x < 2 * Fl.W) :
  Calls Tryz.prog 135 #[.float .f64 x] w fun e w'=>∃ v,e = .returned v /\ NumV w' v (Fl.sg x) (Fl.mant (Fl.rg x)) (Fl.pl x) /\ Below w.heap.size w w':=by
 have h1:=run_bits x
 obtain ⟨f1,f2,f3⟩:=Fl.float_fields x hx
 have hx2 : x < 18446744073709551616:=by unfold Fl.W at hx; omega
 have h2:=Fl.and_2047 x hx2
 rw [f1] at h2
 have hE : Fl.rg x / Fl.B < 2048:=by have:=Fl.rg_lt x; unfold Fl.W at this; unfold Fl.B; omega
 have h3 : ((x : Int) / 9223372036854775808 == 1) = Fl.sg x:=by
  cases hs : Fl.sg x <;> rw [hs] at f3 <;> simp at f3 <;> simp <;> omega
 have h4 : (x : Int) % 4503599627370496 = ((Fl.rg x % Fl.B : Nat) : Int):=by omega
 have hfB : Fl.rg x % Fl.B < 4503599627370496:=Nat.mod_lt _ (by decide)
 by_cases h0 : Fl.rg x / Fl.B = 0
 ·obtain ⟨g1,g2⟩:=Fl.float_zero _ h0
  have G1:=Hd g1
  have G2:=Hd g2
  rw [h0] at h2
  generalize Fl.rg x % Fl.B = f at *
  clear f1 f2 f3 g1 g2 h0 hE
  go_enter Tryz.func135,Tryz.ntmps135
  go_wp2_with fail
  refine (natOf_int _ _ (by omega) (by omega)).mono ?_
  rintro e w1 ⟨A1,c1,rfl,hu,hb⟩
  obtain ⟨hc,hf⟩:=bcell hb
  obtain ⟨k0,k1,k2,hbw⟩:=new_cells w w1 _ _ _ _ hb
  first | rw [show ((x : Int) % 4503599627370496).toNat = f by omega] at hu ⊢ | rw [show ((f : Int)).toNat = f by omega] at hu ⊢
  obtain ⟨r1,r2,r3,r4,r5⟩:=num_store k0 k1 k2 hu (Value.bool (Fl.sg x)) (.slice A1 (Nt.dg 18446744073709551616 f).length c1) (.int .i64 (-1074))
  have R1:=Hd r1
  have R2:=Hd (r2 _ _ (Nat.le_refl _) hbw)
  have R3:=Hd (And.intro r3 (And.intro r4 r5))
  clear hu hb r1 r2 r3 r4 r5 k0 k1 k2 hbw
  go_wp2
  refine bodyPost_ret (v:=.agg #[.bool (Fl.sg x),.slice A1 (Nt.dg 18446744073709551616 f).length c1,.int .i64 (-1074)]) (by simp [results,Tryz.results135,go_sem,R3.out.1,R3.out.2.1,R3.out.2.2]) rfl ⟨_,rfl,⟨A1,c1,by rw [G1.out]; unfold Fl.pl; rw [G2.out]; rfl,by rw [G1.out]; exact R1.out⟩,R2.out⟩
 ·obtain ⟨g1,g2⟩:=Fl.float_pos _ h0
  have G1:=Hd g1
  have G2:=Hd g2
  generalize Fl.rg x % Fl.B = f at *
  generalize Fl.rg x / Fl.B = E at *
  have he : ((E : Int) == 0) = false:=by simp; omega
  clear f1 f2 f3 g1 g2
  go_enter Tryz.func135,Tryz.ntmps135
  go_wp2_with fail
  refine (natOf_int _ _ (by omega) (by omega)).mono ?_
  rintro e w1 ⟨A1,c1,rfl,hu,hb⟩
  obtain ⟨hc,hf⟩:=bcell hb
  obtain ⟨k0,k1,k2,hbw⟩:=new_cells w w1 _ _ _ _ hb
  rw [show ((f : Int) + 4503599627370496).toNat = f + 4503599627370496 by omega] at hu ⊢
  obtain ⟨r1,r2,r3,r4,r5⟩:=num_store k0 k1 k2 hu (Value.bool (Fl.sg x)) (.slice A1 (Nt.dg 18446744073709551616 (f + 4503599627370496)).length c1) (.int .i64 ((E : Int) - 1075))
  have R1:=Hd r1
  have R2:=Hd (r2 _ _ (Nat.le_refl _) hbw)
  have R3:=Hd (And.intro r3 (And.intro r4 r5))
  clear hu hb r1 r2 r3 r4 r5 k0 k1 k2 hbw
  go_wp2
  refine bodyPost_ret (v:=.agg #[.bool (Fl.sg x),.slice A1 (Nt.dg 18446744073709551616 (f + 4503599627370496)).length c1,.int .i64 ((E : Int) - 1075)]) (by simp [results,Tryz.results135,go_sem,R3.out.1,R3.out.2.1,R3.out.2.2]) rfl ⟨_,rfl,⟨A1,c1,by rw [G1.out]; unfold Fl.pl; rw [G2.out,show (-1074 + ((E - 1 : Nat) : Int)) = (E : Int) - 1075 by omega],by rw [G1.out]; exact R1.out⟩,R2.out⟩
end Go.Proofs.YtfpopdneokekiaaGreatDoor
namespace Go.Proofs.YtfpopdneokekiaaGreatDoor
open Go.RowKit
set_option maxRecDepth 400000 in
set_option maxHeartbeats 4000000 in
theorem zero_any (v : Value) (s : Bool) (N : Nat) (e : Int) (w : World) (hv : NumV w v s N e) (hl : (Nt.dg 18446744073709551616 N).length <= 100000000) :
  Calls Tryz.prog 50 #[v] w fun r w'=>r = .returned (.bool (decide (N = 0))) /\ Below w.heap.size w w':=by
 obtain ⟨A,c,rfl,hu⟩:=hv
 have hb0:=natBits_any A _ c _ (w.alloc (.cells #[.bool s,.slice A (Nt.dg 18446744073709551616 N).length c,.int .i64 e] 52)) (hu.below ((Below.refl w.heap.size w).alloc (Nat.le_refl _) _)) (by omega) (Nt.dig_dg 18446744073709551616 (by decide) N)
 rw [Nt.val_dg _ (by decide)] at hb0
 have HB0:=Hd hb0
 have HE : Hid ((((bitsN N : Nat) : Int) == 0) = decide (N = 0)):=Hd (by
  unfold bitsN
  by_cases h : N = 0
  ·simp [h]
  ·rw [if_neg h]; simp [h]; omega)
 clear hb0 hu
 generalize (Nt.dg 18446744073709551616 N).length = n at *
 go_enter Tryz.func50,Tryz.ntmps50
 go_wp2_with fail
 refine HB0.out.mono ?_
 rintro r w1 ⟨rfl,hb⟩
 have hb2:=Hd (((Below.refl w.heap.size w).alloc (Nat.le_refl _) _).trans (hb.mono (Nat.le_of_lt (alloc_lt w _))))
 clear hb
 go_wp2
 go_ret
 exact ⟨ret_bool HE.out,hb2.out⟩
theorem bitsN_len (N : Nat) : bitsN N <= 64 * (Nt.dg 18446744073709551616 N).length:=by
 unfold bitsN
 split
 ·omega
 ·rename_i h
  have h1:=Nt.val_lt 18446744073709551616 (by decide) _ (Nt.dig_dg 18446744073709551616 (by decide) N)
  rw [Nt.val_dg _ (by decide)] at h1
  generalize (Nt.dg 18446744073709551616 N).length = m at *
  rw [show (18446744073709551616 : Nat) = 2 ^ 64 from rfl,<- Nat.pow_mul] at h1
  have:=(Nat.log2_lt h).2 h1
  omega
set_option maxRecDepth 400000 in
set_option maxHeartbeats 4000000 in
theorem top_any (v : Value) (s : Bool) (N : Nat) (e : Int) (w : World) (hv : NumV w v s N e) (hl : (Nt.dg 18446744073709551616 N).length <= 100000000) (he1 : -1000000000 <= e) (he2 : e <= 1000000000) :
  Calls Tryz.prog 95 #[v] w fun r w'=>r = .returned (.int .i64 (e + (bitsN N : Nat))) /\ Below w.heap.size w w':=by
 obtain ⟨A,c,rfl,hu⟩:=hv
 have hb0:=fun w1 (hb : Below w.heap.size w w1)=>natBits_any A _ c _ w1 (hu.below hb) (by omega) (Nt.dig_dg 18446744073709551616 (by decide) N)
 rw [Nt.val_dg _ (by decide)] at hb0
 have HB0:=Hd hb0
 have hlen:=bitsN_len N
 clear hb0 hu
 generalize (Nt.dg 18446744073709551616 N).length = n at *
 generalize bitsN N = b at *
 have hbb : b <= 6400000000:=by omega
 clear hlen
 go_enter Tryz.func95,Tryz.ntmps95
 go_wp2_with fail
 obtain ⟨W,hW⟩ : ∃ W,W = w.alloc (.cells #[.bool s,.slice A n c,.int .i64 e] 52):=⟨_,rfl⟩
 obtain ⟨g,hg⟩ : ∃ g,g = w.heap.size:=⟨_,rfl⟩
 obtain ⟨k0,k1,k2,hbw⟩:=new_cells w W _ _ _ _ (by rw [hW]; exact Below.refl _ _)
 rw [<- hW,<- hg]
 rw [<- hg] at k0 k1 k2
 have HBW:=Hd hbw
 have hgW : g < W.heap.size:=by rw [hW,hg]; exact alloc_lt w _
 have HC : ∀ w1,(w1.cell? ⟨g,1,none⟩ = some (.slice A n c) /\ w1.cell? ⟨g,2,none⟩ = some (.int .i64 e) /\ Below W.heap.size W w1) -> Calls Tryz.prog 93 #[.slice A n c] w1 fun r w'=>r = .returned (.int .i64 b) /\ (w'.cell? ⟨g,1,none⟩ = some (.slice A n c) /\ w'.cell? ⟨g,2,none⟩ = some (.int .i64 e) /\ Below W.heap.size W w'):=fun w1 ⟨a1,a2,a3⟩ =>
  (HB0.out w1 (HBW.out.trans (a3.mono HBW.out.size))).mono fun r w' ⟨h1,h2⟩=>⟨h1,(h2.cell (p:=⟨g,1,none⟩) (Nat.lt_of_lt_of_le hgW a3.size)).trans a1,(h2.cell (p:=⟨g,2,none⟩) (Nat.lt_of_lt_of_le hgW a3.size)).trans a2,a3.trans (h2.mono a3.size)⟩
 have HCH:=Hd HC
 have hwr : IntKind.i64.wrap (e + (b : Int)) = e + (b : Int):=by rw [IntKind.wrap_i64]; omega
 clear hbw hW hg HC hgW
 go_region_held3 (fun w'=>w'.cell? ⟨g,1,none⟩ = some (.slice A n c) /\ w'.cell? ⟨g,2,none⟩ = some (.int .i64 e) /\ Below W.heap.size W w') ((first | assumption | exact ⟨k1,k2,(Below.refl _ _).drew⟩)) (first | (go_at_call 93; refine (HCH.out _ ?_).mono ?_; (assumption); rintro r w' ⟨rfl,hS⟩))
 obtain ⟨hs1,hs2,hs3⟩:=hS
 have HS:=Hd (HBW.out.trans (hs3.mono HBW.out.size))
 clear hs1 hs2 hs3 k0 k1 k2 HCH
 go_wp2
 go_ret
 exact ⟨rfl,HS.out⟩
def signI (s : Bool) (N : Nat) : Int:=if N = 0 then 0 else if s then -1 else 1
set_option maxRecDepth 400000 in
set_option maxHeartbeats 4000000 in
theorem sign_any (v : Value) (s : Bool) (N : Nat) (e : Int) (w : World) (hv : NumV w v s N e) (hl : (Nt.dg 18446744073709551616 N).length <= 100000000) :
  Calls Tryz.prog 94 #[v] w fun r w'=>r = .returned (.int .i64 (signI s N)) /\ Below w.heap.size w w':=by
 have hz:=fun w1 (hb : Below w.heap.size w w1)=>zero_any v s N e w1 (hv.below hb) hl
 obtain ⟨A,c,rfl,hu⟩:=hv
 have HZ:=Hd hz
 clear hz hu
 generalize (Nt.dg 18446744073709551616 N).length = n at *
 have HB1:=Hd ((Below.refl w.heap.size w).alloc (Nat.le_refl _) (.cells #[.bool s,.slice A n c,.int .i64 e] 52))
 unfold signI
 by_cases h : N = 0
 ·have hd : decide (N = 0) = true:=decide_eq_true h
  rw [if_pos h]
  clear h
  go_enter Tryz.func94,Tryz.ntmps94
  go_wp2_with fail
  refine (HZ.out _ HB1.out).mono ?_
  rintro r w1 ⟨rfl,hb⟩
  have HB:=Hd (HB1.out.trans (hb.mono HB1.out.size))
  rw [hd]
  clear hb hd
  go_wp2
  go_ret
  exact ⟨rfl,HB.out⟩
 ·have hd : decide (N = 0) = false:=decide_eq_false h
  rw [if_neg h]
  clear h
  cases s
  all_goals
   go_enter Tryz.func94,Tryz.ntmps94
   go_wp2_with fail
   refine (HZ.out _ HB1.out).mono ?_
   rintro r w1 ⟨rfl,hb⟩
   obtain ⟨k0,k1,k2,hbw⟩:=new_cells w w1 _ _ _ _ hb
   have HB:=Hd (HB1.out.trans (hb.mono HB1.out.size))
   rw [hd]
   clear hb hd hbw
   go_wp2
   go_ret
   exact ⟨rfl,HB.out⟩
set_option maxRecDepth 400000 in
set_option maxHeartbeats 4000000 in
theorem minus_any (v : Value) (s : Bool) (N : Nat) (e : Int) (w : World) (hv : NumV w v s N e) :
  Calls Tryz.prog 137 #[v] w fun r w'=>∃ v',r = .returned v' /\ NumV w' v' (!s) N e /\ Below w.heap.size w w':=by
 obtain ⟨A,c,rfl,hu⟩:=hv
 unfold NumV
 have HU:=Hd hu
 clear hu
 generalize (Nt.dg 18446744073709551616 N) = l at *
 generalize l.length = n at *
 go_enter Tryz.func137,Tryz.ntmps137
 go_wp2
 have HB:=Hd (((Below.refl w.heap.size w).alloc (Nat.le_refl _) (.cells #[.bool s,.slice A n c,.int .i64 e] 52)).alloc (Nat.le_of_lt (alloc_lt w _)) (.cells #[.bool !s,.slice A n c,.int .i64 e] 52))
 refine bodyPost_ret (v:=.agg #[.bool !s,.slice A n c,.int .i64 e]) (by simp [results,Tryz.results137,go_sem]) rfl ⟨_,rfl,⟨A,c,rfl,HU.out.below HB.out⟩,HB.out⟩
end Go.Proofs.YtfpopdneokekiaaGreatDoor
namespace Go.Proofs.YtfpopdneokekiaaGreatDoor
open Go.RowKit
def Cells3 (w : World) (g : Nat) (s : Bool) (A : Option Addr) (n c : Nat) (e : Int) : Prop:=w.cell? ⟨g,0,none⟩ = some (.bool s) /\ w.cell? ⟨g,1,none⟩ = some (.slice A n c) /\ w.cell? ⟨g,2,none⟩ = some (.int .i64 e)
def Shape (w : World) (g : Nat) : Prop:=g < w.heap.size /\ (∀ j,w.frozen? ⟨g,j,none⟩ = false) /\ ∃ s A n c e,Cells3 w g s A n c e
theorem Cells3.below {w w' : World} {g : Nat} {s : Bool} {A : Option Addr} {n c : Nat} {e : Int} (h : Cells3 w g s A n c e) (hg : g < w.heap.size) (hb : Below w.heap.size w w') : Cells3 w' g s A n c e :=
 ⟨(hb.cell (p:=⟨g,0,none⟩) hg).trans h.1,(hb.cell (p:=⟨g,1,none⟩) hg).trans h.2.1,(hb.cell (p:=⟨g,2,none⟩) hg).trans h.2.2⟩
theorem Shape.below {w w' : World} {g : Nat} (h : Shape w g) (hb : Below w.heap.size w w') : Shape w' g:=by
 obtain ⟨hg,hf,s,A,n,c,e,h⟩:=h
 exact ⟨Nat.lt_of_lt_of_le hg hb.size,fun j=>(hb.frozen (p:=⟨g,j,none⟩) hg).trans (hf j),s,A,n,c,e,h.below hg hb⟩
theorem setCell_block (w : World) (g h i j : Nat) (v : Value) (hne : g ≠ h) : (w.setCell ⟨g,i,none⟩ v).cell? ⟨h,j,none⟩ = w.cell? ⟨h,j,none⟩ :=
 World.cell?_setCell_other _ _ _ _ (fun e=>hne (by injection e))
theorem Cells3.store {w : World} {g h : Nat} {s : Bool} {A : Option Addr} {n c : Nat} {e : Int} (hc : Cells3 w h s A n c e) (hne : g ≠ h) (v1 v2 v3 : Value) : Cells3 (((w.setCell ⟨g,0,none⟩ v1).setCell ⟨g,1,none⟩ v2).setCell ⟨g,2,none⟩ v3) h s A n c e:=by
 unfold Cells3 at *
 rw [setCell_block _ _ _ _ _ _ hne,setCell_block _ _ _ _ _ _ hne,setCell_block _ _ _ _ _ _ hne,setCell_block _ _ _ _ _ _ hne,setCell_block _ _ _ _ _ _ hne,setCell_block _ _ _ _ _ _ hne,setCell_block _ _ _ _ _ _ hne,setCell_block _ _ _ _ _ _ hne,setCell_block _ _ _ _ _ _ hne]
 exact hc
def Two (w0 : World) (g0 : Nat) (s0 : Bool) (A0 : Option Addr) (n0 c0 : Nat) (e0 : Int) (g1 : Nat) (s1 : Bool) (A1 : Option Addr) (n1 c1 : Nat) (e1 : Int) (g2 : Nat) (w : World) : Prop :=
 (w.cell? ⟨g0,0,none⟩ = some (.bool s0) /\ w.cell? ⟨g0,1,none⟩ = some (.slice A0 n0 c0) /\ w.cell? ⟨g0,2,none⟩ = some (.int .i64 e0)) /\
 (w.cell? ⟨g1,0,none⟩ = some (.bool s1) /\ w.cell? ⟨g1,1,none⟩ = some (.slice A1 n1 c1) /\ w.cell? ⟨g1,2,none⟩ = some (.int .i64 e1)) /\ Below w0.heap.size w0 w /\ (g0 < w.heap.size /\ g1 < w.heap.size) /\ Shape w g2
section
variable {w0 : World} {g0 : Nat} {s0 : Bool} {A0 : Option Addr} {n0 c0 : Nat} {e0 : Int} {g1 : Nat} {s1 : Bool} {A1 : Option Addr} {n1 c1 : Nat} {e1 : Int} {g2 : Nat} {w : World}
theorem Two.go (h : Two w0 g0 s0 A0 n0 c0 e0 g1 s1 A1 n1 c1 e1 g2 w) {w' : World} (hb : Below w.heap.size w w') : Two w0 g0 s0 A0 n0 c0 e0 g1 s1 A1 n1 c1 e1 g2 w':=by
 obtain ⟨h1,h2,h3,⟨h4,h5⟩,h6⟩:=h
 exact ⟨Cells3.below h1 h4 hb,Cells3.below h2 h5 hb,h3.trans (hb.mono h3.size),⟨Nat.lt_of_lt_of_le h4 hb.size,Nat.lt_of_lt_of_le h5 hb.size⟩,h6.below hb⟩
theorem Two.drew (h : Two w0 g0 s0 A0 n0 c0 e0 g1 s1 A1 n1 c1 e1 g2 w) : Two w0 g0 s0 A0 n0 c0 e0 g1 s1 A1 n1 c1 e1 g2 w.drew:=h.go (Below.refl _ _).drew
theorem Two.store (h : Two w0 g0 s0 A0 n0 c0 e0 g1 s1 A1 n1 c1 e1 g2 w) (h02 : g2 ≠ g0) (h12 : g2 ≠ g1) (hw : w0.heap.size <= g2) (b : Bool) (A : Option Addr) (n c : Nat) (e : Int) :
  Two w0 g0 s0 A0 n0 c0 e0 g1 s1 A1 n1 c1 e1 g2 (((w.setCell ⟨g2,0,none⟩ (.bool b)).setCell ⟨g2,1,none⟩ (.slice A n c)).setCell ⟨g2,2,none⟩ (.int .i64 e)):=by
 obtain ⟨h1,h2,h3,⟨h4,h5⟩,hg,hf,s,A',n',c',e',k0,k1,k2⟩:=h
 have hz : (((w.setCell ⟨g2,0,none⟩ (.bool b)).setCell ⟨g2,1,none⟩ (.slice A n c)).setCell ⟨g2,2,none⟩ (.int .i64 e)).heap.size = w.heap.size:=by rw [size_setCell,size_setCell,size_setCell]
 have hu : U w none 0 0 []:=⟨rfl,Nat.le_refl _,fun _=>rfl,fun k x hk=>by simp at hk⟩
 obtain ⟨_,r2,r3,r4,r5⟩:=num_store k0 k1 k2 hu (.bool b) (.slice A n c) (.int .i64 e)
 exact ⟨Cells3.store h1 h02 _ _ _,Cells3.store h2 h12 _ _ _,r2 _ _ hw h3,⟨by rw [hz]; exact h4,by rw [hz]; exact h5⟩,by rw [hz]; exact hg,fun j=>by rw [World.frozen?_setCell,World.frozen?_setCell,World.frozen?_setCell]; exact hf j,b,A,n,c,e,r3,r4,r5⟩
theorem Two.out (h : Two w0 g0 s0 A0 n0 c0 e0 g1 s1 A1 n1 c1 e1 g2 w) (hw : w0.heap.size <= g2) {A : Option Addr} {n c : Nat} {l : List Int} (hu : U w A n c l) (v1 v2 v3 : Value) :
  U (((w.setCell ⟨g2,0,none⟩ v1).setCell ⟨g2,1,none⟩ v2).setCell ⟨g2,2,none⟩ v3) A n c l /\ Below w0.heap.size w0 (((w.setCell ⟨g2,0,none⟩ v1).setCell ⟨g2,1,none⟩ v2).setCell ⟨g2,2,none⟩ v3) /\
  (((w.setCell ⟨g2,0,none⟩ v1).setCell ⟨g2,1,none⟩ v2).setCell ⟨g2,2,none⟩ v3).cell? ⟨g2,0,none⟩ = some v1 /\ (((w.setCell ⟨g2,0,none⟩ v1).setCell ⟨g2,1,none⟩ v2).setCell ⟨g2,2,none⟩ v3).cell? ⟨g2,1,none⟩ = some v2 /\ (((w.setCell ⟨g2,0,none⟩ v1).setCell ⟨g2,1,none⟩ v2).setCell ⟨g2,2,none⟩ v3).cell? ⟨g2,2,none⟩ = some v3:=by
 obtain ⟨h1,h2,h3,⟨h4,h5⟩,hg,_,s,A',n',c',e',k0,k1,k2⟩:=h
 obtain ⟨r1,r2,r3⟩:=num_store k0 k1 k2 hu v1 v2 v3
 exact ⟨r1,r2 _ _ hw h3,r3⟩
end
theorem Two.start (w : World) (s0 : Bool) (A0 : Option Addr) (n0 c0 : Nat) (e0 : Int) (s1 : Bool) (A1 : Option Addr) (n1 c1 : Nat) (e1 : Int) (t : TypeId) :
  Two w w.heap.size s0 A0 n0 c0 e0 (w.heap.size + 1) s1 A1 n1 c1 e1 (w.heap.size + 1 + 1) (((w.alloc (.cells #[.bool s0,.slice A0 n0 c0,.int .i64 e0] t)).alloc (.cells #[.bool s1,.slice A1 n1 c1,.int .i64 e1] t)).alloc (.cells #[.bool false,.slice none 0 0,.int .i64 0] t)):=by
 have z1 : (w.alloc (.cells #[.bool s0,.slice A0 n0 c0,.int .i64 e0] t)).heap.size = w.heap.size + 1:=by simp
 generalize h1 : w.alloc (.cells #[.bool s0,.slice A0 n0 c0,.int .i64 e0] t) = W1 at *
 have z2 : (W1.alloc (.cells #[.bool s1,.slice A1 n1 c1,.int .i64 e1] t)).heap.size = w.heap.size + 1 + 1:=by simp [z1]
 obtain ⟨a0,a1,a2,ha⟩:=new_cells w W1 (.bool s0) (.slice A0 n0 c0) (.int .i64 e0) t (by rw [h1]; exact Below.refl _ _)
 generalize h2 : W1.alloc (.cells #[.bool s1,.slice A1 n1 c1,.int .i64 e1] t) = W2 at *
 obtain ⟨b0,b1,b2,hb⟩:=new_cells W1 W2 (.bool s1) (.slice A1 n1 c1) (.int .i64 e1) t (by rw [h2]; exact Below.refl _ _)
 have z3 : (W2.alloc (.cells #[.bool false,.slice none 0 0,.int .i64 0] t)).heap.size = w.heap.size + 1 + 1 + 1:=by simp [z2]
 generalize h3 : W2.alloc (.cells #[.bool false,.slice none 0 0,.int .i64 0] t) = W3 at *
 obtain ⟨d0,d1,d2,hd⟩:=new_cells W2 W3 (.bool false) (.slice none 0 0) (.int .i64 0) t (by rw [h3]; exact Below.refl _ _)
 rw [z1] at b0 b1 b2
 rw [z2] at d0 d1 d2
 have hfz : ∀ j,W3.frozen? ⟨w.heap.size + 1 + 1,j,none⟩ = false:=fun j=>by
  rw [<- h3,<- z2]
  exact frozen_of_row _ _ _ _ _ (heap_alloc_new W2 _)
 have e1 : Cells3 W3 w.heap.size s0 A0 n0 c0 e0:=Cells3.below (Cells3.below ⟨a0,a1,a2⟩ (by omega) hb) (by omega) hd
 have e2 : Cells3 W3 (w.heap.size + 1) s1 A1 n1 c1 _:=Cells3.below ⟨b0,b1,b2⟩ (by omega) hd
 exact ⟨e1,e2,ha.trans ((hb.mono ha.size).trans (hd.mono (ha.trans (hb.mono ha.size)).size)),⟨by omega,by omega⟩,by omega,hfz,_,_,_,_,_,d0,d1,d2⟩
set_option maxRecDepth 400000 in
set_option maxHeartbeats 4000000 in
theorem times_any (v : Value) (s : Bool) (N : Nat) (e : Int) (v' : Value) (s' : Bool) (M : Nat) (f : Int) (w : World) (hv : NumV w v s N e) (hv' : NumV w v' s' M f) (hl : (Nt.dg 18446744073709551616 N).length <= 100000000) (hl' : (Nt.dg 18446744073709551616 M).length <= 100000000)
  (he1 : -1000000000 <= e) (he2 : e <= 1000000000) (hf1 : -1000000000 <= f) (hf2 : f <= 1000000000) :
  Calls Tryz.prog 55 #[v,v'] w fun r w'=>∃ v'',r = .returned v'' /\ NumV w' v'' (s != s') (N * M) (e + f) /\ Below w.heap.size w w':=by
 obtain ⟨A,c,rfl,hu⟩:=hv
 obtain ⟨A',c',rfl,hu'⟩:=hv'
 have hm:=fun w1 (hb : Below w.heap.size w w1)=>natMul_any A _ c _ A' _ c' _ w1 (hu.below hb) hl (Nt.dig_dg 18446744073709551616 (by decide) N) (hu'.below hb) hl' (Nt.dig_dg 18446744073709551616 (by decide) M)
 rw [Nt.val_dg _ (by decide),Nt.val_dg _ (by decide)] at hm
 have HM:=Hd hm
 clear hm hu hu'
 generalize (Nt.dg 18446744073709551616 N).length = n at *
 generalize (Nt.dg 18446744073709551616 M).length = n' at *
 unfold NumV
 unfold NatPost at HM
 generalize (Nt.dg 18446744073709551616 (N * M)) = l at *
 generalize l.length = k at *
 have hst:=Two.start w s A n c e s' A' n' c' f 52
 go_enter Tryz.func55,Tryz.ntmps55
 go_wp2_with fail
 generalize ((w.alloc (.cells #[.bool s,.slice A n c,.int .i64 e] 52)).alloc (.cells #[.bool s',.slice A' n' c',.int .i64 f] 52)).alloc (.cells #[.bool false,.slice none 0 0,.int .i64 0] 52) = W at *
 have HC : Hid (∀ x,Two w w.heap.size s A n c e (w.heap.size + 1) s' A' n' c' f (w.heap.size + 1 + 1) x -> Calls Tryz.prog 103 #[.slice A n c,.slice A' n' c'] x fun r w'=>∃ A3 c3,r = .returned (.slice A3 k c3) /\ U w' A3 k c3 l /\ Two w w.heap.size s A n c e (w.heap.size + 1) s' A' n' c' f (w.heap.size + 1 + 1) w') :=
  Hd (fun x hx=>(HM.out x hx.2.2.1).mono fun r w' ⟨A3,c3,h1,h2,h3⟩=>⟨A3,c3,h1,h2,hx.go h3⟩)
 have HS0:=Hd hst.drew
 have KEEP : Hid (∀ x,Two w w.heap.size s A n c e (w.heap.size + 1) s' A' n' c' f (w.heap.size + 1 + 1) x -> ∀ b A n c e,_):=Hd (fun x hx b A n c e=>Two.store hx (by omega) (by omega) (by omega) b A n c e)
 have hwr : IntKind.i64.wrap (e + f) = e + f:=by rw [IntKind.wrap_i64]; omega
 obtain ⟨k0,k1,k2,k3,k4⟩:=hst
 go_region_held3 (fun x=>(x.cell? ⟨w.heap.size,0,none⟩ = some (.bool s) /\ x.cell? ⟨w.heap.size,1,none⟩ = some (.slice A n c) /\ x.cell? ⟨w.heap.size,2,none⟩ = some (.int .i64 e)) /\ (x.cell? ⟨w.heap.size + 1,0,none⟩ = some (.bool s') /\ x.cell? ⟨w.heap.size + 1,1,none⟩ = some (.slice A' n' c') /\ x.cell? ⟨w.heap.size + 1,2,none⟩ = some (.int .i64 f)) /\ Below w.heap.size w x /\ (w.heap.size < x.heap.size /\ w.heap.size + 1 < x.heap.size) /\ Shape x (w.heap.size + 1 + 1)) ((first | assumption | exact HS0.out | exact KEEP.out _ (by assumption) _ _ _ _ _)) (first | (go_at_call 103; refine (HC.out _ ?_).mono ?_; (assumption); rintro r w' ⟨A3,c3,rfl,hu3,hS⟩; have hS2:=hS; obtain ⟨_,_,_,_,_,hfz,_,_,_,_,_,m0,m1,m2⟩:=hS2; have z0:=hfz 0; have z1:=hfz 1; have z2:=hfz 2; clear hfz))
 have OUT:=Hd (Two.out (w:=w') hS (by omega) hu3 (.bool (!(s == s'))) (.slice A3 k c3) (.int .i64 (e + f)))
 clear hS m0 m1 m2 z0 z1 z2 hu3 HC KEEP HS0 HM k0 k1 k2 k3 k4
 go_wp2
 refine bodyPost_ret (v:=.agg #[.bool (!(s == s')),.slice A3 k c3,.int .i64 (e + f)]) (by simp [results,Tryz.results55,go_sem,OUT.out.2.2.1,OUT.out.2.2.2.1,OUT.out.2.2.2.2]) rfl ⟨_,rfl,⟨A3,c3,rfl,OUT.out.1⟩,OUT.out.2.1⟩
end Go.Proofs.YtfpopdneokekiaaGreatDoor
namespace Go.Proofs.YtfpopdneokekiaaGreatDoor
section
open Go.RowKit
namespace Nt
theorem drop_val (B : Nat) (l : List Int) (k : Nat) (a : Int) (h : l[k]? = some a) : val B (l.drop k) = a.toNat + B * val B (l.drop (k + 1)):=by
 obtain ⟨hk,e⟩:=List.getElem?_eq_some_iff.1 h
 rw [List.drop_eq_getElem_cons hk,e]; rfl
theorem drop_set (l : List Int) (k : Nat) (v : Int) : (l.set k v).drop (k + 1) = l.drop (k + 1):=by
 rw [List.drop_set,if_pos (Nat.lt_succ_self k)]
theorem short_step (x o : List Int) (k Y r : Nat) (a S : Int) (hY : 0 < Y) (ha : x[k]? = some a) (hl : k < o.length) (ha0 : 0 <= a) (hS : S = (r : Int) * 4294967296 + a)
  (hval : val 4294967296 (x.drop (k + 1)) = Y * val 4294967296 (o.drop (k + 1)) + r) :
  val 4294967296 (x.drop k) = Y * val 4294967296 ((o.set k (S / (Y : Int))).drop k) + (S % (Y : Int)).toNat:=by
 have hu : (o.set k (S / (Y : Int)))[k]? = some (S / (Y : Int)):=by simp [hl]
 rw [drop_val _ _ _ _ ha,drop_val _ _ _ _ hu,drop_set,hval]
 have hS0 : 0 <= S:=by omega
 have h1:=Int.mul_ediv_add_emod S (Y : Int)
 have h2 : 0 <= S / (Y : Int):=Int.ediv_nonneg hS0 (by omega)
 have h3 : 0 <= S % (Y : Int):=Int.emod_nonneg _ (by omega)
 obtain ⟨q,hq⟩ : ∃ q : Nat,S / (Y : Int) = q:=⟨(S / (Y : Int)).toNat,by omega⟩
 obtain ⟨t,ht⟩ : ∃ t : Nat,S % (Y : Int) = t:=⟨(S % (Y : Int)).toNat,by omega⟩
 obtain ⟨b,hb⟩ : ∃ b : Nat,a = b:=⟨a.toNat,by omega⟩
 rw [hq,ht] at h1
 rw [hq,ht,hb,Int.toNat_natCast,Int.toNat_natCast,Int.toNat_natCast]
 have h5 : ((Y * q : Nat) : Int) = (Y : Int) * q:=Int.natCast_mul _ _
 have h4 : Y * q + t = r * 4294967296 + b:=by rw [hS,hb] at h1; omega
 generalize val 4294967296 (o.drop (k + 1)) = V
 rw [Nat.mul_add,Nat.mul_add]
 have e1 : Y * (4294967296 * V) = 4294967296 * (Y * V):=by ac_rfl
 rw [e1]
 omega
end Nt
theorem short_any (A : Option Addr) (n c : Nat) (x : List Int) (Y : Nat) (w : World) (h : U w A n c x) (hl : n <= 200000000) (hd : Nt.Dig 4294967296 x) (hY0 : 0 < Y) (hY : Y <= 2147483648) :
  Calls Tryz.prog 172 #[.slice A n c,.int .u64 Y] w fun e w'=>∃ A' c',e = .returned (.tuple #[.slice A' (Nt.dg 4294967296 (Nt.val 4294967296 x / Y)).length c',.int .u64 ((Nt.val 4294967296 x % Y : Nat) : Int)]) /\ U w' A' (Nt.dg 4294967296 (Nt.val 4294967296 x / Y)).length c' (Nt.dg 4294967296 (Nt.val 4294967296 x / Y)) /\ Below w.heap.size w w':=by
 obtain ⟨i0,hi0,hz0,hz1,hz2⟩:=info_parts u64_info
 have HX:=Hd h
 have HDX:=Hd hd
 have HP:=Hd h.1
 clear h hd
 go_enter Tryz.func172,Tryz.ntmps172
 go_wp2_with (refine wpList_make_full _ rfl (.tmp 11) (.tmp 11) 50 rfl w.heap.size 39 i0 _ 1 Tryz.underlying50 hi0 hz0 hz1 .i64 .i64 _ _ n rfl rfl (by omega) (by omega) (by rw [hz2]; omega) (by simp only [maxLen]; omega) (Nat.le_refl _) ?_; intro w1 hown1 hg1)
 have ROW:=Hd (Row.made hown1)
 have HB:=Hd ((Below.refl w.heap.size w).grown hg1 (Nat.le_refl _) (fun k hk=>by cases hk))
 clear hown1 hg1
 go_wp2_with fail
 go_loopw [7,8] (fun rv iv wr=>∃ (k r : Nat) (o : List Int),iv = .int .i64 ((k : Int) - 1) /\ rv = .int .u64 r /\ k <= n /\ r < Y /\ Row wr w.heap.size w.heap.size n o /\ Nt.Dig 4294967296 o /\ Nt.val 4294967296 (x.drop k) = Y * Nt.val 4294967296 (o.drop k) + r /\ Below w.heap.size w wr) (fun _ iv _=>(intOf iv + 1).toNat)
 case atStart=>exact ⟨n,0,List.replicate n 0,by go_num,rfl,Nat.le_refl _,hY0,ROW.out,(fun z hz=>by rw [(List.mem_replicate.1 hz).2]; decide),by rw [List.drop_of_length_le (by have:=HP.out; omega),List.drop_of_length_le (by simp)]; simp [Nt.val],HB.out⟩
 case round =>
  clear ROW HB
  obtain ⟨k,r,o,rfl,rfl,hk,hr,hrow,hdo,hval,hb⟩:=hrel
  have ROW:=Hd hrow
  have HDO:=Hd hdo
  have HVAL:=Hd hval
  have HB:=Hd hb
  clear hrow hdo hval hb
  rcases k with _ | k
  ·have hv:=HVAL.out
   rw [List.drop_zero,List.drop_zero] at hv
   have hq : Nt.val 4294967296 o = Nt.val 4294967296 x / Y:=by
    rw [hv,Nat.mul_add_div hY0,Nat.div_eq_of_lt hr,Nat.add_zero]
   have hm : r = Nt.val 4294967296 x % Y:=by
    rw [hv,Nat.mul_add_mod,Nat.mod_eq_of_lt hr]
   have HQ:=Hd hq
   have HM:=Hd hm
   obtain ⟨A3,c3,e3,hu3⟩:=U.of_own ROW.out
   injection e3 with e4 e5 e6
   subst e4
   subst e6
   have HU3:=Hd hu3
   clear hv hu3 e5 hq hm
   go_wp2_with fail
   refine (low_any _ _ _ o _ HU3.out (by omega) HDO.out).mono ?_
   rintro e w4 ⟨rfl,hu4,rfl⟩
   rw [HQ.out] at hu4 ⊢
   have HU4:=Hd hu4
   clear hu4
   go_wp2
   go_ret2
   exact ⟨_,_,by rw [<- HM.out]; rfl,HU4.out,HB.out⟩
  ·obtain ⟨a,ha⟩ : ∃ a,x[k]? = some a:=⟨_,List.getElem?_eq_getElem (by have:=HP.out; omega)⟩
   obtain ⟨u,hu⟩ : ∃ u,o[k]? = some u:=⟨_,List.getElem?_eq_getElem (by have:=ROW.out.len; omega)⟩
   obtain ⟨ad,rfl,_,hc1⟩:=(HX.out.below HB.out).2.2.2 k a ha
   have hc3:=ROW.out.cell k u hu
   have hfr:=ROW.out.free k
   have ra:=HDX.out a (List.mem_of_getElem? ha)
   obtain ⟨S,hS⟩ : ∃ S : Int,S = (r : Int) * 4294967296 + a:=⟨_,rfl⟩
   have hst:=Nt.short_step x o k Y r a S hY0 ha (by have:=ROW.out.len; omega) ra.1 hS HVAL.out
   have hs1 : IntKind.u64.wrap ((r : Int) * 4294967296) = (r : Int) * 4294967296:=by rw [IntKind.wrap_u64]; omega
   have hs2 : IntKind.u64.wrap ((r : Int) * 4294967296 + a) = S:=by rw [IntKind.wrap_u64]; omega
   have hSb : 0 <= S /\ S < 4294967296 * (Y : Int):=by omega
   have hS64 : S < 18446744073709551616:=by omega
   have hq0 : 0 <= S / (Y : Int):=Int.ediv_nonneg hSb.1 (by omega)
   have hq1 : S / (Y : Int) < 4294967296:=Int.ediv_lt_of_lt_mul (by omega) (by omega)
   have hm0 : 0 <= S % (Y : Int):=Int.emod_nonneg _ (by omega)
   have hm1 : S % (Y : Int) < (Y : Int):=Int.emod_lt_of_pos _ (by omega)
   have hr1 : Int.tmod S (Y : Int) = S % (Y : Int):=Int.tmod_eq_emod_of_nonneg hSb.1
   have hr2 : IntKind.u64.wrap (Int.tdiv S (Y : Int)) = S / (Y : Int):=by rw [IntKind.wrap_u64,Int.tdiv_eq_ediv_of_nonneg hSb.1]; omega
   have hr3 : IntKind.u64.wrap (S % (Y : Int)) = S % (Y : Int):=by rw [IntKind.wrap_u64]; omega
   have hyz : (Y : Int) ≠ 0:=by omega
   have hyz2 : ((Y : Int) == 0) = false:=by simp; omega
   have HST:=Hd hst
   have HQ0:=Hd hq0
   have HQ1:=Hd hq1
   have HM0:=Hd hm0
   have HM1:=Hd hm1
   clear hst hSb hS hS64 hu ra hq0 hq1 hm0 hm1
   go_wp2_with fail
   have HR2:=Hd (ROW.out.set k (S / (Y : Int)))
   have HB2:=Hd (HB.out.setCell (p:=⟨w.heap.size,k,none⟩) (Nat.le_refl _) (Value.int IntKind.u64 (S / (Y : Int))))
   refine ⟨⟨k,(S % (Y : Int)).toNat,o.set k (S / (Y : Int)),by go_num,by rw [Int.toNat_of_nonneg HM0.out],by omega,by have:=HM0.out; have:=HM1.out; omega,HR2.out,HDO.out.set _ _ HQ0.out HQ1.out,HST.out,HB2.out⟩,by simp [intOf]⟩
theorem U.drop {w : World} {ad : Addr} {n c : Nat} {l : List Int} (h : U w (some ad) n c l) (k : Nat) (hk : k <= n) : U w (some (ad.add k)) (n - k) (c - k) (l.drop k):=by
 obtain ⟨h1,h2,h3,h4⟩:=h
 refine ⟨by rw [List.length_drop]; omega,by omega,(fun hh=>nomatch hh),fun j x hj=>?_⟩
 rw [List.getElem?_drop] at hj
 obtain ⟨ad',e,hlt,hc⟩:=h4 (k + j) x hj
 obtain rfl:=Option.some.inj e
 exact ⟨_,rfl,by rw [add_block]; exact hlt,by rw [Addr.add_add]; exact hc⟩
namespace Nt
theorem down_all (x : List Int) (N m p q r : Nat) (hp : x.length = p) (hd : Dig 4294967296 x) (hv : val 4294967296 x = N) (hm : m = 32 * q + r) (hq : p <= q) : N / 2 ^ m = 0 /\ N % 2 ^ m = N:=by
 have h1:=val_lt 4294967296 (by decide) x hd
 rw [hv,hp] at h1
 have h2 : N < 2 ^ m:=by
  refine Nat.lt_of_lt_of_le h1 ?_
  rw [show (4294967296 : Nat) = 2 ^ 32 from rfl,<- Nat.pow_mul]
  exact Nat.pow_le_pow_right (by decide) (by omega)
 exact ⟨Nat.div_eq_of_lt h2,Nat.mod_eq_of_lt h2⟩
theorem down_part (x : List Int) (N m q r : Nat) (hq : q <= x.length) (hd : Dig 4294967296 x) (hv : val 4294967296 x = N) (hm : m = 32 * q + r) :
  N / 2 ^ m = val 4294967296 (x.drop q) / 2 ^ r /\ (N % 2 ^ m ≠ 0 ↔ (val 4294967296 (x.take q) ≠ 0 \/ val 4294967296 (x.drop q) % 2 ^ r ≠ 0)):=by
 have h1:=val_append 4294967296 (x.take q) (x.drop q)
 rw [List.take_append_drop,hv,List.length_take,Nat.min_eq_left hq] at h1
 have h2:=val_lt 4294967296 (by decide) (x.take q) (hd.take q)
 rw [List.length_take,Nat.min_eq_left hq] at h2
 have e : (2 : Nat) ^ m = 4294967296 ^ q * 2 ^ r:=by rw [hm,Nat.pow_add,Nat.pow_mul,show (2 : Nat) ^ 32 = 4294967296 from rfl]
 have hB : 0 < 4294967296 ^ q:=Nat.pow_pos (by decide)
 rw [e]
 generalize val 4294967296 (x.take q) = a at *
 generalize val 4294967296 (x.drop q) = b at *
 generalize 4294967296 ^ q = B at *
 generalize 2 ^ r = Y at *
 have hdv : N / B = b:=by rw [h1,Nat.add_mul_div_left _ _ hB,Nat.div_eq_of_lt h2,Nat.zero_add]
 have hmd : N % B = a:=by rw [h1,Nat.add_mul_mod_self_left,Nat.mod_eq_of_lt h2]
 refine ⟨by rw [<- Nat.div_div_eq_div_mul,hdv],?_⟩
 rw [Nat.mod_mul,hmd,hdv]
 rcases Nat.eq_zero_or_pos a with ha | ha
 ·rcases Nat.eq_zero_or_pos (b % Y) with hb | hb
  ·rw [ha,hb]; simp
  ·have : 0 < B * (b % Y):=Nat.mul_pos hB hb
   generalize B * (b % Y) = Z at *
   generalize b % Y = t at *
   omega
 ·generalize B * (b % Y) = Z
  generalize b % Y = t
  omega
end Nt
set_option maxRecDepth 400000 in
set_option maxHeartbeats 4000000 in
theorem natDown_any (A : Option Addr) (n c : Nat) (l : List Int) (m : Nat) (w : World) (h : U w A n c l) (hl : n <= 100000000) (hd : Nt.Dig 18446744073709551616 l) (hm : m <= 1000000000) :
  Calls Tryz.prog 167 #[.slice A n c,.int .i64 m] w fun e w'=>∃ A' c',e = .returned (.tuple #[.slice A' (Nt.dg 18446744073709551616 (Nt.val 18446744073709551616 l / 2 ^ m)).length c',.bool (decide (Nt.val 18446744073709551616 l % 2 ^ m ≠ 0))]) /\ U w' A' (Nt.dg 18446744073709551616 (Nt.val 18446744073709551616 l / 2 ^ m)).length c' (Nt.dg 18446744073709551616 (Nt.val 18446744073709551616 l / 2 ^ m)) /\ Below w.heap.size w w':=by
 have len1:=Nt.dg32_len l n h.1 hd
 have HV1:=Hd (halves_any A n c l w h (by omega) hd)
 clear h hd
 generalize Nt.val 18446744073709551616 l = N at *
 obtain ⟨Z,hZ⟩ : ∃ Z,Z = N / 2 ^ m:=⟨_,rfl⟩
 obtain ⟨b,hb⟩ : ∃ b,b = decide (N % 2 ^ m ≠ 0):=⟨_,rfl⟩
 rw [<- hZ,<- hb]
 have HZ:=Hd hZ
 have HBZ:=Hd hb
 clear hZ hb
 go_enter Tryz.func167,Tryz.ntmps167
 go_wp2_with fail
 refine HV1.out.mono ?_
 rintro e w1 ⟨A1,c1,rfl,hu,hb⟩
 have HU:=Hd hu
 have HB:=Hd hb
 clear hu hb HV1
 have HDX:=Hd (Nt.dig_dg 4294967296 (by decide) N)
 have HVX:=Hd (Nt.val_dg 4294967296 (by decide) N)
 generalize Nt.dg 4294967296 N = x at *
 obtain ⟨p,hp⟩ : ∃ p,x.length = p:=⟨_,rfl⟩
 rw [hp] at len1 HU ⊢
 have HP:=Hd hp
 obtain ⟨q,hq⟩ : ∃ q,q = m / 32:=⟨_,rfl⟩
 obtain ⟨r,hr⟩ : ∃ r,r = m % 32:=⟨_,rfl⟩
 have hqi : (m : Int) / 32 = (q : Int):=by omega
 have HQI:=Hd hqi
 have hqb : q <= 31250000:=by omega
 have hrb : r < 32:=by omega
 have HR:=Hd hr
 have HQR:=Hd (show m = 32 * q + r by omega)
 clear hp hq hr
 have NIL : Hid (p <= q -> Z = 0 /\ b = decide (N ≠ 0)):=Hd (fun h=>by
  obtain ⟨g1,g2⟩:=Nt.down_all x N m p q r HP.out HDX.out HVX.out HQR.out h
  exact ⟨by rw [HZ.out,g1],by rw [HBZ.out,g2]⟩)
 have FULL : Hid (q <= p -> Z = Nt.val 4294967296 (x.drop q) / 2 ^ r /\ (b = true ↔ (Nt.val 4294967296 (x.take q) ≠ 0 \/ Nt.val 4294967296 (x.drop q) % 2 ^ r ≠ 0))):=Hd (fun h=>by
  obtain ⟨g1,g2⟩:=Nt.down_part x N m q r (by rw [HP.out]; exact h) HDX.out HVX.out HQR.out
  exact ⟨by rw [HZ.out,g1],by rw [HBZ.out,decide_eq_true_eq]; exact g2⟩)
 clear HZ HBZ
 go_wp2_with fail
 go_loop [7,8] (fun lo iv=>∃ i : Nat,i <= q /\ i <= p /\ iv = .int .i64 i /\ lo = .bool (decide (Nt.val 4294967296 (x.take i) ≠ 0))) (fun _ iv=>q - (intOf iv).toNat)
 case atStart=>exact ⟨0,Nat.zero_le _,Nat.zero_le _,rfl,by simp [Nt.val]⟩
 case round =>
  obtain ⟨i,hiq,hip,rfl,rfl⟩:=hrel
  obtain ⟨t,ht⟩ : ∃ t,t = decide (Nt.val 4294967296 (x.take i) ≠ 0):=⟨_,rfl⟩
  rw [<- ht]
  have HT:=Hd ht
  clear ht
  have hmi : (i : Int) < (m : Int) / 32 ↔ i < q:=by omega
  by_cases h1 : i < q
  ·have h1' : (i : Int) < (m : Int) / 32:=hmi.2 h1
   by_cases h2 : i < p
   ·obtain ⟨a,ha⟩ : ∃ a,x[i]? = some a:=⟨_,List.getElem?_eq_getElem (by have:=HP.out; omega)⟩
    obtain ⟨ad,rfl,_,hc1⟩:=HU.out.2.2.2 i a ha
    have hs:=Nt.val_take_succ 4294967296 x i HDX.out
    rw [ha,Option.getD_some] at hs
    have ra:=HDX.out a (List.mem_of_getElem? ha)
    have hBi : 0 < 4294967296 ^ i:=Nat.pow_pos (by decide)
    cases t
    ·have h0 : Nt.val 4294967296 (x.take i) = 0:=by have:=HT.out; simpa using this.symm
     rw [h0,Nat.zero_add] at hs
     by_cases ha0 : a = 0
     ·have NXT : Hid (false = decide (Nt.val 4294967296 (x.take (i + 1)) ≠ 0)):=Hd (by rw [hs,ha0]; simp)
      subst ha0
      clear ha hs ra hBi h0
      go_wp2_with fail
      refine ⟨⟨i + 1,h1,h2,by go_num,by rw [<- NXT.out]⟩,by simp [intOf]; omega⟩
     ·have hane : (a == 0) = false:=by simpa using ha0
      have NXT : Hid (true = decide (Nt.val 4294967296 (x.take (i + 1)) ≠ 0)):=Hd (by
       have : 0 < a.toNat * 4294967296 ^ i:=Nat.mul_pos (by omega) hBi
       rw [hs]; symm; rw [decide_eq_true_eq]
       first | omega | (rw [Nat.mul_comm] at this; omega))
      clear ha hs ra hBi h0
      go_wp2_with fail
      refine ⟨⟨i + 1,h1,h2,by go_num,by rw [<- NXT.out]; first | rfl | rw [show (a != 0) = true by simpa using ha0]⟩,by simp [intOf]; omega⟩
    ·have h0 : Nt.val 4294967296 (x.take i) ≠ 0:=by have:=HT.out; simpa using this.symm
     have NXT : Hid (true = decide (Nt.val 4294967296 (x.take (i + 1)) ≠ 0)):=Hd (by
      rw [hs]; symm; rw [decide_eq_true_eq]; omega)
     clear ha hs ra hBi h0
     go_wp2_with fail
     refine ⟨⟨i + 1,h1,h2,by go_num,by rw [<- NXT.out]⟩,by simp [intOf]; omega⟩
   ·have hpq : (p : Int) <= (m : Int) / 32:=by omega
    have hip2 : i = p:=by omega
    have NILL : Hid (Z = 0 /\ b = t):=Hd (by
     obtain ⟨g1,g2⟩:=NIL.out (by omega)
     refine ⟨g1,?_⟩
     rw [g2,HT.out,hip2,List.take_of_length_le (by have:=HP.out; omega),HVX.out])
    have HLT:=Hd NILL.out.1
    go_wp2
    go_ret2
    rw [NILL.out.1,NILL.out.2,Nt.dg_zero]
    exact ⟨none,0,rfl,⟨rfl,Nat.le_refl _,fun _=>rfl,fun k x hk=>by simp at hk⟩,HB.out⟩
  ·have h1' : ¬ (i : Int) < (m : Int) / 32:=fun h=>h1 (hmi.1 h)
   have hiq2 : i = q:=by omega
   by_cases h2 : p <= q
   ·have hpq : (p : Int) <= (m : Int) / 32:=by omega
    have NILL : Hid (Z = 0 /\ b = t):=Hd (by
     obtain ⟨g1,g2⟩:=NIL.out h2
     refine ⟨g1,?_⟩
     rw [g2,HT.out,List.take_of_length_le (by have:=HP.out; omega),HVX.out])
    go_wp2
    go_ret2
    rw [NILL.out.1,NILL.out.2,Nt.dg_zero]
    exact ⟨none,0,rfl,⟨rfl,Nat.le_refl _,fun _=>rfl,fun k x hk=>by simp at hk⟩,HB.out⟩
   ·have hpq : ¬ (p : Int) <= (m : Int) / 32:=by omega
    subst hiq2
    obtain ⟨j',hj'⟩ : ∃ j',j' = i:=⟨_,rfl⟩
    subst hj'
    obtain ⟨g1,g2⟩:=FULL.out (by omega)
    have HG1:=Hd g1
    have HG2 : Hid (b = true ↔ (t = true \/ Nt.val 4294967296 (x.drop j') % 2 ^ r ≠ 0)):=Hd (by rw [g2,HT.out,decide_eq_true_eq])
    clear g1 g2 NIL FULL HT
    obtain ⟨a,ha⟩ : ∃ a,x[j']? = some a:=⟨_,List.getElem?_eq_getElem (by have:=HP.out; omega)⟩
    obtain ⟨ad,rfl,_,_⟩:=HU.out.2.2.2 j' a ha
    have HUD:=Hd (HU.out.drop j' (by omega))
    clear ha
    go_wp2_with fail
    go_loop [9,10] (fun b t=>∃ j : Nat,j <= r /\ t = .int .i64 j /\ b = .int .u64 ((2 ^ j : Nat) : Int)) (fun _ t=>r - (intOf t).toNat)
    case atStart=>exact ⟨0,Nat.zero_le _,rfl,rfl⟩
    case round =>
     obtain ⟨j,hj,rfl,rfl⟩:=hrel
     by_cases hlt : j < r
     ·have k1 : (j : Int) < (m : Int) % 32:=by have:=HR.out; omega
      have hp2 : 2 ^ j <= 2147483648:=Nat.le_trans (Nat.pow_le_pow_right (n:=2) (by decide) (show _ <= 31 by omega)) (by decide)
      have HE:=Hd (show 2 * 2 ^ j = 2 ^ (j + 1) by rw [Nat.pow_succ]; omega)
      generalize 2 ^ j = Y at *
      go_wp2
      go_round
      case rel=>exact ⟨j + 1,hlt,by go_num,by rw [<- HE.out]; go_num⟩
      case measure=>simp [intOf]; omega
     ·have k1 : ¬ (j : Int) < (m : Int) % 32:=by have:=HR.out; omega
      have hjr : j = r:=by omega
      subst hjr
      have hp2 : 2 ^ j <= 2147483648:=Nat.le_trans (Nat.pow_le_pow_right (n:=2) (by decide) (show _ <= 31 by omega)) (by decide)
      obtain ⟨Y,hY⟩ : ∃ Y,2 ^ j = Y:=⟨_,rfl⟩
      have hY0 : 0 < Y:=by rw [<- hY]; exact Nat.two_pow_pos _
      rw [hY] at hp2 HG1 HG2 ⊢
      clear hY
      have hne : ¬ c1 = j':=by have:=HU.out.2.1; omega
      have hnl : (Nt.dg 4294967296 (Nt.val 4294967296 (x.drop j') / Y)).length <= p:=by
       refine Nt.dg_len 4294967296 (by decide) _ _ (Nat.lt_of_le_of_lt (Nat.div_le_self _ _) ?_)
       have k2:=Nt.val_lt 4294967296 (by decide) (x.drop j') (fun y hy=>HDX.out y (List.mem_of_mem_drop hy))
       refine Nat.lt_of_lt_of_le k2 (Nat.pow_le_pow_right (by decide) ?_)
       rw [List.length_drop,HP.out]; omega
      have HSH:=Hd (short_any (some (ad.add j')) (p - j') (c1 - j') (x.drop j') Y w1 HUD.out (by omega) (fun y hy=>HDX.out y (List.mem_of_mem_drop hy)) hY0 hp2)
      rw [<- HG1.out] at hnl HSH
      have HND:=Hd (Nt.dig_dg 4294967296 (by decide) Z)
      have HNV:=Hd (Nt.val_dg 4294967296 (by decide) Z)
      obtain ⟨y,hy⟩ : ∃ y,y = Nt.dg 4294967296 Z:=⟨_,rfl⟩
      rw [<- hy] at hnl HSH HND HNV
      clear hy
      obtain ⟨v,hv⟩ : ∃ v,v = Nt.val 4294967296 (x.drop j') % Y:=⟨_,rfl⟩
      rw [<- hv] at HSH HG2
      clear hv hp2 hY0 HG1 HUD
      go_wp2_with fail
      refine HSH.out.mono ?_
      rintro e w2 ⟨A2,c2,rfl,hu2,hb2⟩
      have HU2:=Hd hu2
      have HB2:=Hd (HB.out.trans (hb2.mono HB.out.size))
      clear hu2 hb2 HSH HU
      go_wp2_with fail
      refine (limbs_any A2 _ c2 y w2 HU2.out (by omega) HND.out).mono ?_
      rintro e w3 ⟨A3,c3,rfl,hu3,hb3⟩
      rw [HNV.out] at hu3 ⊢
      have HU3:=Hd hu3
      have HB3:=Hd (HB2.out.trans (hb3.mono HB2.out.size))
      clear hu3 hb3 HU2
      cases t
      ·by_cases hv0 : v = 0
       ·subst hv0
        have hbf : b = false:=by
         cases hb : b
         ·rfl
         ·have:=HG2.out.1 hb; simp at this
        go_wp2
        go_ret2
        exact ⟨A3,c3,by rw [hbf]; rfl,HU3.out,HB3.out⟩
       ·have hvz : ((v : Int) == 0) = false:=by simpa using hv0
        have hbt : b = true:=HG2.out.2 (.inr hv0)
        go_wp2
        go_ret2
        exact ⟨A3,c3,by rw [hbt,<- show ((v : Int) != 0) = true by simpa using hv0]; rfl,HU3.out,HB3.out⟩
      ·have hbt : b = true:=HG2.out.2 (.inl rfl)
       go_wp2
       go_ret2
       exact ⟨A3,c3,by rw [hbt]; rfl,HU3.out,HB3.out⟩
end
section
open Go.RowKit
namespace Nt
end Nt
end
section
open Go.RowKit
def UL (w : World) (A : Option Addr) (n c : Nat) (l : List Int) : Prop :=
 l.length = n /\ n <= c /\ (A = none -> c = 0) /\ ∀ k x,l[k]? = some x -> ∃ ad,A = some ad /\ ad.block < w.heap.size /\ w.cell? (ad.add k) = some (.int .i64 x)
theorem UL.below {w w' : World} {A : Option Addr} {n c : Nat} {l : List Int} (h : UL w A n c l) (hb : Below w.heap.size w w') : UL w' A n c l:=by
 obtain ⟨h1,h2,h3,h4⟩:=h
 refine ⟨h1,h2,h3,fun k x hk=>?_⟩
 obtain ⟨ad,e,hlt,hc⟩:=h4 k x hk
 exact ⟨ad,e,Nat.lt_of_lt_of_le hlt hb.size,(hb.cell (by rw [add_block]; exact hlt)).trans hc⟩
def L64 (l : List Int) : Prop:=∀ x,x ∈ l -> -9223372036854775808 <= x /\ x <= 9223372036854775807
def RowC (w : World) (base g n c : Nat) (o : List Int) : Prop:=w.ownsRow base 39 1 (.slice (some ⟨g,0,none⟩) n c) n (o.map (Value.int .u64))
theorem RowC.of {w : World} {base g n : Nat} {o : List Int} (h : Row w base g n o) : RowC w base g n n o:=h
theorem RowC.len {w : World} {base g n c : Nat} {o : List Int} (h : RowC w base g n c o) : o.length = n:=by have:=h.1; simpa using this
theorem RowC.room {w : World} {base g n c : Nat} {o : List Int} (h : RowC w base g n c o) : n <= c:=by
 rcases h.2 with ⟨h',_⟩ | ⟨g',cap',cur,h',_,hg,hn,_⟩
 ·simp at h'
 ·injection h' with _ _ e; omega
theorem RowC.cell {w : World} {base g n c : Nat} {o : List Int} (h : RowC w base g n c o) (j : Nat) (u : Int) (hj : o[j]? = some u) : w.cell? ⟨g,j,none⟩ = some (.int .u64 u):=by
 have hl : j < n:=by rw [<- h.len]; exact (List.getElem?_eq_some_iff.1 hj).1
 rw [World.ownsRow.cellAt h j (by omega),List.getElem?_map,hj]; rfl
theorem RowC.free {w : World} {base g n c : Nat} {o : List Int} (h : RowC w base g n c o) (j : Nat) : w.frozen? ⟨g,j,none⟩ = false:=World.ownsRow.frozenAt h j
theorem RowC.set {w : World} {base g n c : Nat} {o : List Int} (h : RowC w base g n c o) (j : Nat) (v : Int) : RowC (w.setCell ⟨g,j,none⟩ (.int .u64 v)) base g n c (o.set j v):=by
 have:=(World.ownsRow.stored h j (.int .u64 v)).1
 rw [<- List.map_set] at this
 exact this
theorem RowC.lt {w : World} {base g n c : Nat} {o : List Int} (h : RowC w base g n c o) : base <= g /\ g < w.heap.size:=World.ownsRow.lt h g rfl
theorem RowC.cut {w : World} {base g n c : Nat} {o : List Int} (h : RowC w base g n c o) (k : Nat) (hk : k <= n) : RowC w base g k c (o.take k):=by
 have hl:=h.len
 refine ⟨by simp; omega,.inr ?_⟩
 rcases h.2 with ⟨h',_⟩ | ⟨g',cap',cur,h',hb,hg,hn,hm,hs,ht⟩
 ·simp at h'
 ·injection h' with e1 e2 e3
  injection e1 with e1
  injection e1 with e1
  subst e1
  subst e3
  refine ⟨g,c,cur,rfl,hb,hg,by omega,hm,hs,?_⟩
  rw [List.map_take,<- ht,List.take_take]
  congr 1
  omega
theorem RowC.u {w : World} {base g n c : Nat} {o : List Int} (h : RowC w base g n c o) : U w (some ⟨g,0,none⟩) n c o :=
 ⟨h.len,h.room,(fun e=>by cases e),fun k x hk=>⟨_,rfl,h.lt.2,World.ownsRow.cells h rfl k _ (by rw [List.getElem?_map,hk]; rfl)⟩⟩
theorem take_dg (o : List Int) (hd : Nt.Dig 18446744073709551616 o) : o.take (Nt.dg 18446744073709551616 (Nt.val 18446744073709551616 o)).length = Nt.dg 18446744073709551616 (Nt.val 18446744073709551616 o) /\ (Nt.dg 18446744073709551616 (Nt.val 18446744073709551616 o)).length <= o.length:=by
 have main : ∀ n : Nat,∀ k,k <= o.length -> o.length - k = n -> True:=fun _ _ _ _=>trivial
 have key : ∀ k : Nat,k <= o.length -> (∀ x,x ∈ o.drop k -> x = 0) -> ∃ j,j <= k /\ (∀ x,x ∈ o.drop j -> x = 0) /\ (j = 0 \/ ∃ x,o[j - 1]? = some x /\ x ≠ 0):=by
  intro k
  induction k with
  | zero=>intro _ hz; exact ⟨0,Nat.le_refl _,hz,.inl rfl⟩
  | succ k ih =>
    intro hk hz
    obtain ⟨x,hx⟩ : ∃ x,o[k]? = some x:=⟨_,List.getElem?_eq_getElem (by omega)⟩
    by_cases h0 : x = 0
    ·subst h0
     obtain ⟨j,h1,h2,h3⟩:=ih (by omega) (drop_zero o k hx hz)
     exact ⟨j,by omega,h2,h3⟩
    ·exact ⟨k + 1,Nat.le_refl _,hz,.inr ⟨x,by simpa using hx,h0⟩⟩
 obtain ⟨j,h1,h2,h3⟩:=key o.length (Nat.le_refl _) (fun x hx=>by rw [List.drop_length] at hx; cases hx)
 have h4:=trimmed o j hd h2 h3 h1
 rw [<- h4]
 have h5 : (o.take j).length = j:=by rw [List.length_take,Nat.min_eq_left h1]
 rw [h5]
 exact ⟨rfl,h1⟩
def lenV : Value -> Nat
 | .slice _ n _=>n
 | _=>0
end
section
open Go.RowKit
namespace Nt
def pos (below : Bool) (d : Int) : Nat:=if below then (-d).toNat else d.toNat
end Nt
end
end Go.Proofs.YtfpopdneokekiaaGreatDoor

/-
Walk: angle's near of a reduced angle, Near.
-/
import Derived.Test.YtnpanpkahbcecaaGreatDoorP16
import Derived.Test.YtnpanpkahbcecaaGreatDoorP24
import Derived.Deep.RegionHeld3
import Derived.Lib.Hide
set_option linter.unusedVariables false
set_option linter.unusedSimpArgs false
namespace Go.Proofs.YtnpanpkahbcecaaGreatDoor
section
namespace Fl
open Ieee
def cmpR (mag : Nat) (p : Int) (r : Nat) : Ordering:=compare (mag * 2 ^ (p + 1074).toNat) (rv r * 2 ^ (-(p + 1074)).toNat)
def cmpS (s : Bool) (c : Ordering) : Ordering:=if s then c.swap else c
theorem compare_nat (a b : Nat) : compare a b = if a < b then .lt else if a = b then .eq else .gt:=rfl
theorem compare_mul (a b c : Nat) (hc : 0 < c) : compare (a * c) (b * c) = compare a b:=by
 rw [compare_nat,compare_nat]
 rcases Nat.lt_trichotomy a b with h | h | h
 ·rw [if_pos h,if_pos (Nat.mul_lt_mul_of_pos_right h hc)]
 ·subst h; simp
 ·have:=Nat.mul_lt_mul_of_pos_right h hc
  rw [if_neg (by omega),if_neg (by omega),if_neg (by omega),if_neg (by omega)]
theorem cmpR_scale (mag : Nat) (p : Int) (r u v : Nat) (h : (u : Int) - v = p + 1074) : cmpR mag p r = compare (mag * 2 ^ u) (rv r * 2 ^ v):=by
 unfold cmpR
 obtain ⟨t,e1,e2⟩ : ∃ t,u = (p + 1074).toNat + t /\ v = (-(p + 1074)).toNat + t:=⟨min u v,by omega,by omega⟩
 rw [e1,e2,Nat.pow_add,Nat.pow_add,<- Nat.mul_assoc,<- Nat.mul_assoc]
 rw [compare_mul _ _ _ (Nat.two_pow_pos _)]
theorem cmpR_shift (mag : Nat) (p k : Int) (r q c1 c2 : Nat) (h : rv q * 2 ^ c1 = rv r * 2 ^ c2) (hk : (c2 : Int) - c1 = -k) : cmpR mag p r = cmpR mag (p - k) q:=by
 have a1:=cmpR_scale mag p r ((p + 1074).toNat + c2) ((-(p + 1074)).toNat + c2) (by omega)
 have a2:=cmpR_scale mag (p - k) q ((p + 1074).toNat + c2) ((-(p + 1074)).toNat + c1) (by omega)
 rw [a1,a2]
 have key : ∀ t : Nat,rv r * 2 ^ (t + c2) = rv q * 2 ^ (t + c1):=fun t=>by
  rw [Nat.pow_add,Nat.pow_add,Nat.mul_comm (2 ^ t) (2 ^ c2),Nat.mul_comm (2 ^ t) (2 ^ c1),<- Nat.mul_assoc,<- Nat.mul_assoc,h]
 rw [key]
theorem nearest_rnd (s : Bool) (mag : Nat) (p : Int) (u v : Nat) (h : (u : Int) - v = p + 1074) : ∃ r,double.nearest s mag p = wd s (min r I) /\ Rnd (mag * 2 ^ u) v r:=by
 obtain ⟨r,h1,h2⟩:=nearest_word s mag p
 refine ⟨r,h1,?_⟩
 have:=h2 v (mag * 2 ^ (p + 1074 + v).toNat) (by omega) rfl
 rwa [show (p + 1074 + (v : Int)).toNat = u by omega] at this
theorem cmpR_nearest (mag : Nat) (p : Int) (q r u v : Nat) (h : (u : Int) - v = p + 1074) (hq : Rnd (mag * 2 ^ u) v q) :
  (r < q -> cmpR mag p r = .gt) /\ (q < r -> cmpR mag p r = .lt):=by
 have e:=cmpR_scale mag p r u v h
 rw [e,compare_nat]
 have hr:=Rnd.exact r v
 constructor
 ·intro hlt
  have : ¬ mag * 2 ^ u <= rv r * 2 ^ v:=fun hle=>by
   have:=hq.mono hr (Nat.mul_le_mul_right _ hle); omega
  rw [if_neg (by omega),if_neg (by omega)]
 ·intro hlt
  have : ¬ rv r * 2 ^ v <= mag * 2 ^ u:=fun hle=>by
   have:=hr.mono hq (Nat.mul_le_mul_right _ hle); omega
  rw [if_pos (by omega)]
theorem settle_cmp (mag : Nat) (p k : Int) (near q y c1 c2 u v : Nat) (hy : rv y * 2 ^ c1 = rv near * 2 ^ c2) (hk : (c2 : Int) - c1 = -k) (h : (u : Int) - v = p - k + 1074) (hq : Rnd (mag * 2 ^ u) v q) :
  cmpR mag p near = if y < q then .gt else if q < y then .lt else cmpR mag (p - k) q:=by
 rw [cmpR_shift mag p k near y c1 c2 hy hk]
 obtain ⟨h1,h2⟩:=cmpR_nearest mag (p - k) q y u v h hq
 rcases Nat.lt_trichotomy y q with h3 | h3 | h3
 ·rw [if_pos h3]; exact h1 h3
 ·subst h3; rw [if_neg (by omega),if_neg (by omega)]
 ·rw [if_neg (by omega),if_pos h3]; exact h2 h3
theorem pow_lt_pow_exp {a b : Nat} (h : 2 ^ a < 2 ^ b) : a < b:=(Nat.pow_lt_pow_iff_right (by decide)).1 h
theorem rv_succ_le (r : Nat) (h : 0 < r) : rv (r + 1) <= 2 * rv r:=by
 rw [rv_succ]
 have h1 : 2 ^ ex r <= rv r:=by
  unfold rv
  have : 1 <= mant r:=by
   rcases mant_ge r with h2 | h2
   ·have:=ex_mant r; rw [h2] at this; omega
   ·have : 0 < B:=by decide
    omega
  calc 2 ^ ex r = 1 * 2 ^ ex r:=(Nat.one_mul _).symm
   _ <= mant r * 2 ^ ex r:=Nat.mul_le_mul_right _ this
 omega
theorem near_lead (mag r u v : Nat) (p : Int) (hm : mag ≠ 0) (h : (u : Int) - v = p + 1074) (hr : Rnd (mag * 2 ^ u) v r) (h0 : 0 < r) :
  (mag.log2 : Int) + p - 1 <= nE r - 1022 /\ nE r - 1022 <= (mag.log2 : Int) + p + 1:=by
 obtain ⟨c1,c2,n1,n2⟩:=norm_val r h0
 obtain ⟨m1,m2⟩:=nM_range r h0
 have l1:=Nat.log2_self_le hm
 have l2 : mag < 2 ^ (mag.log2 + 1):=Nat.lt_log2_self
 generalize mag.log2 = l at *
 have hval : rv r * 2 ^ c1 = nM r * 2 ^ (c2 + ex r):=by
  unfold rv; rw [Nat.mul_assoc,Nat.mul_comm (2 ^ ex r),<- Nat.mul_assoc,n1,Nat.mul_assoc,<- Nat.pow_add]
 rw [B_eq] at m1 m2
 constructor
 ·-- 2 n <= 3 rv
  have h1 : 2 * (mag * 2 ^ u) <= 3 * rv r * 2 ^ v:=by
   have:=hr.hi
   have h2:=rv_succ_le r h0
   refine Nat.le_trans this (Nat.mul_le_mul_right _ (by omega))
  have h2 : 2 * (mag * 2 ^ u) * 2 ^ c1 <= 3 * rv r * 2 ^ v * 2 ^ c1:=Nat.mul_le_mul_right _ h1
  have h3 : 3 * rv r * 2 ^ v * 2 ^ c1 = 3 * (nM r * 2 ^ (c2 + ex r)) * 2 ^ v:=by rw [<- hval]; grind
  have h4 : 3 * (nM r * 2 ^ (c2 + ex r)) * 2 ^ v < 4 * (2 * 2 ^ 52 * 2 ^ (c2 + ex r)) * 2 ^ v:=by
   refine Nat.mul_lt_mul_of_pos_right ?_ (Nat.two_pow_pos _)
   have : nM r * 2 ^ (c2 + ex r) < 2 * 2 ^ 52 * 2 ^ (c2 + ex r):=Nat.mul_lt_mul_of_pos_right m2 (Nat.two_pow_pos _)
   omega
  have h5 : 2 * (2 ^ l * 2 ^ u) * 2 ^ c1 <= 2 * (mag * 2 ^ u) * 2 ^ c1:=Nat.mul_le_mul_right _ (Nat.mul_le_mul_left _ (Nat.mul_le_mul_right _ l1))
  have h6 : 2 * (2 ^ l * 2 ^ u) * 2 ^ c1 = 2 ^ (1 + l + u + c1):=by simp only [Nat.pow_add]; grind
  have h7 : 4 * (2 * 2 ^ 52 * 2 ^ (c2 + ex r)) * 2 ^ v = 2 ^ (55 + (c2 + ex r) + v):=by
   rw [Nat.pow_add 2 (55 + (c2 + ex r)) v,Nat.pow_add 2 55 (c2 + ex r),show (2 : Nat) ^ 55 = 4 * (2 * 2 ^ 52) by decide]; generalize 2 ^ (c2 + ex r) = A; generalize 2 ^ v = C; generalize (2 : Nat) ^ 52 = D; grind
  have:=pow_lt_pow_exp (a:=1 + l + u + c1) (b:=55 + (c2 + ex r) + v) (by omega)
  omega
 ·have h1 : rv r * 2 ^ v <= 2 * (mag * 2 ^ u):=by
   have:=hr.lo h0
   refine Nat.le_trans (Nat.mul_le_mul_right _ ?_) this
   omega
  have h2 : rv r * 2 ^ v * 2 ^ c1 <= 2 * (mag * 2 ^ u) * 2 ^ c1:=Nat.mul_le_mul_right _ h1
  have h3 : rv r * 2 ^ v * 2 ^ c1 = nM r * 2 ^ (c2 + ex r) * 2 ^ v:=by rw [<- hval]; grind
  have h4 : 2 ^ 52 * 2 ^ (c2 + ex r) * 2 ^ v <= nM r * 2 ^ (c2 + ex r) * 2 ^ v:=Nat.mul_le_mul_right _ (Nat.mul_le_mul_right _ m1)
  have h5 : 2 * (mag * 2 ^ u) * 2 ^ c1 < 2 * (2 ^ (l + 1) * 2 ^ u) * 2 ^ c1:=by
   refine Nat.mul_lt_mul_of_pos_right ?_ (Nat.two_pow_pos _)
   have : mag * 2 ^ u < 2 ^ (l + 1) * 2 ^ u:=Nat.mul_lt_mul_of_pos_right l2 (Nat.two_pow_pos _)
   omega
  have h6 : 2 * (2 ^ (l + 1) * 2 ^ u) * 2 ^ c1 = 2 ^ (1 + (l + 1) + u + c1):=by simp only [Nat.pow_add]; grind
  have h7 : 2 ^ 52 * 2 ^ (c2 + ex r) * 2 ^ v = 2 ^ (52 + (c2 + ex r) + v):=by rw [Nat.pow_add 2 (52 + (c2 + ex r)) v,Nat.pow_add 2 52 (c2 + ex r)]
  have:=pow_lt_pow_exp (a:=52 + (c2 + ex r) + v) (b:=1 + (l + 1) + u + c1) (by omega)
  omega
def fmaT (x y z : Nat) : Int:=(if sg x ^^ sg y then -1 else 1) * ((mant (rg x) * mant (rg y) * 2 ^ (pl x + pl y + 1074).toNat : Nat) : Int) + vl z
theorem fma_fin (x y z : Nat) (hx : rg x < I) (hy : rg y < I) (hz : rg z < I) (hp : -1074 <= pl x + pl y) : double.fma x y z = some (rnd (sgn2 (sg x ^^ sg y) (sg z) (fmaT x y z)) (fmaT x y z).natAbs):=by
 unfold Format.fma
 rw [read_fin x hx,read_fin y hy,read_fin z hz]
 unfold Datum.product
 dsimp only [Option.bind_some]
 unfold Datum.sum
 dsimp only
 rw [show (-1074 + ((ex (rg x) : Nat) : Int) + (-1074 + ((ex (rg y) : Nat) : Int))) = pl x + pl y from rfl]
 generalize hbase : min (pl x + pl y) (-1074 + ((ex (rg z) : Nat) : Int)) = base
 have h2:=signed_units (sg z) (rg z) base (by omega) (by omega)
 have e2 : vl z = signed (sg z) (mant (rg z)) (-1074 + (ex (rg z) : Nat) - base).toNat * 2 ^ (base + 1074).toNat:=by unfold vl; exact h2.symm
 have e1 : (if sg x ^^ sg y then -1 else 1) * ((mant (rg x) * mant (rg y) * 2 ^ (pl x + pl y + 1074).toNat : Nat) : Int) = signed (sg x ^^ sg y) (mant (rg x) * mant (rg y)) (pl x + pl y - base).toNat * 2 ^ (base + 1074).toNat:=by
  have key : mant (rg x) * mant (rg y) * 2 ^ (pl x + pl y + 1074).toNat = mant (rg x) * mant (rg y) * 2 ^ (pl x + pl y - base).toNat * 2 ^ (base + 1074).toNat:=by
   rw [Nat.mul_assoc (mant (rg x) * mant (rg y)) (2 ^ _),<- Nat.pow_add]; congr 2; omega
  unfold signed
  rw [Nat.shiftLeft_eq]
  rw [key]
  cases (sg x ^^ sg y)
  ·simp
  ·simp [Int.neg_mul]
 have e3 : fmaT x y z = (signed (sg x ^^ sg y) (mant (rg x) * mant (rg y)) (pl x + pl y - base).toNat + signed (sg z) (mant (rg z)) (-1074 + (ex (rg z) : Nat) - base).toNat) * 2 ^ (base + 1074).toNat:=by
  unfold fmaT; rw [e1,e2,Int.add_mul]
 generalize signed (sg x ^^ sg y) (mant (rg x) * mant (rg y)) (pl x + pl y - base).toNat = a at *
 generalize signed (sg z) (mant (rg z)) (-1074 + (ex (rg z) : Nat) - base).toNat = b at *
 have hpp:=pow_pos_int (base + 1074).toNat
 have hs : (if a + b = 0 then ((sg x ^^ sg y) && sg z) else decide (a + b < 0)) = sgn2 (sg x ^^ sg y) (sg z) (fmaT x y z):=by
  unfold sgn2; rw [e3]
  generalize (2 : Int) ^ (base + 1074).toNat = P at *
  by_cases h0 : a + b = 0
  ·rw [h0]; simp
  ·have : (a + b) * P ≠ 0:=Int.mul_ne_zero h0 (by omega)
   rw [if_neg h0,if_neg this]
   congr 1
   apply propext
   constructor
   ·intro h; exact Int.mul_neg_of_neg_of_pos h hpp
   ·intro h
    rcases Int.lt_trichotomy (a + b) 0 with h3 | h3 | h3
    ·exact h3
    ·omega
    ·have:=Int.mul_pos h3 hpp; omega
 simp only [Option.map_some,Format.write]
 rw [hs,nearest_units _ _ _ (by omega),e3,Int.natAbs_mul]
 congr 3
end Fl
end
section
open Fl in
theorem fL_word (n s r : Nat) (last : Int) (hn : n <= 9007199254740992) (hs : last + 1074 = s) (hr : rv r = n * 2 ^ s) : fL n last = wd false (min r I):=by
 unfold fL
 by_cases h0 : n = 0
 ·rw [if_pos h0]
  subst h0
  have : r = 0:=by
   rcases Nat.eq_zero_or_pos r with h | h
   ·exact h
   ·have:=rv_pos h; omega
  rw [this,Nat.zero_min]; decide
 ·rw [if_neg h0]
  have e : floatOfInt .f64 ((n : Nat) : Int) = rnd false (n * Fl.U):=ofInt_sgi false n
  obtain ⟨h1,h2⟩:=whole_rr n hn
  rw [e]
  unfold scl
  rw [sg_rnd,rg_rnd]
  obtain ⟨q,e1,e2⟩:=nearest_rnd false (mant (rr (n * Fl.U))) (pl (rnd false (n * Fl.U)) + last) (ex (rr (n * Fl.U)) + s) E (by
   have : pl (rnd false (n * Fl.U)) = -1074 + (ex (rr (n * Fl.U)) : Nat):=by unfold pl; rw [rg_rnd]
   have hE : (E : Int) = 1074:=by rw [E_eq]; rfl
   omega)
  have hX : mant (rr (n * Fl.U)) * 2 ^ (ex (rr (n * Fl.U)) + s) = rv r * 2 ^ E:=by
   rw [Nat.pow_add,<- Nat.mul_assoc,show mant (rr (n * Fl.U)) * 2 ^ ex (rr (n * Fl.U)) = rv (rr (n * Fl.U)) from rfl,h1,hr]
   rw [U_def]
   generalize 2 ^ E = X
   generalize 2 ^ s = Y
   ac_rfl
  rw [hX] at e2
  rw [e1,e2.eq (Rnd.exact r E)]
end
section
open Go.RowKit
theorem u64_and1 (x : Nat) (hx : x < 18446744073709551616) : bits BinOp.and IntKind.u64 (x : Int) 1 = ((x % 2 : Nat) : Int):=by
 have e : (1 : Int) = ((1 : Nat) : Int):=rfl
 rw [e,u64_and_nat _ _ hx (by decide),Nat.and_one_is_mod]
theorem right_zero (w : World) : Calls Tryz.prog 222 #[.agg #[.bool false,.slice none 0 0,.int .i64 0]] w fun e w'=>e = .returned (.bool true) /\ Below w.heap.size w w':=by
 have HB:=Hd ((Below.refl w.heap.size w).alloc (Nat.le_refl _) (.cells #[.bool false,.slice none 0 0,.int .i64 0] 175))
 go_enter Tryz.func222,Tryz.ntmps222
 go_wp2
 go_ret
 exact ⟨rfl,HB.out⟩
set_option maxRecDepth 100000 in
theorem right_odd (s : Bool) (A : Option Addr) (n c : Nat) (x : Int) (N : Nat) (w : World) (h : NU w A n c N) (ho : N % 2 = 1) (hx1 : -1048576 <= x) (hx2 : x <= 1048576) :
  Calls Tryz.prog 222 #[.agg #[.bool s,.slice A n c,.int .i64 x]] w fun e w'=>e = .returned (.bool true) /\ Below w.heap.size w w':=by
 obtain ⟨hn1,hn2⟩:=h.len
 have hN : N ≠ 0:=by omega
 have hb:=(Below.refl w.heap.size w).alloc (Nat.le_refl _) (.cells #[.bool s,.slice A n c,.int .i64 x] 175)
 obtain ⟨t,m,t1,t2,t3,t4,t5,t6⟩:=dg_top 18446744073709551616 (by decide) N hN
 obtain ⟨ad,rfl,_,hc0⟩:=(h.below hb).1.2.2.2 0 _ (dg_head N hN)
 rw [Addr.add_zero' ad] at hc0
 obtain ⟨ad2,e2,_,hc1⟩:=(h.below hb).1.2.2.2 m t t2
 obtain rfl:=Option.some.inj e2
 rw [t1] at hn1
 subst hn1
 have g0 : ((((m + 1 : Nat) : Int)) == 0) = false:=by simp; omega
 have g1 : IntKind.i64.wrap (((m + 1 : Nat) : Int) - 1) = (m : Int):=by rw [IntKind.wrap_i64]; omega
 have g1' : ((m + 1 : Nat) : Int) - 1 = (m : Int):=by omega
 have g2 : decide (((m + 1 : Nat) : Int) <= 4096) = true:=decide_eq_true (by omega)
 have g3 : ((t : Int) != 0) = true:=by simp; omega
 obtain ⟨v,hv⟩ : ∃ v,v = N % 18446744073709551616:=⟨_,rfl⟩
 rw [<- hv] at hc0
 have g4 : bits BinOp.and IntKind.u64 (v : Int) 1 = 1:=by
  rw [u64_and1 v (by rw [hv]; exact Nat.mod_lt _ (by decide))]
  have : v % 2 = 1:=by omega
  rw [this]; rfl
 have g5 : decide ((-1048576 : Int) <= x) = true:=decide_eq_true hx1
 have g6 : decide (x <= (1048576 : Int)) = true:=decide_eq_true hx2
 have HB:=Hd hb
 clear h hb ho hN t2 t3 t4 t5 t6 e2 hv t1
 go_enter Tryz.func222,Tryz.ntmps222
 go_wp2
 go_ret
 exact ⟨rfl,HB.out⟩
def offN (n : Nat) : Nat:=if n % 4 = 3 \/ (n % 4 = 2 /\ n / 4 % 2 = 1) then n / 4 + 1 else n / 4
theorem offN_le (n : Nat) : n / 4 <= offN n /\ offN n <= n / 4 + 1:=by unfold offN; split <;> omega
open Fl in
theorem fl_word (m s : Nat) (last : Int) (hs : last + 1074 = s) (hs2 : s <= 2040) (h1 : 4503599627370496 <= m) (h2 : m <= 9007199254740992) : fL m last = s * 4503599627370496 + m:=by
 have hI : s * 4503599627370496 + m <= 9218868437227405312:=by omega
 have hr : rv (s * B + m) = m * 2 ^ s:=rv_of s m h2 (.inr h1)
 rw [fL_word m s (s * B + m) last h2 hs hr]
 have e : min (s * B + m) I = s * B + m:=Nat.min_eq_left hI
 rw [e]
 rfl
theorem ends_any (n : Nat) (last : Int) (s : Nat) (w : World) (h1 : 18014398509481984 <= n) (h2 : n < 36028797018963968) (hs : last + 1076 = s) (hs2 : s <= 2040) :
  Calls Tryz.prog 229 #[.int .u64 n,.int .i64 last] w fun e w'=>e = .returned (.float .f64 (s * 4503599627370496 + offN n)) /\ w = w':=by
 have hof:=offN_le n
 have hw:=fl_word (offN n) s (last + 2) (by omega) hs2 (by omega) (by omega)
 have hld : Calls Tryz.prog 94 #[.float .f64 (floatOfInt .f64 ((offN n : Nat) : Int)),.int .i64 (last + 2)] w fun e w'=>e = .returned (.float .f64 (s * 4503599627370496 + offN n)) /\ w = w':=by
  have hi:=int_word (offN n) (by omega)
  have h:=ldexp_fin (floatOfInt .f64 ((offN n : Nat) : Int)) (last + 2) w hi.1 (hi.2.2.2 (by omega)) hi.2.1 (by omega) (by omega)
  rw [<- hw]
  unfold fL
  rw [if_neg (by omega)]
  exact h
 have HLD:=Hd hld
 obtain ⟨q,hq⟩ : ∃ q,q = n / 4:=⟨_,rfl⟩
 obtain ⟨r,hr⟩ : ∃ r,r = n % 4:=⟨_,rfl⟩
 have g1 : (n : Int) / 2 ^ 2 = (q : Int):=by omega
 have g1' : (n : Int) / 4 = (q : Int):=by omega
 have g2 : bits BinOp.and IntKind.u64 (n : Int) 3 = (r : Int):=by
  have e : (3 : Int) = ((3 : Nat) : Int):=rfl
  rw [e,u64_and_nat _ _ (by omega) (by decide),show n &&& 3 = n % 4 from Nat.and_two_pow_sub_one_eq_mod n 2,hr]
 have g3 : bits BinOp.and IntKind.u64 (q : Int) 1 = ((q % 2 : Nat) : Int):=u64_and1 q (by omega)
 have g4 : IntKind.i64.wrap (last + 2) = last + 2:=by rw [IntKind.wrap_i64]; omega
 have g5 : IntKind.u64.wrap ((q : Int) + 1) = (q : Int) + 1:=by rw [IntKind.wrap_u64]; omega
 by_cases hc : r = 3 \/ (r = 2 /\ q % 2 = 1)
 ·have HO : Hid (offN n = q + 1):=Hd (by unfold offN; rw [<- hq,<- hr,if_pos hc])
  rw [HO.out] at HLD ⊢
  rcases hc with hc | ⟨hc,hc2⟩
  ·subst hc
   clear hof hw hld hq hr h1 h2 hs hs2 HO
   go_enter Tryz.func229,Tryz.ntmps229
   go_wp2_with fail
   refine HLD.out.mono ?_
   rintro e w1 ⟨rfl,rfl⟩
   go_wp2
   go_ret
   exact ⟨rfl,rfl⟩
  ·subst hc
   rw [hc2] at g3
   clear hof hw hld hq hr h1 h2 hs hs2 HO hc2
   go_enter Tryz.func229,Tryz.ntmps229
   go_wp2_with fail
   refine HLD.out.mono ?_
   rintro e w1 ⟨rfl,rfl⟩
   go_wp2
   go_ret
   exact ⟨rfl,rfl⟩
 ·have HO : Hid (offN n = q):=Hd (by unfold offN; rw [<- hq,<- hr,if_neg hc])
  rw [HO.out] at HLD ⊢
  by_cases hc2 : r = 2
  ·subst hc2
   have : q % 2 = 0:=by omega
   rw [this] at g3
   clear hof hw hld hq hr h1 h2 hs hs2 HO hc this
   go_enter Tryz.func229,Tryz.ntmps229
   go_wp2_with fail
   refine HLD.out.mono ?_
   rintro e w1 ⟨rfl,rfl⟩
   go_wp2
   go_ret
   exact ⟨rfl,rfl⟩
  ·have b1 : ((r : Int) == 3) = false:=by simp; omega
   have b2 : ((r : Int) == 2) = false:=by simp; omega
   clear hof hw hld hq hr h1 h2 hs hs2 HO hc hc2
   go_enter Tryz.func229,Tryz.ntmps229
   go_wp2_with fail
   refine HLD.out.mono ?_
   rintro e w1 ⟨rfl,rfl⟩
   go_wp2
   go_ret
   exact ⟨rfl,rfl⟩
end
section
open Go.RowKit
def FC (g0 g4 gm : Nat) (s : Bool) (A : Option Addr) (n c : Nat) (x : Int) (v : World) : Prop :=
 ((v.cell? ⟨g0,0,none⟩ = some (.bool s) /\ v.cell? ⟨g0,1,none⟩ = some (.slice A n c) /\ v.cell? ⟨g0,2,none⟩ = some (.int .i64 x)) /\ v.cell? ⟨g4,0,none⟩ = some (.pointer (some ⟨gm,0,none⟩)) /\ v.cell? ⟨g4,1,none⟩ = some (.int .i64 x)) /\ g0 < v.heap.size /\ g4 < v.heap.size
theorem FC.below {g0 g4 gm : Nat} {s : Bool} {A : Option Addr} {n c : Nat} {x : Int} {v v' : World} (h : FC g0 g4 gm s A n c x v) (hb : Below v.heap.size v v') : FC g0 g4 gm s A n c x v':=by
 obtain ⟨⟨⟨h1,h2,h3⟩,h4,h5⟩,l0,l4⟩:=h
 exact ⟨⟨⟨(hb.cell (p:=⟨g0,0,none⟩) l0).trans h1,(hb.cell (p:=⟨g0,1,none⟩) l0).trans h2,(hb.cell (p:=⟨g0,2,none⟩) l0).trans h3⟩,(hb.cell (p:=⟨g4,0,none⟩) l4).trans h4,(hb.cell (p:=⟨g4,1,none⟩) l4).trans h5⟩,Nat.lt_of_lt_of_le l0 hb.size,Nat.lt_of_lt_of_le l4 hb.size⟩
theorem FC.tr {g0 g4 gm : Nat} {s : Bool} {A : Option Addr} {n c : Nat} {x : Int} {v v' : World} {S : List Nat} (h : FC g0 g4 gm s A n c x v) (ht : Tr S v v') (n0 : g0 ∉ S) (n4 : g4 ∉ S) : FC g0 g4 gm s A n c x v':=by
 obtain ⟨⟨⟨h1,h2,h3⟩,h4,h5⟩,l0,l4⟩:=h
 have c0 : ∀ j,v'.cell? ⟨g0,j,none⟩ = v.cell? ⟨g0,j,none⟩:=fun j=>(ht.cell ⟨g0,j,none⟩ l0 (fun k hk e=>n0 (by rw [show g0 = k from e]; exact hk))).1
 have c4 : ∀ j,v'.cell? ⟨g4,j,none⟩ = v.cell? ⟨g4,j,none⟩:=fun j=>(ht.cell ⟨g4,j,none⟩ l4 (fun k hk e=>n4 (by rw [show g4 = k from e]; exact hk))).1
 exact ⟨⟨⟨(c0 0).trans h1,(c0 1).trans h2,(c0 2).trans h3⟩,(c4 0).trans h4,(c4 1).trans h5⟩,Nat.lt_of_lt_of_le l0 ht.size,Nat.lt_of_lt_of_le l4 ht.size⟩
def cutF (N : Nat) (x : Int) : Nat:=if (bitsN N : Int) + x - 55 <= x then N * 2 ^ (x - ((bitsN N : Int) + x - 55)).toNat else N / 2 ^ (((bitsN N : Int) + x - 55) - x).toNat
def nnF (N : Nat) (x : Int) : Nat:=if x < (bitsN N : Int) + x - 55 /\ cutF N x * 2 ^ (((bitsN N : Int) + x - 55) - x).toNat ≠ N then cutF N x ||| 1 else cutF N x
def wF (N : Nat) (x : Int) : Nat:=((bitsN N : Int) + x - 55 + 1076).toNat * 4503599627370496 + offN (nnF N x)
theorem cutF_le (N : Nat) (x : Int) (h : N ≠ 0) : 18014398509481984 <= cutF N x /\ cutF N x < 36028797018963968:=by
 obtain ⟨h1,h2,h3⟩:=Nt.bits_range N h
 unfold cutF
 obtain ⟨b,hb⟩ : ∃ b,b = bitsN N:=⟨_,rfl⟩
 rw [<- hb] at h1 h2 h3 ⊢
 split
 ·rename_i hc
  obtain ⟨k,hk⟩ : ∃ k : Nat,(x - ((b : Int) + x - 55)).toNat = k /\ b + k = 55:=⟨55 - b,by omega,by omega⟩
  rw [hk.1]
  have e1 : (18014398509481984 : Nat) = 2 ^ (b - 1) * 2 ^ k:=by rw [<- Nat.pow_add,show b - 1 + k = 54 by omega]
  have e2 : (36028797018963968 : Nat) = 2 ^ b * 2 ^ k:=by rw [<- Nat.pow_add,hk.2]
  rw [e1,e2]
  exact ⟨Nat.mul_le_mul_right _ h2,Nat.mul_lt_mul_of_pos_right h3 (Nat.two_pow_pos k)⟩
 ·rename_i hc
  obtain ⟨k,hk⟩ : ∃ k : Nat,(((b : Int) + x - 55) - x).toNat = k /\ b = 55 + k:=⟨b - 55,by omega,by omega⟩
  rw [hk.1]
  constructor
  ·rw [Nat.le_div_iff_mul_le (Nat.two_pow_pos k)]
   refine Nat.le_trans (Nat.le_of_eq ?_) h2
   rw [show (18014398509481984 : Nat) = 2 ^ 54 by decide,<- Nat.pow_add]; congr 1; omega
  ·refine Nat.div_lt_of_lt_mul (Nat.lt_of_lt_of_le h3 (Nat.le_of_eq ?_))
   rw [show (36028797018963968 : Nat) = 2 ^ 55 by decide,<- Nat.pow_add]; congr 1; omega
theorem or_one (c : Nat) : c ||| 1 = c + (1 - c % 2):=by
 have h:=Nat.or_div_two (a:=c) (b:=1)
 have h2:=Nat.or_mod_two_eq_one (a:=c) (b:=1)
 have h3 : (c ||| 1) / 2 = c / 2:=by rw [h]; simp
 have h4 : (c ||| 1) % 2 = 1:=h2.2 (.inr (by decide))
 omega
theorem nnF_le (N : Nat) (x : Int) (h : N ≠ 0) : 18014398509481984 <= nnF N x /\ nnF N x < 36028797018963968:=by
 have hc:=cutF_le N x h
 unfold nnF
 split
 ·rw [or_one]; omega
 ·exact hc
set_option maxRecDepth 100000 in
set_option maxHeartbeats 4000000 in
theorem dfloat_any (s : Bool) (A : Option Addr) (n c : Nat) (x : Int) (N : Nat) (w : World) (h : NU w A n c N) (ho : N % 2 = 1) (hN : N + 1 < BL) (hN2 : 2 ^ 60 * N < BL) (hx1 : -2000 <= x) (hx2 : x <= 2000) (ht1 : -900 <= (bitsN N : Int) + x) (ht2 : (bitsN N : Int) + x <= 900) :
  Calls Tryz.prog 217 #[.agg #[.bool s,.slice A n c,.int .i64 x]] w fun e w'=>e = .returned (.tuple #[.float .f64 (Fl.wd s (wF N x)),.int .i64 0]) /\ Below w.heap.size w w':=by
 obtain ⟨hn1,hn2⟩:=h.len
 have hN0 : N ≠ 0:=by omega
 have hbl:=bitsN_len N
 have hb:=(Below.refl w.heap.size w).alloc (Nat.le_refl _) (.cells #[.bool s,.slice A n c,.int .i64 x] 175)
 obtain ⟨W,hW⟩ : ∃ W,W = w.alloc (.cells #[.bool s,.slice A n c,.int .i64 x] 175):=⟨_,rfl⟩
 have k0 : W.cell? ⟨w.heap.size,0,none⟩ = some (.bool s):=by rw [hW]; simp
 have k1 : W.cell? ⟨w.heap.size,1,none⟩ = some (.slice A n c):=by rw [hW]; simp
 have k2 : W.cell? ⟨w.heap.size,2,none⟩ = some (.int .i64 x):=by rw [hW]; simp
 have hWs : W.heap.size = w.heap.size + 1:=by rw [hW]; simp
 rw [<- hW] at hb
 have HR:=Hd (right_odd s A n c x N W (h.below hb) ho (by omega) (by omega))
 have HV:=Hd (fun v (h2 : Below W.heap.size W v)=>value_any s A n c x N v ((h.below hb).below h2))
 have nz : ((n : Int) == 0) = false:=by
  have : n ≠ 0:=fun e=>hN0 (h.zero.1 e)
  simp; omega
 have HB:=Hd hb
 have HW:=Hd hW
 have HWS:=Hd hWs
 go_enter Tryz.func217,Tryz.ntmps217
 clear hb h hW hWs hn1 hbl hN0
 go_wp2_with fail
 rw [<- HW.out]
 refine HR.out.mono ?_
 rintro e w1 ⟨rfl,hb1⟩
 have HB1:=Hd hb1
 have q1:=(hb1.cell (p:=⟨w.heap.size,1,none⟩) (by show w.heap.size < W.heap.size; have:=HWS.out; omega)).trans k1
 have q0:=(hb1.cell (p:=⟨w.heap.size,0,none⟩) (by show w.heap.size < W.heap.size; have:=HWS.out; omega)).trans k0
 have q2:=(hb1.cell (p:=⟨w.heap.size,2,none⟩) (by show w.heap.size < W.heap.size; have:=HWS.out; omega)).trans k2
 clear hb1 k0 k1 k2
 go_wp2_with fail
 refine (HV.out _ HB1.out).mono ?_
 rintro e w2 ⟨gm,rfl,hbi,hge,hb2⟩
 have HB2:=Hd (HB1.out.trans (hb2.mono HB1.out.size))
 have l0 : w.heap.size < w1.heap.size:=by have:=HB1.out.size; have:=HWS.out; omega
 have hfc : FC w.heap.size w2.heap.size gm s A n c x (w2.alloc (.cells #[.pointer (some ⟨gm,0,none⟩),.int .i64 x] 244)):=by
  have r0:=(hb2.cell (p:=⟨w.heap.size,0,none⟩) l0).trans q0
  have r1:=(hb2.cell (p:=⟨w.heap.size,1,none⟩) l0).trans q1
  have r2:=(hb2.cell (p:=⟨w.heap.size,2,none⟩) l0).trans q2
  have hb3:=(Below.refl w2.heap.size w2).alloc (Nat.le_refl _) (.cells #[.pointer (some ⟨gm,0,none⟩),.int .i64 x] 244)
  have l2 : w.heap.size < w2.heap.size:=Nat.lt_of_lt_of_le l0 hb2.size
  exact ⟨⟨⟨(hb3.cell (p:=⟨w.heap.size,0,none⟩) l2).trans r0,(hb3.cell (p:=⟨w.heap.size,1,none⟩) l2).trans r1,(hb3.cell (p:=⟨w.heap.size,2,none⟩) l2).trans r2⟩,by simp,by simp⟩,Nat.lt_of_lt_of_le l2 hb3.size,by simp⟩
 have HFC:=Hd hfc
 have HBI:=Hd (hbi.below ((Below.refl w2.heap.size w2).alloc (Nat.le_refl _) (.cells #[.pointer (some ⟨gm,0,none⟩),.int .i64 x] 244)))
 have HB3:=Hd (HB2.out.alloc HB2.out.size (.cells #[.pointer (some ⟨gm,0,none⟩),.int .i64 x] 244))
 have HGE : Hid (w.heap.size < gm /\ gm < w2.heap.size):=Hd ⟨by omega,hbi.lt⟩
 clear hbi hge hb2 hfc q0 q1 q2 l0
 obtain ⟨⟨⟨a0,a1,a2⟩,a3,a4⟩,_,l4⟩:=HFC.out
 have HBT:=Hd (fun k=>bbitLen_any gm (sgnI s N) _ (HBI.out.below (Below.drewN' (Below.refl _ _) k)))
 rw [sgnI_abs] at HBT
 obtain ⟨b,hbb⟩ : ∃ b,b = bitsN N:=⟨_,rfl⟩
 obtain ⟨T,hT⟩ : ∃ T : Int,T = (b : Int) + x:=⟨_,rfl⟩
 obtain ⟨L,hL⟩ : ∃ L : Int,L = T - 55:=⟨_,rfl⟩
 obtain ⟨S2,hS2⟩ : ∃ S2 : Nat,(S2 : Int) = L + 1076:=⟨(L + 1076).toNat,by rw [<- hbb] at ht1; omega⟩
 have HS2 : Hid ((S2 : Int) = L + 1076 /\ L = T - 55 /\ T = (b : Int) + x /\ b = bitsN N /\ -900 <= T /\ T <= 900):=Hd ⟨hS2,hL,hT,hbb,by rw [hT,hbb]; exact ht1,by rw [hT,hbb]; exact ht2⟩
 rw [<- hbb] at ht1 ht2 HBT
 have t1 : -900 <= T:=by omega
 have t2 : T <= 900:=by omega
 have e1 : IntKind.i64.wrap ((b : Int) + x) = T:=by rw [IntKind.wrap_i64]; omega
 have e1' : (b : Int) + x = T:=hT.symm
 have e2 : decide ((1024 : Int) < T) = false:=decide_eq_false (by omega)
 have e3 : IntKind.i64.wrap (T - 55) = L:=by rw [IntKind.wrap_i64]; omega
 have e3' : T - 55 = L:=hL.symm
 have e4 : max L (-1076) = L:=by omega
 have e5 : decide (L <= T) = true:=decide_eq_true (by omega)
 have e6 : decide (T < L) = false:=decide_eq_false (by omega)
 -- the word
 have HN0 : Hid (N ≠ 0):=Hd (by omega)
 have hnn:=nnF_le N x HN0.out
 have hcc:=cutF_le N x HN0.out
 have hwf : wF N x = S2 * 4503599627370496 + offN (nnF N x):=by
  unfold wF; rw [show ((bitsN N : Int) + x - 55 + 1076).toNat = S2 by have:=HS2.out; omega]
 have hoff:=offN_le (nnF N x)
 obtain ⟨F,hF⟩ : ∃ F,F = wF N x:=⟨_,rfl⟩
 have hFb : F < 9218868437227405312:=by rw [hF,hwf]; have:=HS2.out; omega
 obtain ⟨nn,hn0⟩ : ∃ nn,nn = nnF N x:=⟨_,rfl⟩
 obtain ⟨C,hC0⟩ : ∃ C,C = cutF N x:=⟨_,rfl⟩
 have HEN:=Hd (fun v=>ends_any nn L S2 v (by rw [hn0]; exact hnn.1) (by rw [hn0]; exact hnn.2) (by omega) (by omega))
 have hFn : S2 * 4503599627370496 + offN nn = F:=by rw [hF,hwf,hn0]
 have hFi : ((S2 : Nat) * 4503599627370496 + offN nn : Nat) = F:=hFn
 rw [hFi] at HEN
 have hrg : Fl.rg F = F /\ Fl.sg F = false:=by unfold Fl.rg Fl.sg Fl.W; constructor; · omega
                                               ·simp; omega
 have HINF:=Hd (fun v=>isinf_any F v (by unfold Fl.W; omega))
 rw [hrg.1,decide_eq_false (show ¬ F = Fl.I by unfold Fl.I; omega)] at HINF
 have hng : ∀ w,(Op.unary .neg (.float .f64 F)).run Tryz.prog w = .ok (.float .f64 (Fl.ng F)) w:=fun w=>by
  rw [<- Fl.neg_word F (by unfold Fl.W; omega)]; rfl
 have HNG : Hid (Fl.wd true F = Fl.ng F):=Hd (by unfold Fl.wd Fl.ng; rw [hrg.2]; simp [Nat.add_comm])
 have HF : Hid (wF N x = F):=Hd hF.symm
 have HC : Hid (18014398509481984 <= C /\ C < 36028797018963968):=Hd (by rw [hC0]; exact hcc)
 -- what stays
 have HABS:=Hd (fun v (h : BI v gm (sgnI s N))=>babs_any gm gm (sgnI s N) (sgnI s N) v h h)
 rw [sgnI_abs] at HABS
 have HU64:=Hd (fun v gc (h : BI v gc (C : Int))=>buint64_any gc (C : Int) v h)
 rw [Int.natAbs_natCast,Nat.mod_eq_of_lt (show C < 18446744073709551616 by have:=HC.out; omega)] at HU64
 have HNN : Hid (nn = (if x < L /\ C * 2 ^ (L - x).toNat ≠ N then C ||| 1 else C)):=Hd (by
  rw [hn0,hC0]; unfold nnF; rw [show (bitsN N : Int) + x - 55 = L by have:=HS2.out; omega])
 have HCC : Hid (C = (if L <= x then N * 2 ^ (x - L).toNat else N / 2 ^ (L - x).toNat)):=Hd (by
  rw [hC0]; unfold cutF; rw [show (bitsN N : Int) + x - 55 = L by have:=HS2.out; omega])
 have HNB:=Hd (And.intro hN hN2)
 have HX:=Hd (And.intro hx1 hx2)
 have HBL:=Hd (show b <= 64 * 30 by
  have h1:=bitsN_len N
  have h2 : (Nt.dg 18446744073709551616 N).length <= 30:=Nt.dg_len _ (by decide) _ _ (by rw [<- BL_eq]; omega)
  omega)
 clear hnn hcc hwf hoff hF hFb hn0 hC0 hFn hFi hrg hbb hT hL hS2 ht1 ht2 hN hN2 hx1 hx2 ho
 go_wp2_with fail
 generalize hW3 : w2.alloc (.cells #[.pointer (some ⟨gm,0,none⟩),.int .i64 x] 244) = W3 at *
 clear hW3
 go_quiet ((go_at_call 224; exact Calls.quiet_of_same ((HBT.out _).mono fun _ _ he=>⟨he.1,he.2.symm⟩)))
 have HB4:=Hd (Below.drewN' HB3.out nq)
 have HFC4:=Hd (HFC.out.below (Below.drewN' (Below.refl _ _) nq))
 have HBI4:=Hd (HBI.out.below (Below.drewN' (Below.refl _ _) nq))
 clear HB3 HFC HBI HBT a0 a1 a2 a3 a4 l4 e1 e1'
 obtain ⟨⟨⟨a0,a1,a2⟩,a3,a4⟩,_,_⟩:=HFC4.out
 generalize W3.drewN nq = W4 at *
 go_wp2_with fail
 refine (HABS.out _ HBI4.out).mono ?_
 rintro e w5 ⟨rfl,hbi,ht⟩
 have HB5:=Hd (HB4.out.trans (ht.below _ HB4.out.size (fun k hk=>by rw [List.mem_singleton.1 hk]; have:=HGE.out; have:=HWS.out; omega)))
 have HFC5:=Hd (HFC4.out.tr ht (by have:=HGE.out; simp; omega) (by have:=HGE.out; simp; omega))
 have hb6:=(Below.refl w5.heap.size w5).alloc (Nat.le_refl _) (.cells #[.bool false,.slice none 0 0] 68)
 have HB6:=Hd (HB5.out.alloc HB5.out.size (.cells #[.bool false,.slice none 0 0] 68))
 have HFC6:=Hd (HFC5.out.below hb6)
 have HBI6:=Hd (hbi.below hb6)
 clear hbi ht HB4 HFC4 HBI4 HABS hb6 HB5 a0 a1 a2 a3 a4 e2
 obtain ⟨⟨⟨a0,a1,a2⟩,a3,a4⟩,_,_⟩:=HFC5.out
 obtain ⟨⟨⟨b0,b1,b2⟩,b3,b4⟩,_,_⟩:=HFC6.out
 have hcut : Calls Tryz.prog 226 #[.agg #[.pointer (some ⟨gm,0,none⟩),.int .i64 x],.int .i64 L,.bool false] (w5.alloc (.cells #[.bool false,.slice none 0 0] 68)) (PPost (C : Int) (w5.alloc (.cells #[.bool false,.slice none 0 0] 68))):=by
  have hx:=HX.out
  have hs:=HS2.out
  have hnb:=HNB.out
  have hcc:=HCC.out
  have hbl:=HBL.out
  by_cases hc : L <= x
  ·rw [if_pos hc] at hcc
   have hd : (x - L).toNat <= 60:=by omega
   have h:=cut_up gm (N : Int) x L _ HBI6.out hc (by omega) (by omega) (by
    rw [Int.natAbs_natCast]
    exact Nat.lt_of_le_of_lt (Nat.mul_le_mul_right N (Nat.pow_le_pow_right (by decide) hd)) hnb.2)
   have e : (2 : Int) ^ (x - L).toNat * (N : Int) = (C : Int):=by rw [hcc,Int.natCast_mul,Int.mul_comm]; simp
   rw [e] at h
   exact h
  ·rw [if_neg hc] at hcc
   have h:=cut_down gm (N : Int) x L _ HBI6.out (by omega) (by omega) (by omega) (by rw [Int.natAbs_natCast]; exact hnb.1)
   have e : (N : Int) / 2 ^ (L - x).toNat = (C : Int):=by rw [hcc,Int.natCast_ediv]; simp
   rw [e] at h
   exact h
 have HCUT:=Hd hcut
 clear hcut
 go_wp2_with fail
 refine HCUT.out.mono ?_
 rintro e w6 ⟨gc,rfl,hbi,hge,hb6⟩
 have HB7:=Hd (HB6.out.trans (hb6.mono HB6.out.size))
 have HFC7:=Hd (HFC6.out.below hb6)
 have HGC:=Hd hbi
 have HGM:=Hd (HBI6.out.below hb6)
 clear hbi hb6 hge HCUT HB6 HFC5 HFC6 HBI6 a0 a1 a2 a3 a4 b0 b1 b2 b3 b4
 obtain ⟨⟨⟨a0,a1,a2⟩,a3,a4⟩,_,_⟩:=HFC7.out
 go_wp2_with fail
 refine (HU64.out _ _ HGC.out).mono ?_
 rintro e w7 ⟨rfl,rfl⟩
 clear HU64
 by_cases hc : x < L
 ·have c1 : decide (x < L) = true:=decide_eq_true hc
  obtain ⟨d,hd⟩ : ∃ d,d = (L - x).toNat:=⟨_,rfl⟩
  have c2 : IntKind.i64.wrap (L - x) = (d : Int):=by rw [IntKind.wrap_i64]; have:=HX.out; omega
  have c3 : IntKind.u64.wrap (d : Int) = (d : Int):=by rw [IntKind.wrap_u64]; have:=HX.out; omega
  have hCN : 2 ^ d * C <= N:=by
   have h:=HCC.out
   rw [if_neg (by omega),<- hd] at h
   rw [h,Nat.mul_comm]; exact Nat.div_mul_le_self _ _
  obtain ⟨n1,n2⟩:=BI.new w6.drew 68
  have HLS:=Hd (fun v (h1 : BI v w6.heap.size 0) (h2 : BI v gc (C : Int))=>blsh_any w6.heap.size gc 0 (C : Int) d v h1 h2 (by have:=HX.out; have:=HS2.out; have:=HBL.out; omega) (by rw [Int.natAbs_natCast]; have:=HNB.out; omega))
  have HCM:=Hd (fun v (h1 : BI v w6.heap.size (2 ^ d * (C : Int))) (h2 : BI v gm (N : Int))=>bcmp_any w6.heap.size gm _ _ v h1 h2)
  obtain ⟨D,hD⟩ : ∃ D,D = cmpZ (2 ^ d * (C : Int)) (N : Int):=⟨_,rfl⟩
  rw [<- hD] at HCM
  have HDE : Hid (D = 0 ↔ C * 2 ^ d = N):=Hd (by
   rw [hD]; unfold cmpZ
   have e : (2 : Int) ^ d * (C : Int) = ((C * 2 ^ d : Nat) : Int):=by rw [Int.natCast_mul,Int.mul_comm]; simp
   rw [e]
   rcases Int.lt_trichotomy ((C * 2 ^ d : Nat) : Int) (N : Int) with h | h | h
   ·rw [if_pos h]; constructor <;> intro h2 <;> omega
   ·rw [if_neg (by omega),if_neg (by omega)]; constructor <;> intro h2 <;> omega
   ·rw [if_neg (by omega),if_pos h]; constructor <;> intro h2 <;> omega)
  have HNE:=Hd (show gc < w6.heap.size /\ gm < w6.heap.size from ⟨HGC.out.lt,HGM.out.lt⟩)
  have hnn:=HNN.out
  rw [<- hd] at hnn
  have HD2:=Hd hd
  have HKS:=Hd (fun v (h : Below w6.heap.size w6 v)=>(show (v.cell? ⟨w2.heap.size,0,none⟩ = some (.pointer (some ⟨gm,0,none⟩)) /\ v.cell? ⟨w2.heap.size,1,none⟩ = some (.int .i64 x)) /\ Hid (Below w6.heap.size w6 v) from ⟨(HFC7.out.below h).1.2,Hd h⟩))
  have HKF:=Hd (fun v (h : Below w6.heap.size w6 v)=>HFC7.out.below h)
  have HN1:=Hd n1
  have HN2:=Hd ((below_drew (Below.refl w6.heap.size w6)).trans n2)
  have z0 : w6.drew.heap.size = w6.heap.size:=rfl
  by_cases hD0 : D = 0
  ·have g0 : (D != 0) = false:=by simpa using hD0
   have HE : Hid (nn = C):=Hd (by rw [hnn,if_neg (fun h=>h.2 (HDE.out.1 hD0))])
   rw [HE.out] at HEN
   clear hc hd hCN hD hnn n1 n2 hD0
   go_wp2_with fail
   go_region_held3 (fun v=>(v.cell? ⟨w2.heap.size,0,none⟩ = some (.pointer (some ⟨gm,0,none⟩)) /\ v.cell? ⟨w2.heap.size,1,none⟩ = some (.int .i64 x)) /\ Hid (Below w6.heap.size w6 v)) ((first | exact HKS.out _ (below_drew (Below.refl _ _)) | exact HKS.out _ HN2.out | exact HKS.out _ HB8.out | exact HKS.out _ HB9.out)) (first
    | (go_at_call 227; refine (HLS.out _ HN1.out (HGC.out.below HN2.out)).mono ?_; rintro e w8 ⟨rfl,hbi,ht⟩; have HB8:=Hd (HN2.out.trans (ht.below _ HN2.out.size (fun k hk=>by rw [List.mem_singleton.1 hk]; exact Nat.le_refl _))); have HG8:=Hd hbi; clear hbi ht)
    | (go_at_call 228; refine (HCM.out _ HG8.out (HGM.out.below HB8.out)).mono ?_; rintro e w9 ⟨rfl,hb9⟩; have HB9:=Hd (HB8.out.trans (hb9.mono HB8.out.size)); clear hb9))
   obtain ⟨⟨⟨r0,_,_⟩,_,_⟩,_,_⟩:=HKF.out _ HB9.out
   have HBE:=Hd (HB7.out.trans (HB9.out.mono HB7.out.size))
   go_wp2_with fail
   refine (HEN.out _).mono ?_
   rintro e w8 ⟨rfl,rfl⟩
   go_wp2_with fail
   refine (HINF.out _).mono ?_
   rintro e w8 ⟨rfl,rfl⟩
   cases s
   ·go_wp2_with fail
    go_ret2
    exact ⟨by rw [HF.out]; rfl,HB.out.trans (HBE.out.mono HB.out.size)⟩
   ·go_wp2_with fail
    go_ret2
    refine ⟨?_,HB.out.trans (HBE.out.mono HB.out.size)⟩
    rw [HF.out,HNG.out]; rfl
  ·have g0 : (D != 0) = true:=by simpa using hD0
   have HE : Hid (nn = C ||| 1):=Hd (by rw [hnn,if_pos ⟨hc,fun h=>hD0 (HDE.out.2 h)⟩])
   have g1 : bits BinOp.or IntKind.u64 (C : Int) 1 = ((nn : Nat) : Int):=by
    have h:=u64_or_nat C 1 (by have:=HC.out; omega) (by decide)
    rw [HE.out]; exact h
   clear hc hd hCN hD hnn n1 n2 hD0
   go_wp2_with fail
   go_region_held3 (fun v=>(v.cell? ⟨w2.heap.size,0,none⟩ = some (.pointer (some ⟨gm,0,none⟩)) /\ v.cell? ⟨w2.heap.size,1,none⟩ = some (.int .i64 x)) /\ Hid (Below w6.heap.size w6 v)) ((first | exact HKS.out _ (below_drew (Below.refl _ _)) | exact HKS.out _ HN2.out | exact HKS.out _ HB8.out | exact HKS.out _ HB9.out)) (first
    | (go_at_call 227; refine (HLS.out _ HN1.out (HGC.out.below HN2.out)).mono ?_; rintro e w8 ⟨rfl,hbi,ht⟩; have HB8:=Hd (HN2.out.trans (ht.below _ HN2.out.size (fun k hk=>by rw [List.mem_singleton.1 hk]; exact Nat.le_refl _))); have HG8:=Hd hbi; clear hbi ht)
    | (go_at_call 228; refine (HCM.out _ HG8.out (HGM.out.below HB8.out)).mono ?_; rintro e w9 ⟨rfl,hb9⟩; have HB9:=Hd (HB8.out.trans (hb9.mono HB8.out.size)); clear hb9))
   obtain ⟨⟨⟨r0,_,_⟩,_,_⟩,_,_⟩:=HKF.out _ HB9.out
   have HBE:=Hd (HB7.out.trans (HB9.out.mono HB7.out.size))
   go_wp2_with fail
   refine (HEN.out _).mono ?_
   rintro e w8 ⟨rfl,rfl⟩
   go_wp2_with fail
   refine (HINF.out _).mono ?_
   rintro e w8 ⟨rfl,rfl⟩
   cases s
   ·go_wp2_with fail
    go_ret2
    exact ⟨by rw [HF.out]; rfl,HB.out.trans (HBE.out.mono HB.out.size)⟩
   ·go_wp2_with fail
    go_ret2
    refine ⟨?_,HB.out.trans (HBE.out.mono HB.out.size)⟩
    rw [HF.out,HNG.out]; rfl
 ·have c1 : decide (x < L) = false:=decide_eq_false hc
  have HE : Hid (nn = C):=Hd (by have h:=HNN.out; rw [if_neg (fun h=>hc h.1)] at h; exact h)
  rw [HE.out] at HEN
  clear hc
  go_wp2_with fail
  go_quiet (fail)
  obtain ⟨⟨⟨r0,_,_⟩,_,_⟩,_,_⟩:=HFC7.out.below (Below.drewN' (Below.refl _ _) nq)
  have HBE:=Hd (Below.drewN' HB7.out nq)
  generalize w6.drewN nq = w7 at *
  clear a0 a1 a2 a3 a4
  go_wp2_with fail
  refine (HEN.out _).mono ?_
  rintro e w8 ⟨rfl,rfl⟩
  go_wp2_with fail
  refine (HINF.out _).mono ?_
  rintro e w8 ⟨rfl,rfl⟩
  cases s
  ·go_wp2_with fail
   go_ret2
   exact ⟨by rw [HF.out]; rfl,HB.out.trans (HBE.out.mono HB.out.size)⟩
  ·go_wp2_with fail
   go_ret2
   refine ⟨?_,HB.out.trans (HBE.out.mono HB.out.size)⟩
   rw [HF.out,HNG.out]; rfl
end
section
open Go.RowKit
theorem dfloat_zero (w : World) : Calls Tryz.prog 217 #[.agg #[.bool false,.slice none 0 0,.int .i64 0]] w fun e w'=>e = .returned (.tuple #[.float .f64 0,.int .i64 0]) /\ Below w.heap.size w w':=by
 have hb:=(Below.refl w.heap.size w).alloc (Nat.le_refl _) (.cells #[.bool false,.slice none 0 0,.int .i64 0] 175)
 obtain ⟨W,hW⟩ : ∃ W,W = w.alloc (.cells #[.bool false,.slice none 0 0,.int .i64 0] 175):=⟨_,rfl⟩
 have k1 : W.cell? ⟨w.heap.size,1,none⟩ = some (.slice none 0 0):=by rw [hW]; simp
 have hWs : W.heap.size = w.heap.size + 1:=by rw [hW]; simp
 rw [<- hW] at hb
 have HB:=Hd hb
 have HW:=Hd hW
 have HWS:=Hd hWs
 clear hb hW hWs
 go_enter Tryz.func217,Tryz.ntmps217
 go_wp2_with fail
 rw [<- HW.out]
 refine (right_zero W).mono ?_
 rintro e w1 ⟨rfl,hb1⟩
 have q1:=(hb1.cell (p:=⟨w.heap.size,1,none⟩) (by show w.heap.size < W.heap.size; have:=HWS.out; omega)).trans k1
 have HB1:=Hd (HB.out.trans (hb1.mono HB.out.size))
 clear hb1 k1
 go_wp2
 go_ret2
 exact ⟨rfl,HB1.out⟩
def FW (s : Bool) (N : Nat) (y : Int) : Nat:=if N = 0 then 0 else Fl.wd s (wF N y)
def FOk (s : Bool) (N : Nat) (y : Int) : Prop:=(s = false /\ N = 0 /\ y = 0) \/ (N % 2 = 1 /\ N + 1 < BL /\ 2 ^ 60 * N < BL /\ -2000 <= y /\ y <= 2000 /\ -900 <= (bitsN N : Int) + y /\ (bitsN N : Int) + y <= 900)
theorem dfl_any (s : Bool) (A : Option Addr) (n c : Nat) (y : Int) (N : Nat) (w : World) (h : NU w A n c N) (hN : FOk s N y) :
  Calls Tryz.prog 217 #[.agg #[.bool s,.slice A n c,.int .i64 y]] w fun e w'=>e = .returned (.tuple #[.float .f64 (FW s N y),.int .i64 0]) /\ Below w.heap.size w w':=by
 rcases hN with ⟨rfl,rfl,rfl⟩ | ⟨h1,h2,h3,h4,h5,h6,h7⟩
 ·have hn:=h.zero.2 rfl
  subst hn
  have hA : A = none /\ c = 0 \/ ∃ ad,A = some ad:=by
   cases A with
   | none=>exact .inl ⟨rfl,h.1.2.2.1 rfl⟩
   | some ad=>exact .inr ⟨ad,rfl⟩
  rcases hA with ⟨rfl,rfl⟩ | ⟨ad,rfl⟩
  ·exact dfloat_zero w
  ·-- an empty slice with memory behind it
   have hb:=(Below.refl w.heap.size w).alloc (Nat.le_refl _) (.cells #[.bool false,.slice (some ad) 0 c,.int .i64 0] 175)
   obtain ⟨W,hW⟩ : ∃ W,W = w.alloc (.cells #[.bool false,.slice (some ad) 0 c,.int .i64 0] 175):=⟨_,rfl⟩
   have k1 : W.cell? ⟨w.heap.size,1,none⟩ = some (.slice (some ad) 0 c):=by rw [hW]; simp
   have hWs : W.heap.size = w.heap.size + 1:=by rw [hW]; simp
   have hr : Calls Tryz.prog 222 #[.agg #[.bool false,.slice (some ad) 0 c,.int .i64 0]] W fun e w'=>e = .returned (.bool true) /\ Below W.heap.size W w':=by
    have HBB:=Hd ((Below.refl W.heap.size W).alloc (Nat.le_refl _) (.cells #[.bool false,.slice (some ad) 0 c,.int .i64 0] 175))
    clear hW k1 hWs hb h
    go_enter Tryz.func222,Tryz.ntmps222
    go_wp2
    go_ret
    exact ⟨rfl,HBB.out⟩
   rw [<- hW] at hb
   have HR:=Hd hr
   have HB:=Hd hb
   have HW:=Hd hW
   have HWS:=Hd hWs
   clear hb hW hWs h hr
   go_enter Tryz.func217,Tryz.ntmps217
   go_wp2_with fail
   rw [<- HW.out]
   refine HR.out.mono ?_
   rintro e w1 ⟨rfl,hb1⟩
   have q1:=(hb1.cell (p:=⟨w.heap.size,1,none⟩) (by show w.heap.size < W.heap.size; have:=HWS.out; omega)).trans k1
   have HB1:=Hd (HB.out.trans (hb1.mono HB.out.size))
   clear hb1 k1
   go_wp2
   go_ret2
   exact ⟨rfl,HB1.out⟩
 ·have h:=dfloat_any s A n c y N w h h1 h2 h3 h4 h5 h6 h7
  unfold FW
  rw [if_neg (by omega)]
  exact h
set_option maxRecDepth 100000 in
set_option maxHeartbeats 2000000 in
theorem near_gen (v : An.Val) (s1 : Bool) (N1 : Nat) (y1 : Int) (s2 : Bool) (N2 : Nat) (y2 : Int) (a : Nat) (w : World) (hg : ∀ u,Below w.heap.size w u -> Calls Tryz.prog 216 #[valV v,.int .i64 100] u (GPost s1 N1 y1 s2 N2 y2 u))
  (f1 : FOk s1 N1 y1) (f2 : FOk s2 N2 y2) (e1 : FW s1 N1 y1 = a) (e2 : FW s2 N2 y2 = a) (ha : Fl.rg a <= Fl.I) :
  Calls Tryz.prog 214 #[valV v] w fun e w'=>e = .returned (.float .f64 a) /\ Below w.heap.size w w':=by
 obtain ⟨neg,whole,sine,nn,step,of⟩:=v
 unfold valV at hg ⊢
 simp only at hg ⊢
 have hb:=(Below.refl w.heap.size w).alloc (Nat.le_refl _) (.cells #[.bool neg,.bool whole,.bool sine,.int .i64 nn,.int .i64 step,.int .i64 of] 235)
 have HGA:=Hd (hg _ hb)
 have HB:=Hd hb
 have hq:=Fl.cmp_self a ha
 have HF1:=Hd (fun u A n c (hu : NU u A n c N1)=>dfl_any s1 A n c y1 N1 u hu f1)
 have HF2:=Hd (fun u A n c (hu : NU u A n c N2)=>dfl_any s2 A n c y2 N2 u hu f2)
 rw [e1] at HF1
 rw [e2] at HF2
 have k0 : (w.alloc (.cells #[.bool neg,.bool whole,.bool sine,.int .i64 nn,.int .i64 step,.int .i64 of] 235)).cell? ⟨w.heap.size,0,none⟩ = some (.bool neg):=by simp
 have k1 : (w.alloc (.cells #[.bool neg,.bool whole,.bool sine,.int .i64 nn,.int .i64 step,.int .i64 of] 235)).cell? ⟨w.heap.size,1,none⟩ = some (.bool whole):=by simp
 have k2 : (w.alloc (.cells #[.bool neg,.bool whole,.bool sine,.int .i64 nn,.int .i64 step,.int .i64 of] 235)).cell? ⟨w.heap.size,2,none⟩ = some (.bool sine):=by simp
 have k3 : (w.alloc (.cells #[.bool neg,.bool whole,.bool sine,.int .i64 nn,.int .i64 step,.int .i64 of] 235)).cell? ⟨w.heap.size,3,none⟩ = some (.int .i64 nn):=by simp
 have k4 : (w.alloc (.cells #[.bool neg,.bool whole,.bool sine,.int .i64 nn,.int .i64 step,.int .i64 of] 235)).cell? ⟨w.heap.size,4,none⟩ = some (.int .i64 step):=by simp
 have k5 : (w.alloc (.cells #[.bool neg,.bool whole,.bool sine,.int .i64 nn,.int .i64 step,.int .i64 of] 235)).cell? ⟨w.heap.size,5,none⟩ = some (.int .i64 of):=by simp
 clear hg f1 f2 e1 e2 ha hb
 go_enter Tryz.func214,Tryz.ntmps214
 go_wp2_with fail
 generalize w.alloc (.cells #[.bool neg,.bool whole,.bool sine,.int .i64 nn,.int .i64 step,.int .i64 of] 235) = W at *
 go_loopw [3] (fun bv wr=>bv = .int .i64 100 /\ wr = W) (fun _ _=>0)
 case atStart=>exact ⟨rfl,rfl⟩
 case round =>
  obtain ⟨rfl,rfl⟩:=hrel
  go_wp2_with fail
  refine HGA.out.mono ?_
  rintro e w2 ⟨A,n,c,A',n',c',rfl,hu1,hu2,hb2⟩
  have hbb:=(Below.refl w2.heap.size w2).alloc (Nat.le_refl _) (.cells #[.bool s1,.slice A n c,.int .i64 y1,.bool s2,.slice A' n' c',.int .i64 y2] 180)
  have HU1:=Hd (hu1.below hbb)
  have HU2:=Hd (hu2.below hbb)
  have HB2:=Hd ((HB.out.trans (hb2.mono HB.out.size)).trans (hbb.mono (Nat.le_trans HB.out.size hb2.size)))
  have r0 : (w2.alloc (.cells #[.bool s1,.slice A n c,.int .i64 y1,.bool s2,.slice A' n' c',.int .i64 y2] 180)).cell? ⟨w2.heap.size,0,none⟩ = some (.bool s1):=by simp
  have r1 : (w2.alloc (.cells #[.bool s1,.slice A n c,.int .i64 y1,.bool s2,.slice A' n' c',.int .i64 y2] 180)).cell? ⟨w2.heap.size,1,none⟩ = some (.slice A n c):=by simp
  have r2 : (w2.alloc (.cells #[.bool s1,.slice A n c,.int .i64 y1,.bool s2,.slice A' n' c',.int .i64 y2] 180)).cell? ⟨w2.heap.size,2,none⟩ = some (.int .i64 y1):=by simp
  have r3 : (w2.alloc (.cells #[.bool s1,.slice A n c,.int .i64 y1,.bool s2,.slice A' n' c',.int .i64 y2] 180)).cell? ⟨w2.heap.size,3,none⟩ = some (.bool s2):=by simp
  have r4 : (w2.alloc (.cells #[.bool s1,.slice A n c,.int .i64 y1,.bool s2,.slice A' n' c',.int .i64 y2] 180)).cell? ⟨w2.heap.size,4,none⟩ = some (.slice A' n' c'):=by simp
  have r5 : (w2.alloc (.cells #[.bool s1,.slice A n c,.int .i64 y1,.bool s2,.slice A' n' c',.int .i64 y2] 180)).cell? ⟨w2.heap.size,5,none⟩ = some (.int .i64 y2):=by simp
  have hl : w2.heap.size < (w2.alloc (.cells #[.bool s1,.slice A n c,.int .i64 y1,.bool s2,.slice A' n' c',.int .i64 y2] 180)).heap.size:=by simp
  clear hu1 hu2 hb2 hbb k0 k1 k2 k3 k4 k5
  go_wp2_with fail
  generalize w2.alloc (.cells #[.bool s1,.slice A n c,.int .i64 y1,.bool s2,.slice A' n' c',.int .i64 y2] 180) = W3 at *
  refine (HF1.out _ A n c HU1.out).mono ?_
  rintro e w4 ⟨rfl,hb4⟩
  have q3:=(hb4.cell (p:=⟨w2.heap.size,3,none⟩) hl).trans r3
  have q4:=(hb4.cell (p:=⟨w2.heap.size,4,none⟩) hl).trans r4
  have q5:=(hb4.cell (p:=⟨w2.heap.size,5,none⟩) hl).trans r5
  have HU3:=Hd (HU2.out.below hb4)
  have HB4:=Hd (HB2.out.trans (hb4.mono HB2.out.size))
  clear hb4 r0 r1 r2 r3 r4 r5 hl
  go_wp2_with fail
  refine (HF2.out _ A' n' c' HU3.out).mono ?_
  rintro e w5 ⟨rfl,hb5⟩
  have HB5:=Hd (HB4.out.trans (hb5.mono HB4.out.size))
  clear hb5 q3 q4 q5
  go_wp2
  go_ret
  exact ⟨rfl,HB5.out⟩
end
section
open Go.RowKit
theorem word_facts {neg : Bool} {u a : Nat} (h : An.wordM neg u (-100) = some a) :
  u ≠ 0 /\ u < 2 ^ 190 /\ ∃ (t m : Nat),u = 2 ^ t * (2 * m + 1) /\ t < 200 /\ 2 * m + 1 <= u /\ a = FW neg (2 * m + 1) (-100 + t):=by
 unfold An.wordM at h
 simp only at h
 split at h
 ·obtain ⟨h1,h2,h3,h4,h5⟩:=‹_ /\ _›
  refine ⟨h1,h2,An.ctzM 200 u,u / 2 ^ An.ctzM 200 u / 2,?_,h3,?_,?_⟩
  ·have : 2 * (u / 2 ^ An.ctzM 200 u / 2) + 1 = u / 2 ^ An.ctzM 200 u:=by omega
   rw [this,Nat.mul_comm]; exact h4.symm
  ·have:=Nat.div_le_self u (2 ^ An.ctzM 200 u); omega
  ·have hm : 2 * (u / 2 ^ An.ctzM 200 u / 2) + 1 = u / 2 ^ An.ctzM 200 u:=by omega
   rw [hm]
   obtain ⟨m,hM⟩ : ∃ m,m = u / 2 ^ An.ctzM 200 u:=⟨_,rfl⟩
   obtain ⟨k,hK⟩ : ∃ k,k = An.ctzM 200 u:=⟨_,rfl⟩
   rw [<- hM,<- hK] at h ⊢
   rw [<- hM] at h5
   have hb : bitsN m = Nat.log2 m + 1:=by unfold bitsN; rw [if_neg (by omega)]
   unfold FW
   rw [if_neg (by omega)]
   injection h with h
   rw [<- h]
   unfold Fl.wd wF nnF cutF An.flN offN
   rw [hb]
   have hc : ((-100 : Int) + (k : Int)) = (-100 + k : Int):=rfl
   have hw : ∀ (c : Nat),(if neg = true then Fl.W + c else c) = c + (if neg = true then 9223372036854775808 else 0):=by
    intro c
    cases neg
    ·rfl
    ·exact Nat.add_comm _ _
   rw [hw]
 ·exact absurd h (by simp)
theorem FW_le (s : Bool) (m : Nat) (y : Int) (h1 : bitsN m <= 400) (h2 : y <= 200) : Fl.rg (FW s m y) <= Fl.I:=by
 unfold FW
 split
 ·decide
 ·have h3:=nnF_le m y ‹_›
  have h4:=offN_le (nnF m y)
  have hw : wF m y <= Fl.I:=by
   unfold wF
   have h5 : ((bitsN m : Int) + y - 55 + 1076).toNat <= 1621:=by omega
   have h6:=Nat.mul_le_mul_right 4503599627370496 h5
   have h7 : offN (nnF m y) <= 9007199254740993:=by omega
   exact Nat.le_trans (Nat.add_le_add h6 h7) (by decide)
  have hW : wF m y < Fl.W:=Nat.lt_of_le_of_lt hw (by decide)
  exact Nat.le_trans (Nat.le_of_eq (Fl.rg_wd _ _ hW)) hw
theorem bits_small (m u : Nat) (h : m < 2 ^ 190) : bitsN m <= 190:=by
 by_cases hm : m = 0
 ·subst hm; unfold bitsN; simp
 ·obtain ⟨h1,h2,h3⟩:=Nt.bits_range m hm
  by_cases hc : bitsN m <= 190
  ·exact hc
  ·exfalso
   have : 2 ^ 190 <= 2 ^ (bitsN m - 1):=Nat.pow_le_pow_right (by decide) (by omega)
   omega
theorem FOk_small (s : Bool) (m : Nat) (t : Nat) (h : 2 * m + 1 < 2 ^ 190) (ht : t < 200) : FOk s (2 * m + 1) (-100 + t):=by
 have hb:=bits_small _ 0 h
 have hB : 2 ^ 250 <= BL:=by
  rw [BL_eq]
  exact Nat.le_trans (by decide : 2 ^ 250 <= 18446744073709551616 ^ 4) (Nat.pow_le_pow_right (by decide) (by decide))
 right
 refine ⟨by omega,by omega,by omega,by omega,by omega,by omega,by omega⟩
theorem near_frac (neg sine : Bool) (nn step of P a : Nat) (w : World) (hT : TabAt 2 Lib.deBruijn64tab w) (hT2 : 2 < w.heap.size) (hn : nn <= 1) (hP : An.piM 164 = some (P : Int)) (hPb : P < 2 ^ 200) (ho1 : 1 <= of) (ho2 : of <= 65536) (hs : step <= 65536) (h : An.nearM P ⟨neg,false,sine,nn,step,of⟩ = some a) :
  Calls Tryz.prog 214 #[valV ⟨neg,false,sine,nn,step,of⟩] w fun e w'=>e = .returned (.float .f64 a) /\ Below w.heap.size w w':=by
 unfold An.nearM at h
 simp only [Bool.false_eq_true,if_false] at h
 split at h
 case h_2=>exact absurd h (by simp)
 rename_i F hF
 split at h
 case h_2=>exact absurd h (by simp)
 rename_i a1 b1 hw1 hw2
 split at h
 case isFalse=>exact absurd h (by simp)
 rename_i hab
 injection h with h
 subst hab
 subst h
 obtain ⟨u1,u2,t1,m1,e1,l1,n1,f1⟩:=word_facts hw1
 obtain ⟨v1,v2,t2,m2,e2,l2,n2,f2⟩:=word_facts hw2
 have o1:=FOk_small neg m1 t1 (by omega) l1
 have o2:=FOk_small neg m2 t2 (by omega) l2
 have hr:=FW_le neg (2 * m1 + 1) (-100 + t1) (Nat.le_trans (bits_small _ 0 (by omega)) (by omega)) (by omega)
 have hB : 2 ^ 250 <= BL:=by
  rw [BL_eq]
  exact Nat.le_trans (by decide : 2 ^ 250 <= 18446744073709551616 ^ 4) (Nat.pow_le_pow_right (by decide) (by decide))
 rw [<- f1] at hr
 cases neg
 ·have d1 : DZ (F : Int) (-100) false (2 * m1 + 1) (-100 + t1):=.inr ⟨t1,m1,by rw [Int.natAbs_natCast]; exact e1,(decide_eq_false (by omega)).symm,rfl,rfl,by omega,by omega⟩
  have d2 : DZ ((F : Int) + 1) (-100) false (2 * m2 + 1) (-100 + t2):=.inr ⟨t2,m2,by rw [<- e2]; omega,(decide_eq_false (by omega)).symm,rfl,rfl,by omega,by omega⟩
  exact near_gen _ _ _ _ _ _ _ a1 w (fun u hb=>gap_frac_pos sine nn step of P F _ _ _ _ _ _ u (hT.below hb hT2) (Nat.lt_of_lt_of_le hT2 hb.size) hn hP hPb ho1 ho2 hs hF u2 d1 d2) o1 o2 f1.symm f2.symm hr
 ·have d1 : DZ (-(F : Int)) (-100) true (2 * m1 + 1) (-100 + t1):=.inr ⟨t1,m1,by rw [Int.natAbs_neg,Int.natAbs_natCast]; exact e1,(decide_eq_true (by omega)).symm,rfl,rfl,by omega,by omega⟩
  have d2 : DZ (-((F : Int) + 1)) (-100) true (2 * m2 + 1) (-100 + t2):=.inr ⟨t2,m2,by rw [<- e2]; omega,(decide_eq_true (by omega)).symm,rfl,rfl,by omega,by omega⟩
  exact near_gen _ _ _ _ _ _ _ a1 w (fun u hb=>gap_frac_neg sine nn step of P F _ _ _ _ _ _ u (hT.below hb hT2) (Nat.lt_of_lt_of_le hT2 hb.size) hn hP hPb ho1 ho2 hs hF u2 d2 d1) o2 o1 f2.symm f1.symm hr
theorem near_whole (neg sine : Bool) (nn step of P a : Nat) (w : World) (hT : TabAt 2 Lib.deBruijn64tab w) (hT2 : 2 < w.heap.size) (hn : nn <= 1) (hneg : nn = 0 -> neg = false) (h : An.nearM P ⟨neg,true,sine,nn,step,of⟩ = some a) :
  Calls Tryz.prog 214 #[valV ⟨neg,true,sine,nn,step,of⟩] w fun e w'=>e = .returned (.float .f64 a) /\ Below w.heap.size w w':=by
 unfold An.nearM at h
 simp only [if_true] at h
 have hB : 2 ^ 250 <= BL:=by
  rw [BL_eq]
  exact Nat.le_trans (by decide : 2 ^ 250 <= 18446744073709551616 ^ 4) (Nat.pow_le_pow_right (by decide) (by decide))
 split at h
 ·rename_i h0
  subst h0
  injection h with h
  subst h
  have hn0:=hneg rfl
  subst hn0
  have d : DZ ((0 : Nat) : Int) 0 false 0 0:=.inl ⟨rfl,rfl,rfl,rfl⟩
  exact near_gen _ false 0 0 false 0 0 0 w (fun u hb=>gap_whole_pos sine 0 step of _ _ _ _ _ _ u (hT.below hb hT2) (Nat.lt_of_lt_of_le hT2 hb.size) hn d d) (.inl ⟨rfl,rfl,rfl⟩) (.inl ⟨rfl,rfl,rfl⟩) rfl rfl (by decide)
 ·have h1 : nn = 1:=by omega
  subst h1
  injection h with h
  have o : FOk neg 1 0:=.inr ⟨rfl,by omega,by omega,by omega,by omega,by decide,by decide⟩
  cases neg
  ·have d : DZ ((1 : Nat) : Int) 0 false 1 0:=.inr ⟨0,0,by decide,by decide,rfl,rfl,by omega,by show 1 + 1 < BL; omega⟩
   exact near_gen _ _ _ _ _ _ _ a w (fun u hb=>gap_whole_pos sine 1 step of _ _ _ _ _ _ u (hT.below hb hT2) (Nat.lt_of_lt_of_le hT2 hb.size) hn d d) o o (by rw [<- h]; show FW false 1 0 = 4607182418800017408; decide +kernel) (by rw [<- h]; show FW false 1 0 = 4607182418800017408; decide +kernel) (by rw [<- h]; show Fl.rg 4607182418800017408 <= Fl.I; decide)
  ·have d : DZ (-((1 : Nat) : Int)) 0 true 1 0:=.inr ⟨0,0,by decide,by decide,rfl,rfl,by omega,by show 1 + 1 < BL; omega⟩
   exact near_gen _ _ _ _ _ _ _ a w (fun u hb=>gap_whole_neg sine 1 step of _ _ _ _ _ _ u (hT.below hb hT2) (Nat.lt_of_lt_of_le hT2 hb.size) hn d d) o o (by rw [<- h]; show FW true 1 0 = 13830554455654793216; decide +kernel) (by rw [<- h]; show FW true 1 0 = 13830554455654793216; decide +kernel) (by rw [<- h]; show Fl.rg 13830554455654793216 <= Fl.I; decide)
theorem red_shape (order step : Nat) (sine : Bool) (ho : order <= 14) :
  let v:=An.reducedM order step sine
  v.n <= 1 /\ (v.whole = true -> v.n = 0 -> v.neg = false) /\ (v.whole = false -> 1 <= v.of /\ v.of <= 65536 /\ v.step <= 65536):=by
 have hp : 2 ^ order <= 2 ^ 14:=Nat.pow_le_pow_right (by decide) ho
 have hp1:=Nat.two_pow_pos order
 obtain ⟨n,hn⟩ : ∃ n,n = 2 ^ order:=⟨_,rfl⟩
 rw [<- hn] at hp hp1
 rw [An.reduced_redN,<- hn]
 intro v
 show v.n <= 1 /\ (v.whole = true -> v.n = 0 -> v.neg = false) /\ (v.whole = false -> 1 <= v.of /\ v.of <= 65536 /\ v.step <= 65536)
 have hv : v = An.redN n (if sine then (step % n * 4 + 3 * n) % (4 * n) else step % n * 4):=rfl
 obtain ⟨a,ha⟩ : ∃ a,a = (if sine then (step % n * 4 + 3 * n) % (4 * n) else step % n * 4):=⟨_,rfl⟩
 have hal : a < 4 * n:=by
  have:=Nat.mod_lt step hp1
  rw [ha]; split
  ·exact Nat.mod_lt _ (by omega)
  ·omega
 rw [<- ha,An.redN_of rfl rfl rfl] at hv
 rw [hv]
 clear hv v ha hn
 (repeat' split) <;> simp <;> omega
theorem nearv_any (order step P a : Nat) (sine : Bool) (w : World) (ho : order <= 14) (hT : TabAt 2 Lib.deBruijn64tab w) (hT2 : 2 < w.heap.size) (hP : An.piM 164 = some (P : Int)) (hPb : P < 2 ^ 200) (h : An.nearM P (An.reducedM order step sine) = some a) :
  Calls Tryz.prog 214 #[valV (An.reducedM order step sine)] w fun e w'=>e = .returned (.float .f64 a) /\ Below w.heap.size w w':=by
 obtain ⟨h1,h2,h3⟩:=red_shape order step sine ho
 generalize An.reducedM order step sine = v at *
 obtain ⟨neg,whole,sn,nn,st,of⟩:=v
 cases whole
 ·obtain ⟨h4,h5,h6⟩:=h3 rfl
  exact near_frac neg sn nn st of P a w hT hT2 h1 hP hPb h4 h5 h6 h
 ·exact near_whole neg sn nn st of P a w hT hT2 h1 (h2 rfl) h
end
end Go.Proofs.YtnpanpkahbcecaaGreatDoor

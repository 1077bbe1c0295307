/-
Walks: dyad's Right and value, of right dyads; ends.
-/
import Derived.Test.YtfpopdneokekiaaGreatDoorF14
import Derived.Test.YtfpopdneokekiaaGreatDoorF19
import Derived.Lib.Hide
set_option linter.unusedVariables false
set_option linter.unusedSimpArgs false
namespace Go.Proofs.YtfpopdneokekiaaGreatDoor
section
namespace Fl
open Ieee
def cmpR (mag : Nat) (p : Int) (r : Nat) : Ordering:=compare (mag * 2 ^ (p + 1074).toNat) (rv r * 2 ^ (-(p + 1074)).toNat)
def cmpS (s : Bool) (c : Ordering) : Ordering:=if s then c.swap else c
theorem compare_nat (a b : Nat) : compare a b = if a < b then .lt else if a = b then .eq else .gt:=rfl
theorem compare_mul (a b c : Nat) (hc : 0 < c) : compare (a * c) (b * c) = compare a b:=by
 rw [compare_nat,compare_nat]
 rcases Nat.lt_trichotomy a b with h | h | h
 ·rw [if_pos h,if_pos (Nat.mul_lt_mul_of_pos_right h hc)]
 ·subst h; simp
 ·have:=Nat.mul_lt_mul_of_pos_right h hc
  rw [if_neg (by omega),if_neg (by omega),if_neg (by omega),if_neg (by omega)]
theorem cmpR_scale (mag : Nat) (p : Int) (r u v : Nat) (h : (u : Int) - v = p + 1074) : cmpR mag p r = compare (mag * 2 ^ u) (rv r * 2 ^ v):=by
 unfold cmpR
 obtain ⟨t,e1,e2⟩ : ∃ t,u = (p + 1074).toNat + t /\ v = (-(p + 1074)).toNat + t:=⟨min u v,by omega,by omega⟩
 rw [e1,e2,Nat.pow_add,Nat.pow_add,<- Nat.mul_assoc,<- Nat.mul_assoc]
 rw [compare_mul _ _ _ (Nat.two_pow_pos _)]
theorem cmpR_shift (mag : Nat) (p k : Int) (r q c1 c2 : Nat) (h : rv q * 2 ^ c1 = rv r * 2 ^ c2) (hk : (c2 : Int) - c1 = -k) : cmpR mag p r = cmpR mag (p - k) q:=by
 have a1:=cmpR_scale mag p r ((p + 1074).toNat + c2) ((-(p + 1074)).toNat + c2) (by omega)
 have a2:=cmpR_scale mag (p - k) q ((p + 1074).toNat + c2) ((-(p + 1074)).toNat + c1) (by omega)
 rw [a1,a2]
 have key : ∀ t : Nat,rv r * 2 ^ (t + c2) = rv q * 2 ^ (t + c1):=fun t=>by
  rw [Nat.pow_add,Nat.pow_add,Nat.mul_comm (2 ^ t) (2 ^ c2),Nat.mul_comm (2 ^ t) (2 ^ c1),<- Nat.mul_assoc,<- Nat.mul_assoc,h]
 rw [key]
theorem nearest_rnd (s : Bool) (mag : Nat) (p : Int) (u v : Nat) (h : (u : Int) - v = p + 1074) : ∃ r,double.nearest s mag p = wd s (min r I) /\ Rnd (mag * 2 ^ u) v r:=by
 obtain ⟨r,h1,h2⟩:=nearest_word s mag p
 refine ⟨r,h1,?_⟩
 have:=h2 v (mag * 2 ^ (p + 1074 + v).toNat) (by omega) rfl
 rwa [show (p + 1074 + (v : Int)).toNat = u by omega] at this
theorem cmpR_nearest (mag : Nat) (p : Int) (q r u v : Nat) (h : (u : Int) - v = p + 1074) (hq : Rnd (mag * 2 ^ u) v q) :
  (r < q -> cmpR mag p r = .gt) /\ (q < r -> cmpR mag p r = .lt):=by
 have e:=cmpR_scale mag p r u v h
 rw [e,compare_nat]
 have hr:=Rnd.exact r v
 constructor
 ·intro hlt
  have : ¬ mag * 2 ^ u <= rv r * 2 ^ v:=fun hle=>by
   have:=hq.mono hr (Nat.mul_le_mul_right _ hle); omega
  rw [if_neg (by omega),if_neg (by omega)]
 ·intro hlt
  have : ¬ rv r * 2 ^ v <= mag * 2 ^ u:=fun hle=>by
   have:=hr.mono hq (Nat.mul_le_mul_right _ hle); omega
  rw [if_pos (by omega)]
theorem settle_cmp (mag : Nat) (p k : Int) (near q y c1 c2 u v : Nat) (hy : rv y * 2 ^ c1 = rv near * 2 ^ c2) (hk : (c2 : Int) - c1 = -k) (h : (u : Int) - v = p - k + 1074) (hq : Rnd (mag * 2 ^ u) v q) :
  cmpR mag p near = if y < q then .gt else if q < y then .lt else cmpR mag (p - k) q:=by
 rw [cmpR_shift mag p k near y c1 c2 hy hk]
 obtain ⟨h1,h2⟩:=cmpR_nearest mag (p - k) q y u v h hq
 rcases Nat.lt_trichotomy y q with h3 | h3 | h3
 ·rw [if_pos h3]; exact h1 h3
 ·subst h3; rw [if_neg (by omega),if_neg (by omega)]
 ·rw [if_neg (by omega),if_pos h3]; exact h2 h3
theorem pow_lt_pow_exp {a b : Nat} (h : 2 ^ a < 2 ^ b) : a < b:=(Nat.pow_lt_pow_iff_right (by decide)).1 h
theorem rv_succ_le (r : Nat) (h : 0 < r) : rv (r + 1) <= 2 * rv r:=by
 rw [rv_succ]
 have h1 : 2 ^ ex r <= rv r:=by
  unfold rv
  have : 1 <= mant r:=by
   rcases mant_ge r with h2 | h2
   ·have:=ex_mant r; rw [h2] at this; omega
   ·have : 0 < B:=by decide
    omega
  calc 2 ^ ex r = 1 * 2 ^ ex r:=(Nat.one_mul _).symm
   _ <= mant r * 2 ^ ex r:=Nat.mul_le_mul_right _ this
 omega
theorem near_lead (mag r u v : Nat) (p : Int) (hm : mag ≠ 0) (h : (u : Int) - v = p + 1074) (hr : Rnd (mag * 2 ^ u) v r) (h0 : 0 < r) :
  (mag.log2 : Int) + p - 1 <= nE r - 1022 /\ nE r - 1022 <= (mag.log2 : Int) + p + 1:=by
 obtain ⟨c1,c2,n1,n2⟩:=norm_val r h0
 obtain ⟨m1,m2⟩:=nM_range r h0
 have l1:=Nat.log2_self_le hm
 have l2 : mag < 2 ^ (mag.log2 + 1):=Nat.lt_log2_self
 generalize mag.log2 = l at *
 have hval : rv r * 2 ^ c1 = nM r * 2 ^ (c2 + ex r):=by
  unfold rv; rw [Nat.mul_assoc,Nat.mul_comm (2 ^ ex r),<- Nat.mul_assoc,n1,Nat.mul_assoc,<- Nat.pow_add]
 rw [B_eq] at m1 m2
 constructor
 ·-- 2 n <= 3 rv
  have h1 : 2 * (mag * 2 ^ u) <= 3 * rv r * 2 ^ v:=by
   have:=hr.hi
   have h2:=rv_succ_le r h0
   refine Nat.le_trans this (Nat.mul_le_mul_right _ (by omega))
  have h2 : 2 * (mag * 2 ^ u) * 2 ^ c1 <= 3 * rv r * 2 ^ v * 2 ^ c1:=Nat.mul_le_mul_right _ h1
  have h3 : 3 * rv r * 2 ^ v * 2 ^ c1 = 3 * (nM r * 2 ^ (c2 + ex r)) * 2 ^ v:=by rw [<- hval]; grind
  have h4 : 3 * (nM r * 2 ^ (c2 + ex r)) * 2 ^ v < 4 * (2 * 2 ^ 52 * 2 ^ (c2 + ex r)) * 2 ^ v:=by
   refine Nat.mul_lt_mul_of_pos_right ?_ (Nat.two_pow_pos _)
   have : nM r * 2 ^ (c2 + ex r) < 2 * 2 ^ 52 * 2 ^ (c2 + ex r):=Nat.mul_lt_mul_of_pos_right m2 (Nat.two_pow_pos _)
   omega
  have h5 : 2 * (2 ^ l * 2 ^ u) * 2 ^ c1 <= 2 * (mag * 2 ^ u) * 2 ^ c1:=Nat.mul_le_mul_right _ (Nat.mul_le_mul_left _ (Nat.mul_le_mul_right _ l1))
  have h6 : 2 * (2 ^ l * 2 ^ u) * 2 ^ c1 = 2 ^ (1 + l + u + c1):=by simp only [Nat.pow_add]; grind
  have h7 : 4 * (2 * 2 ^ 52 * 2 ^ (c2 + ex r)) * 2 ^ v = 2 ^ (55 + (c2 + ex r) + v):=by
   rw [Nat.pow_add 2 (55 + (c2 + ex r)) v,Nat.pow_add 2 55 (c2 + ex r),show (2 : Nat) ^ 55 = 4 * (2 * 2 ^ 52) by decide]; generalize 2 ^ (c2 + ex r) = A; generalize 2 ^ v = C; generalize (2 : Nat) ^ 52 = D; grind
  have:=pow_lt_pow_exp (a:=1 + l + u + c1) (b:=55 + (c2 + ex r) + v) (by omega)
  omega
 ·have h1 : rv r * 2 ^ v <= 2 * (mag * 2 ^ u):=by
   have:=hr.lo h0
   refine Nat.le_trans (Nat.mul_le_mul_right _ ?_) this
   omega
  have h2 : rv r * 2 ^ v * 2 ^ c1 <= 2 * (mag * 2 ^ u) * 2 ^ c1:=Nat.mul_le_mul_right _ h1
  have h3 : rv r * 2 ^ v * 2 ^ c1 = nM r * 2 ^ (c2 + ex r) * 2 ^ v:=by rw [<- hval]; grind
  have h4 : 2 ^ 52 * 2 ^ (c2 + ex r) * 2 ^ v <= nM r * 2 ^ (c2 + ex r) * 2 ^ v:=Nat.mul_le_mul_right _ (Nat.mul_le_mul_right _ m1)
  have h5 : 2 * (mag * 2 ^ u) * 2 ^ c1 < 2 * (2 ^ (l + 1) * 2 ^ u) * 2 ^ c1:=by
   refine Nat.mul_lt_mul_of_pos_right ?_ (Nat.two_pow_pos _)
   have : mag * 2 ^ u < 2 ^ (l + 1) * 2 ^ u:=Nat.mul_lt_mul_of_pos_right l2 (Nat.two_pow_pos _)
   omega
  have h6 : 2 * (2 ^ (l + 1) * 2 ^ u) * 2 ^ c1 = 2 ^ (1 + (l + 1) + u + c1):=by simp only [Nat.pow_add]; grind
  have h7 : 2 ^ 52 * 2 ^ (c2 + ex r) * 2 ^ v = 2 ^ (52 + (c2 + ex r) + v):=by rw [Nat.pow_add 2 (52 + (c2 + ex r)) v,Nat.pow_add 2 52 (c2 + ex r)]
  have:=pow_lt_pow_exp (a:=52 + (c2 + ex r) + v) (b:=1 + (l + 1) + u + c1) (by omega)
  omega
def fmaT (x y z : Nat) : Int:=(if sg x ^^ sg y then -1 else 1) * ((mant (rg x) * mant (rg y) * 2 ^ (pl x + pl y + 1074).toNat : Nat) : Int) + vl z
theorem fma_fin (x y z : Nat) (hx : rg x < I) (hy : rg y < I) (hz : rg z < I) (hp : -1074 <= pl x + pl y) : double.fma x y z = some (rnd (sgn2 (sg x ^^ sg y) (sg z) (fmaT x y z)) (fmaT x y z).natAbs):=by
 unfold Format.fma
 rw [read_fin x hx,read_fin y hy,read_fin z hz]
 unfold Datum.product
 dsimp only [Option.bind_some]
 unfold Datum.sum
 dsimp only
 rw [show (-1074 + ((ex (rg x) : Nat) : Int) + (-1074 + ((ex (rg y) : Nat) : Int))) = pl x + pl y from rfl]
 generalize hbase : min (pl x + pl y) (-1074 + ((ex (rg z) : Nat) : Int)) = base
 have h2:=signed_units (sg z) (rg z) base (by omega) (by omega)
 have e2 : vl z = signed (sg z) (mant (rg z)) (-1074 + (ex (rg z) : Nat) - base).toNat * 2 ^ (base + 1074).toNat:=by unfold vl; exact h2.symm
 have e1 : (if sg x ^^ sg y then -1 else 1) * ((mant (rg x) * mant (rg y) * 2 ^ (pl x + pl y + 1074).toNat : Nat) : Int) = signed (sg x ^^ sg y) (mant (rg x) * mant (rg y)) (pl x + pl y - base).toNat * 2 ^ (base + 1074).toNat:=by
  have key : mant (rg x) * mant (rg y) * 2 ^ (pl x + pl y + 1074).toNat = mant (rg x) * mant (rg y) * 2 ^ (pl x + pl y - base).toNat * 2 ^ (base + 1074).toNat:=by
   rw [Nat.mul_assoc (mant (rg x) * mant (rg y)) (2 ^ _),<- Nat.pow_add]; congr 2; omega
  unfold signed
  rw [Nat.shiftLeft_eq]
  rw [key]
  cases (sg x ^^ sg y)
  ·simp
  ·simp [Int.neg_mul]
 have e3 : fmaT x y z = (signed (sg x ^^ sg y) (mant (rg x) * mant (rg y)) (pl x + pl y - base).toNat + signed (sg z) (mant (rg z)) (-1074 + (ex (rg z) : Nat) - base).toNat) * 2 ^ (base + 1074).toNat:=by
  unfold fmaT; rw [e1,e2,Int.add_mul]
 generalize signed (sg x ^^ sg y) (mant (rg x) * mant (rg y)) (pl x + pl y - base).toNat = a at *
 generalize signed (sg z) (mant (rg z)) (-1074 + (ex (rg z) : Nat) - base).toNat = b at *
 have hpp:=pow_pos_int (base + 1074).toNat
 have hs : (if a + b = 0 then ((sg x ^^ sg y) && sg z) else decide (a + b < 0)) = sgn2 (sg x ^^ sg y) (sg z) (fmaT x y z):=by
  unfold sgn2; rw [e3]
  generalize (2 : Int) ^ (base + 1074).toNat = P at *
  by_cases h0 : a + b = 0
  ·rw [h0]; simp
  ·have : (a + b) * P ≠ 0:=Int.mul_ne_zero h0 (by omega)
   rw [if_neg h0,if_neg this]
   congr 1
   apply propext
   constructor
   ·intro h; exact Int.mul_neg_of_neg_of_pos h hpp
   ·intro h
    rcases Int.lt_trichotomy (a + b) 0 with h3 | h3 | h3
    ·exact h3
    ·omega
    ·have:=Int.mul_pos h3 hpp; omega
 simp only [Option.map_some,Format.write]
 rw [hs,nearest_units _ _ _ (by omega),e3,Int.natAbs_mul]
 congr 3
end Fl
end
section
open Fl in
theorem fL_word (n s r : Nat) (last : Int) (hn : n <= 9007199254740992) (hs : last + 1074 = s) (hr : rv r = n * 2 ^ s) : fL n last = wd false (min r I):=by
 unfold fL
 by_cases h0 : n = 0
 ·rw [if_pos h0]
  subst h0
  have : r = 0:=by
   rcases Nat.eq_zero_or_pos r with h | h
   ·exact h
   ·have:=rv_pos h; omega
  rw [this,Nat.zero_min]; decide
 ·rw [if_neg h0]
  have e : floatOfInt .f64 ((n : Nat) : Int) = rnd false (n * Fl.U):=ofInt_sgi false n
  obtain ⟨h1,h2⟩:=whole_rr n hn
  rw [e]
  unfold scl
  rw [sg_rnd,rg_rnd]
  obtain ⟨q,e1,e2⟩:=nearest_rnd false (mant (rr (n * Fl.U))) (pl (rnd false (n * Fl.U)) + last) (ex (rr (n * Fl.U)) + s) E (by
   have : pl (rnd false (n * Fl.U)) = -1074 + (ex (rr (n * Fl.U)) : Nat):=by unfold pl; rw [rg_rnd]
   have hE : (E : Int) = 1074:=by rw [E_eq]; rfl
   omega)
  have hX : mant (rr (n * Fl.U)) * 2 ^ (ex (rr (n * Fl.U)) + s) = rv r * 2 ^ E:=by
   rw [Nat.pow_add,<- Nat.mul_assoc,show mant (rr (n * Fl.U)) * 2 ^ ex (rr (n * Fl.U)) = rv (rr (n * Fl.U)) from rfl,h1,hr]
   rw [U_def]
   generalize 2 ^ E = X
   generalize 2 ^ s = Y
   ac_rfl
  rw [hX] at e2
  rw [e1,e2.eq (Rnd.exact r E)]
end
section
open Go.RowKit
theorem u64_and1 (x : Nat) (hx : x < 18446744073709551616) : bits BinOp.and IntKind.u64 (x : Int) 1 = ((x % 2 : Nat) : Int):=by
 have e : (1 : Int) = ((1 : Nat) : Int):=rfl
 rw [e,u64_and_nat _ _ hx (by decide),Nat.and_one_is_mod]
theorem right_zero (w : World) : Calls Tryz.prog 180 #[.agg #[.bool false,.slice none 0 0,.int .i64 0]] w fun e w'=>e = .returned (.bool true) /\ Below w.heap.size w w':=by
 have HB:=Hd ((Below.refl w.heap.size w).alloc (Nat.le_refl _) (.cells #[.bool false,.slice none 0 0,.int .i64 0] 158))
 go_enter Tryz.func180,Tryz.ntmps180
 go_wp2
 go_ret
 exact ⟨rfl,HB.out⟩
set_option maxRecDepth 100000 in
theorem right_odd (s : Bool) (A : Option Addr) (n c : Nat) (x : Int) (N : Nat) (w : World) (h : NU w A n c N) (ho : N % 2 = 1) (hx1 : -1048576 <= x) (hx2 : x <= 1048576) :
  Calls Tryz.prog 180 #[.agg #[.bool s,.slice A n c,.int .i64 x]] w fun e w'=>e = .returned (.bool true) /\ Below w.heap.size w w':=by
 obtain ⟨hn1,hn2⟩:=h.len
 have hN : N ≠ 0:=by omega
 have hb:=(Below.refl w.heap.size w).alloc (Nat.le_refl _) (.cells #[.bool s,.slice A n c,.int .i64 x] 158)
 obtain ⟨t,m,t1,t2,t3,t4,t5,t6⟩:=dg_top 18446744073709551616 (by decide) N hN
 obtain ⟨ad,rfl,_,hc0⟩:=(h.below hb).1.2.2.2 0 _ (dg_head N hN)
 rw [Addr.add_zero' ad] at hc0
 obtain ⟨ad2,e2,_,hc1⟩:=(h.below hb).1.2.2.2 m t t2
 obtain rfl:=Option.some.inj e2
 rw [t1] at hn1
 subst hn1
 have g0 : ((((m + 1 : Nat) : Int)) == 0) = false:=by simp; omega
 have g1 : IntKind.i64.wrap (((m + 1 : Nat) : Int) - 1) = (m : Int):=by rw [IntKind.wrap_i64]; omega
 have g1' : ((m + 1 : Nat) : Int) - 1 = (m : Int):=by omega
 have g2 : decide (((m + 1 : Nat) : Int) <= 4096) = true:=decide_eq_true (by omega)
 have g3 : ((t : Int) != 0) = true:=by simp; omega
 obtain ⟨v,hv⟩ : ∃ v,v = N % 18446744073709551616:=⟨_,rfl⟩
 rw [<- hv] at hc0
 have g4 : bits BinOp.and IntKind.u64 (v : Int) 1 = 1:=by
  rw [u64_and1 v (by rw [hv]; exact Nat.mod_lt _ (by decide))]
  have : v % 2 = 1:=by omega
  rw [this]; rfl
 have g5 : decide ((-1048576 : Int) <= x) = true:=decide_eq_true hx1
 have g6 : decide (x <= (1048576 : Int)) = true:=decide_eq_true hx2
 have HB:=Hd hb
 clear h hb ho hN t2 t3 t4 t5 t6 e2 hv t1
 go_enter Tryz.func180,Tryz.ntmps180
 go_wp2
 go_ret
 exact ⟨rfl,HB.out⟩
def offN (n : Nat) : Nat:=if n % 4 = 3 \/ (n % 4 = 2 /\ n / 4 % 2 = 1) then n / 4 + 1 else n / 4
theorem offN_le (n : Nat) : n / 4 <= offN n /\ offN n <= n / 4 + 1:=by unfold offN; split <;> omega
open Fl in
theorem fl_word (m s : Nat) (last : Int) (hs : last + 1074 = s) (hs2 : s <= 2040) (h1 : 4503599627370496 <= m) (h2 : m <= 9007199254740992) : fL m last = s * 4503599627370496 + m:=by
 have hI : s * 4503599627370496 + m <= 9218868437227405312:=by omega
 have hr : rv (s * B + m) = m * 2 ^ s:=rv_of s m h2 (.inr h1)
 rw [fL_word m s (s * B + m) last h2 hs hr]
 have e : min (s * B + m) I = s * B + m:=Nat.min_eq_left hI
 rw [e]
 rfl
theorem ends_any (n : Nat) (last : Int) (s : Nat) (w : World) (h1 : 18014398509481984 <= n) (h2 : n < 36028797018963968) (hs : last + 1076 = s) (hs2 : s <= 2040) :
  Calls Tryz.prog 188 #[.int .u64 n,.int .i64 last] w fun e w'=>e = .returned (.float .f64 (s * 4503599627370496 + offN n)) /\ w = w':=by
 have hof:=offN_le n
 have hw:=fl_word (offN n) s (last + 2) (by omega) hs2 (by omega) (by omega)
 have hld : Calls Tryz.prog 57 #[.float .f64 (floatOfInt .f64 ((offN n : Nat) : Int)),.int .i64 (last + 2)] w fun e w'=>e = .returned (.float .f64 (s * 4503599627370496 + offN n)) /\ w = w':=by
  have hi:=int_word (offN n) (by omega)
  have h:=ldexp_fin (floatOfInt .f64 ((offN n : Nat) : Int)) (last + 2) w hi.1 (hi.2.2.2 (by omega)) hi.2.1 (by omega) (by omega)
  rw [<- hw]
  unfold fL
  rw [if_neg (by omega)]
  exact h
 have HLD:=Hd hld
 obtain ⟨q,hq⟩ : ∃ q,q = n / 4:=⟨_,rfl⟩
 obtain ⟨r,hr⟩ : ∃ r,r = n % 4:=⟨_,rfl⟩
 have g1 : (n : Int) / 2 ^ 2 = (q : Int):=by omega
 have g1' : (n : Int) / 4 = (q : Int):=by omega
 have g2 : bits BinOp.and IntKind.u64 (n : Int) 3 = (r : Int):=by
  have e : (3 : Int) = ((3 : Nat) : Int):=rfl
  rw [e,u64_and_nat _ _ (by omega) (by decide),show n &&& 3 = n % 4 from Nat.and_two_pow_sub_one_eq_mod n 2,hr]
 have g3 : bits BinOp.and IntKind.u64 (q : Int) 1 = ((q % 2 : Nat) : Int):=u64_and1 q (by omega)
 have g4 : IntKind.i64.wrap (last + 2) = last + 2:=by rw [IntKind.wrap_i64]; omega
 have g5 : IntKind.u64.wrap ((q : Int) + 1) = (q : Int) + 1:=by rw [IntKind.wrap_u64]; omega
 by_cases hc : r = 3 \/ (r = 2 /\ q % 2 = 1)
 ·have HO : Hid (offN n = q + 1):=Hd (by unfold offN; rw [<- hq,<- hr,if_pos hc])
  rw [HO.out] at HLD ⊢
  rcases hc with hc | ⟨hc,hc2⟩
  ·subst hc
   clear hof hw hld hq hr h1 h2 hs hs2 HO
   go_enter Tryz.func188,Tryz.ntmps188
   go_wp2_with fail
   refine HLD.out.mono ?_
   rintro e w1 ⟨rfl,rfl⟩
   go_wp2
   go_ret
   exact ⟨rfl,rfl⟩
  ·subst hc
   rw [hc2] at g3
   clear hof hw hld hq hr h1 h2 hs hs2 HO hc2
   go_enter Tryz.func188,Tryz.ntmps188
   go_wp2_with fail
   refine HLD.out.mono ?_
   rintro e w1 ⟨rfl,rfl⟩
   go_wp2
   go_ret
   exact ⟨rfl,rfl⟩
 ·have HO : Hid (offN n = q):=Hd (by unfold offN; rw [<- hq,<- hr,if_neg hc])
  rw [HO.out] at HLD ⊢
  by_cases hc2 : r = 2
  ·subst hc2
   have : q % 2 = 0:=by omega
   rw [this] at g3
   clear hof hw hld hq hr h1 h2 hs hs2 HO hc this
   go_enter Tryz.func188,Tryz.ntmps188
   go_wp2_with fail
   refine HLD.out.mono ?_
   rintro e w1 ⟨rfl,rfl⟩
   go_wp2
   go_ret
   exact ⟨rfl,rfl⟩
  ·have b1 : ((r : Int) == 3) = false:=by simp; omega
   have b2 : ((r : Int) == 2) = false:=by simp; omega
   clear hof hw hld hq hr h1 h2 hs hs2 HO hc hc2
   go_enter Tryz.func188,Tryz.ntmps188
   go_wp2_with fail
   refine HLD.out.mono ?_
   rintro e w1 ⟨rfl,rfl⟩
   go_wp2
   go_ret
   exact ⟨rfl,rfl⟩
end
end Go.Proofs.YtfpopdneokekiaaGreatDoor

/-
Walks: fault's may and product.
-/
import Derived.Test.YtnpanpkahbcecaaGreatDoorP18
import Derived.Test.YtnpanpkahbcecaaGreatDoorP27
import Derived.LoopTactic
import Derived.Below
import Derived.Lib.Hide
set_option linter.unusedVariables false
set_option linter.unusedSimpArgs false
namespace Go.Proofs.YtnpanpkahbcecaaGreatDoor
section
namespace Fl
open Ieee
theorem rootFrom_spec (n : Nat) : ∀ (todo root : Nat),root * root <= n -> n < (root + 2 ^ todo) * (root + 2 ^ todo) -> Datum.rootFrom n todo root * Datum.rootFrom n todo root <= n /\ n < (Datum.rootFrom n todo root + 1) * (Datum.rootFrom n todo root + 1)
 | 0,root,h1,h2=>by
   unfold Datum.rootFrom
   exact ⟨h1,by simpa using h2⟩
 | todo + 1,root,h1,h2=>by
   unfold Datum.rootFrom
   dsimp only
   rw [Nat.one_shiftLeft]
   by_cases h : (root + 2 ^ todo) * (root + 2 ^ todo) <= n
   ·rw [if_pos h]
    refine rootFrom_spec n todo _ h ?_
    have : root + 2 ^ todo + 2 ^ todo = root + 2 ^ (todo + 1):=by rw [Nat.pow_succ]; omega
    rw [this]; exact h2
   ·rw [if_neg h]
    exact rootFrom_spec n todo _ h1 (by omega)
def isq (n : Nat) : Nat:=Datum.rootFrom n (n.log2 / 2 + 1) 0
theorem isq_spec (n : Nat) : isq n * isq n <= n /\ n < (isq n + 1) * (isq n + 1):=by
 refine rootFrom_spec n _ 0 (by omega) ?_
 rw [Nat.zero_add,<- Nat.pow_add]
 exact Nat.lt_of_lt_of_le Nat.lt_log2_self (Nat.pow_le_pow_right (by omega) (by omega))
def stickR (n : Nat) : Nat:=2 * isq n + (isq n * isq n != n).toNat
theorem stickR_cmp (n h : Nat) : compare (stickR n) (2 * h) = compare n (h * h):=by
 obtain ⟨h1,h2⟩:=isq_spec n
 unfold stickR
 generalize isq n = w at *
 have hb : (w * w != n).toNat <= 1:=by cases (w * w != n) <;> simp
 rw [compare_nat,compare_nat]
 rcases Nat.lt_trichotomy w h with h3 | h3 | h3
 ·have : (w + 1) * (w + 1) <= h * h:=Nat.mul_le_mul h3 h3
  rw [if_pos (by omega),if_pos (by omega)]
 ·subst h3
  by_cases he : w * w = n
  ·rw [he,show (n != n) = false by simp,Bool.toNat_false,if_neg (by omega),if_pos (by omega),if_neg (by omega),if_pos rfl]
  ·rw [bne_iff_ne.2 he,Bool.toNat_true,if_neg (by omega),if_neg (by omega),if_neg (by omega),if_neg (by omega)]
 ·have : (h + 1) * (h + 1) <= w * w:=Nat.mul_le_mul h3 h3
  have e : (h + 1) * (h + 1) = h * h + 2 * h + 1:=by grind
  rw [if_neg (by omega),if_neg (by omega),if_neg (by omega),if_neg (by omega)]
def par (a : Nat) : Nat:=(nE (rg a) % 2).toNat
def sN (a : Nat) : Nat:=nM (rg a) * 2 ^ (56 + par a)
def sM (a : Nat) : Nat:=stickR (sN a)
def pR (a : Nat) : Int:=(nE (rg a) - par a) / 2 - 566
def nearR (a : Nat) : Nat:=double.nearest false (sM a) (pR a)
theorem par_le (a : Nat) : par a <= 1:=by unfold par; omega
theorem sqrt_near (a : Nat) (fa : rg a < I) (a0 : 0 < rg a) (hs : sg a = false) : double.sqrt a = some (nearR a):=by
 obtain ⟨c,c1,c2,c3,c4,c5⟩:=norm_up (rg a) a0
 unfold Format.sqrt
 rw [read_fin a fa,dF]
 unfold Datum.root
 dsimp only
 rw [if_neg c5,hs,if_neg (by simp)]
 simp only [Option.map_some,Format.write]
 have h1 : 2 * (52 + 2) - (mant (rg a)).log2 = 56 + c:=by omega
 rw [h1]
 have h2 : ((-1074 + ((ex (rg a) : Nat) : Int) - ((56 + c : Nat) : Int)) % 2).toNat = par a:=by unfold par; omega
 rw [h2,Nat.shiftLeft_eq]
 have h3 : mant (rg a) * 2 ^ (56 + c + par a) = sN a:=by
  unfold sN
  rw [c2,Nat.mul_assoc,<- Nat.pow_add]
  congr 2; omega
 rw [h3]
 show some (double.nearest false (stickR (sN a)) _) = _
 unfold nearR sM
 congr 2
 unfold pR
 omega
theorem sM_range (a : Nat) (a0 : 0 < rg a) : sM a ≠ 0 /\ sM a < 2 ^ 56 /\ (sM a).log2 = 55:=by
 obtain ⟨m1,m2⟩:=nM_range (rg a) a0
 rw [B_eq] at *
 have hp:=par_le a
 obtain ⟨h1,h2⟩:=isq_spec (sN a)
 have n1 : 2 ^ 54 * 2 ^ 54 <= sN a:=by
  unfold sN
  calc 2 ^ 54 * 2 ^ 54 = 2 ^ 52 * 2 ^ 56:=by decide
   _ <= nM (rg a) * 2 ^ (56 + par a):=Nat.mul_le_mul m1 (Nat.pow_le_pow_right (by decide) (by omega))
 have n2 : sN a < 2 ^ 55 * 2 ^ 55:=by
  unfold sN
  calc nM (rg a) * 2 ^ (56 + par a) < 2 * 2 ^ 52 * 2 ^ (56 + par a):=Nat.mul_lt_mul_of_pos_right m2 (Nat.two_pow_pos _)
   _ <= 2 * 2 ^ 52 * 2 ^ 57:=Nat.mul_le_mul_left _ (Nat.pow_le_pow_right (by decide) (by omega))
   _ = 2 ^ 55 * 2 ^ 55:=by decide
 have w1 : 2 ^ 54 <= isq (sN a):=by
  rcases Nat.lt_or_ge (isq (sN a)) (2 ^ 54) with h | h
  ·have : (isq (sN a) + 1) * (isq (sN a) + 1) <= 2 ^ 54 * 2 ^ 54:=Nat.mul_le_mul h h
   omega
  ·exact h
 have w2 : isq (sN a) < 2 ^ 55:=by
  rcases Nat.lt_or_ge (isq (sN a)) (2 ^ 55) with h | h
  ·exact h
  ·have : 2 ^ 55 * 2 ^ 55 <= isq (sN a) * isq (sN a):=Nat.mul_le_mul h h
   omega
 have hb : (isq (sN a) * isq (sN a) != sN a).toNat <= 1:=by cases (isq (sN a) * isq (sN a) != sN a) <;> simp
 have e1 : 2 ^ 55 <= sM a:=by unfold sM stickR; omega
 have e2 : sM a < 2 ^ 56:=by unfold sM stickR; omega
 have e0 : sM a ≠ 0:=by omega
 have l1:=(Nat.le_log2 e0).2 e1
 have l2:=(Nat.log2_lt e0).2 e2
 exact ⟨e0,e2,by omega⟩
theorem ra1 (m e J : Nat) : m * 2 ^ (e + (J + 56)) = 2 * (2 * m * 2 ^ e) * 2 ^ (J + 54):=by
 rw [Nat.pow_add 2 e,show J + 56 = 2 + (J + 54) by omega,Nat.pow_add 2 2]
 generalize (2 : Nat) ^ (J + 54) = A
 grind
theorem ra2 (M q J : Nat) : M * 2 ^ (J + 56 + q) = M * 2 ^ (56 + q) * 2 ^ J:=by
 rw [show J + 56 + q = (56 + q) + J by omega,Nat.pow_add 2 (56 + q),Nat.mul_assoc]
theorem ra3 (m e J : Nat) : m * m * 2 ^ (2 * e + (J + 2)) = 2 * m * 2 ^ e * (2 * m * 2 ^ e) * 2 ^ J:=by
 rw [show 2 * e + (J + 2) = e + e + 2 + J by omega,Nat.pow_add 2 (e + e + 2),Nat.pow_add 2 (e + e),Nat.pow_add 2 e]
 generalize (2 : Nat) ^ J = A
 grind
theorem root_cmp (a r : Nat) (e J : Nat) (hJ : J = 964) (he : ex r = e + (J + 56)) : compare (nM (rg a) * 2 ^ (J + 56 + par a)) (mant r * mant r * 2 ^ (2 * e + (J + 2))) = cmpR (sM a) (-56) r:=by
 have hs:=stickR_cmp (sN a) (2 * mant r * 2 ^ e)
 unfold cmpR rv sM
 rw [he,show (-56 + 1074 : Int).toNat = J + 54 by omega,show (-(-56 + 1074) : Int).toNat = 0 from rfl,Nat.pow_zero,Nat.mul_one,ra1 (mant r) e J,ra2 (nM (rg a)) (par a) J,ra3 (mant r) e J,compare_mul _ _ _ (Nat.two_pow_pos _),compare_mul _ _ _ (Nat.two_pow_pos _),hs]
 rfl
theorem half_frx (x : Nat) (h0 : 0 < rg x) (hs : sg x = false) : double.div (frx x) 4611686018427387904 = some (1020 * B + nM (rg x)):=by
 obtain ⟨s1,s2,s3,s4,s5,s6⟩:=frx_facts x h0
 obtain ⟨m1,m2⟩:=nM_range (rg x) h0
 have hnB : ¬ rg (frx x) < B:=by rw [s2]; unfold B at *; omega
 have u1 : nM (rg (frx x)) = nM (rg x):=by
  have : nM (rg (frx x)) = mant (rg (frx x)):=by unfold nM; rw [if_neg hnB]
  rw [this,s4]
 have u2 : nE (rg (frx x)) = 1021:=by unfold nE; rw [if_neg hnB,s5]; rfl
 have u3 : 0 < rg (frx x):=by have : 0 < B:=by decide
                              omega
 rw [div_near (frx x) 4611686018427387904 s3 (by decide) u3 (by decide)]
 have hN : nM (rg 4611686018427387904) = B:=by decide
 have hE : nE (rg 4611686018427387904) = 1023:=by decide
 have hd : dM (frx x) 4611686018427387904 = nM (rg x) * 2 ^ 3:=by
  unfold dM
  rw [u1,hN,show nM (rg x) * 2 ^ 54 = nM (rg x) * 4 * B by rw [Nat.mul_assoc]; rfl]
  have hBp : 0 < B:=by decide
  unfold stick
  rw [Nat.mul_div_cancel _ hBp,Nat.mul_mod_left]
  simp; omega
 have hp : pD (frx x) 4611686018427387904 = -57:=by unfold pD; rw [u2,hE]; rfl
 unfold nearQ
 rw [hd,hp,s1,hs,show sg 4611686018427387904 = false from by decide]
 have hc:=nearest_congr (false ^^ false) (nM (rg x) * 2 ^ 3) (nM (rg x)) (-57) (-1074 + ((1020 : Nat) : Int)) 0 3 (by rw [Nat.pow_zero,Nat.mul_one]) (by decide)
 rw [hc]
 have he:=(nearest_exact (false ^^ false) (nM (rg x)) 1020 m1 m2 (by decide)).1
 rw [he]; rfl
end Fl
end
section
open Go.RowKit
def Fl.sqrtF (a : Nat) (up : Bool) : Nat:=Fl.sideW (Fl.nearR a) (Fl.cmpR (Fl.sM a) (Fl.pR a) (Fl.rg (Fl.nearR a))) (Fl.next (Fl.nearR a) up) up
theorem run_sqrt_any (x : Nat) (w : World) : ∃ s w1,(callFunc 201 #[.float .f64 x]).run Tryz.prog w = .ok (.value (.float .f64 s)) w1 /\ Fl.Is (Ieee.double.sqrt x) s /\ (w1 = w \/ w1 = w.drew):=by
 have hx : Extern.MathSqrt.sqrt #[.float .f64 x] = (match FloatKind.f64.format.sqrt x with | some r=>pure (.float .f64 r) | none=>do pure (.float .f64 (<- choose (.nanBits .f64 x x)))):=rfl
 rw [run_callFunc_extern (e:=Extern.MathSqrt.sqrt) Tryz.func201 (by kernel_rfl) (by kernel_rfl) (by kernel_rfl) (by kernel_rfl),hx]
 cases h : FloatKind.f64.format.sqrt x with
 | some r =>
   have h' : Ieee.double.sqrt x = some r:=h
   exact ⟨r,w,rfl,by rw [h']; rfl,.inl rfl⟩
 | none =>
   have h' : Ieee.double.sqrt x = none:=h
   refine ⟨_,w.drew,?_,by rw [h']; exact Fl.nan_draw (w.tape w.drawn (.nanBits .f64 x x)),.inr rfl⟩
   simp [Question.forced,Question.cut,Result.andThen]
theorem msqrt_any (x : Nat) (w : World) : Calls Tryz.prog 186 #[.float .f64 x] w (FlPost (Ieee.double.sqrt x) w):=by
 obtain ⟨s,w1,hr,hs,hw1⟩:=run_sqrt_any x w
 have HD : Hid (Dr w w1):=by rcases hw1 with rfl | rfl; exact Dr.refl _; exact Dr.drew _
 have HS : Hid (Fl.Is (Ieee.double.sqrt x) s):=hs
 clear hs hw1
 go_enter Tryz.func186,Tryz.ntmps186
 go_wp2
 go_ret
 exact ⟨s,rfl,HS.out,HD.out⟩
theorem nearR_lt (a : Nat) : Fl.nearR a < 2 * Fl.W:=by
 obtain ⟨r,h,_⟩:=Fl.nearest_word false (Fl.sM a) (Fl.pR a)
 unfold Fl.nearR; rw [h]; exact Fl.wd_lt _ _ (Fl.min_I_lt r)
theorem Fl.mid_fin (s : Bool) (mag : Nat) (p : Int) (k : Nat) (h0 : mag ≠ 0) (h : mag < 2 ^ k) (hp : p + k <= 1000) (hp2 : -1074 <= p) : Fl.rg (Ieee.double.nearest s mag p) < Fl.I /\ 0 < Fl.rg (Ieee.double.nearest s mag p):=by
 rw [Fl.nearest_units s mag p hp2,Fl.rg_rnd]
 have hpos : 0 < mag * 2 ^ (p + 1074).toNat:=Nat.mul_pos (Nat.pos_of_ne_zero h0) (Nat.two_pow_pos _)
 refine ⟨?_,Fl.rr_pos _ hpos⟩
 obtain ⟨q,q1,q2⟩:=Fl.rnd_spec false (mag * 2 ^ (p + 1074).toNat)
 have hrr : Fl.rr (mag * 2 ^ (p + 1074).toNat) = min q Fl.I:=q1
 have hE:=Fl.E_eq
 have hr:=Fl.rv_of (Fl.E + 948) Fl.B (by unfold Fl.B; omega) (.inr (Nat.le_refl _))
 have hc : (Fl.E + 948) * Fl.B + Fl.B = 2023 * Fl.B:=by rw [hE,<- Nat.succ_mul]
 rw [hc] at hr
 have hq : q <= 2023 * Fl.B:=by
  have hex:=Fl.Rnd.exact (2023 * Fl.B) 0
  refine q2.mono hex ?_
  rw [hr,Nat.pow_zero,Nat.mul_one,Nat.mul_one,Nat.mul_one]
  have h1 : mag * 2 ^ (p + 1074).toNat <= 2 ^ k * 2 ^ (p + 1074).toNat:=Nat.mul_le_mul_right _ (Nat.le_of_lt h)
  refine Nat.le_trans h1 ?_
  rw [Fl.B_eq,<- Nat.pow_add,<- Nat.pow_add]
  refine Fl.pow_le ?_
  generalize Fl.E = e at *
  clear hc hr hex q1 q2 hrr
  omega
 rw [hrr]
 exact Nat.lt_of_le_of_lt (Nat.min_le_left _ _) (Nat.lt_of_le_of_lt hq (by decide))
theorem Fl.sqrt_arg (a x : Nat) (a0 : 0 < Fl.rg a) (hx : x = (1020 + Fl.par a) * Fl.B + Fl.nM (Fl.rg a)) : x < Fl.I /\ Fl.rg x = x /\ Fl.sg x = false /\ 0 < Fl.rg x /\ Fl.mant x = Fl.nM (Fl.rg a) /\ Fl.ex x = 1020 + Fl.par a /\ Fl.nM (Fl.rg x) = Fl.nM (Fl.rg a) /\ Fl.nE (Fl.rg x) = 1020 + Fl.par a:=by
 obtain ⟨m1,m2⟩:=Fl.nM_range (Fl.rg a) a0
 have hpar:=Fl.par_le a
 have hBp : 0 < Fl.B:=by decide
 have hp45 : 1020 + Fl.par a <= 2045:=by clear hx m1 m2; omega
 have xI : x < Fl.I:=by rw [hx]; exact Fl.rung_lt _ _ hp45 m2
 have xW : x < Fl.W:=Nat.lt_trans xI Fl.I_lt_W
 have hxr : Fl.rg x = x:=Nat.mod_eq_of_lt xW
 have hxs : Fl.sg x = false:=by unfold Fl.sg; rw [Nat.div_eq_of_lt xW]; rfl
 have x0 : 0 < Fl.rg x:=by rw [hxr,hx]; exact Nat.lt_of_lt_of_le (Nat.lt_of_lt_of_le hBp m1) (Nat.le_add_left _ _)
 have hmx : Fl.mant x = Fl.nM (Fl.rg a):=by rw [hx]; exact Fl.mant_of _ _ m2 (.inr m1)
 have hex : Fl.ex x = 1020 + Fl.par a:=by rw [hx]; exact Fl.ex_of _ _ m2 (.inr m1)
 have hnB : ¬ Fl.rg x < Fl.B:=by
  rw [hxr,hx]
  exact Nat.not_lt.2 (Nat.le_trans m1 (Nat.le_add_left _ _))
 have hnM : Fl.nM (Fl.rg x) = Fl.nM (Fl.rg a):=by
  have : Fl.nM (Fl.rg x) = Fl.mant (Fl.rg x):=by
   conv=>lhs; unfold Fl.nM
   rw [if_neg hnB]
  rw [this,hxr,hmx]
 have hnE : Fl.nE (Fl.rg x) = 1020 + Fl.par a:=by unfold Fl.nE; rw [if_neg hnB,hxr,hex]; rfl
 exact ⟨xI,hxr,hxs,x0,hmx,hex,hnM,hnE⟩
theorem Fl.cmpS_false (c : Ordering) : Fl.cmpS false c = c:=rfl
theorem Fl.sqrt_scaled (a x : Nat) (a0 : 0 < Fl.rg a) (hx : x = (1020 + Fl.par a) * Fl.B + Fl.nM (Fl.rg a)) : ∃ q off,Ieee.double.sqrt x = some q /\ q = Ieee.double.nearest false (Fl.sM a) (-56) /\ q < 2 * Fl.W /\ Fl.rg q < Fl.I /\ 0 < Fl.rg q /\ Ieee.double.fma (Fl.ng q) q x = some off /\ FloatKind.f64.format.order off 0 = some (Fl.cmpR (Fl.sM a) (-56) (Fl.rg q)):=by
 obtain ⟨xI,hxr,hxs,x0,hmx,hex,hnM,hnE⟩:=Fl.sqrt_arg a x a0 hx
 clear hx
 have hpar:=Fl.par_le a
 have hpx : Fl.par x = Fl.par a:=by
  have : Fl.par x = (Fl.nE (Fl.rg x) % 2).toNat:=rfl
  rw [this,hnE]; omega
 have hsM : Fl.sM x = Fl.sM a:=by unfold Fl.sM Fl.sN; rw [hnM,hpx]
 have hpR : Fl.pR x = -56:=by unfold Fl.pR; rw [hnE,hpx]; omega
 have hsq : Ieee.double.sqrt x = some (Ieee.double.nearest false (Fl.sM a) (-56)):=by
  rw [Fl.sqrt_near x (by rw [hxr]; exact xI) x0 hxs]; unfold Fl.nearR; rw [hsM,hpR]
 obtain ⟨g0,g1,g2⟩:=Fl.sM_range a a0
 obtain ⟨q1,q2,q3⟩:=Fl.small_fin false (Fl.sM a) (-56) 56 g0 g1 (by decide) (by decide)
 obtain ⟨K,hK⟩ : ∃ K : Nat,K = 1018:=⟨_,rfl⟩
 have hK2 : ((K : Nat) : Int) - ((0 : Nat) : Int) = -56 + 1074:=by omega
 obtain ⟨rr,w1,w2⟩:=Fl.nearest_rnd false (Fl.sM a) (-56) K 0 hK2
 have hql : Ieee.double.nearest false (Fl.sM a) (-56) < 2 * Fl.W:=by
  rw [Fl.nearest_units _ _ _ (by decide)]; exact Fl.rnd_lt _ _
 have hrg : Fl.rg (Ieee.double.nearest false (Fl.sM a) (-56)) = min rr Fl.I:=by rw [w1,Fl.rg_wd _ _ (Fl.min_I_lt rr)]
 obtain ⟨_,hrr⟩:=Fl.of_min hrg q1
 rw [<- hrr] at w2
 generalize hQ : Ieee.double.nearest false (Fl.sM a) (-56) = r at *
 have hl:=Fl.near_lead (Fl.sM a) (Fl.rg r) K 0 (-56) g0 hK2 w2 q2
 rw [g2] at hl
 clear w2 w1 hrr hrg g1 hsq
 have hsq : Ieee.double.sqrt x = some r:=by
  rw [Fl.sqrt_near x (by rw [hxr]; exact xI) x0 hxs]; unfold Fl.nearR; rw [hsM,hpR,hQ]
 have hBr : ¬ Fl.rg r < Fl.B:=by
  intro h
  have : Fl.nE (Fl.rg r) <= 0:=by unfold Fl.nE; rw [if_pos h]; omega
  omega
 have hexr : ((Fl.ex (Fl.rg r) : Nat) : Int) = Fl.nE (Fl.rg r):=by unfold Fl.nE; rw [if_neg hBr]
 obtain ⟨e,he⟩ : ∃ e,Fl.ex (Fl.rg r) = e + 1020:=⟨Fl.ex (Fl.rg r) - 1020,by omega⟩
 have p1 : Fl.pl (Fl.ng r) = (e : Int) - 54:=by unfold Fl.pl; rw [Fl.rg_ng r hql,he]; omega
 have p2 : Fl.pl r = (e : Int) - 54:=by unfold Fl.pl; rw [he]; omega
 have hfma:=Fl.fma_fin (Fl.ng r) r x (by rw [Fl.rg_ng r hql]; exact q1) q1 (by rw [hxr]; exact xI) (by rw [p1,p2]; omega)
 refine ⟨r,_,hsq,rfl,hql,q1,q2,hfma,?_⟩
 rw [Fl.ord0 _ (by rw [Fl.rg_rnd]; exact (Fl.rnd_rr false _).2),Fl.key_rnd]
 refine congrArg some ?_
 obtain ⟨J,hJ⟩ : ∃ J : Nat,J = 964:=⟨_,rfl⟩
 have hcmp:=Fl.root_cmp a (Fl.rg r) e J hJ (by rw [he]; omega)
 rw [<- hcmp]
 unfold Fl.fmaT
 rw [Fl.rg_ng r hql,p1,p2,Fl.sg_ng r hql,q3]
 have hva : Fl.vl x = (if false then -((Fl.nM (Fl.rg a) * 2 ^ (J + 56 + Fl.par a) : Nat) : Int) else ((Fl.nM (Fl.rg a) * 2 ^ (J + 56 + Fl.par a) : Nat) : Int)):=by
  unfold Fl.vl Fl.rv; rw [hxs,hxr,hmx,hex,show 1020 + Fl.par a = J + 56 + Fl.par a by omega]
 rw [hva,show ((e : Int) - 54 + ((e : Int) - 54) + 1074).toNat = 2 * e + (J + 2) by omega]
 have:=Fl.cmp_signed2 false (Fl.mant (Fl.rg r) * Fl.mant (Fl.rg r) * 2 ^ (2 * e + (J + 2))) (Fl.nM (Fl.rg a) * 2 ^ (J + 56 + Fl.par a))
 rw [show (!false ^^ false) = !false from rfl]
 rw [Fl.cmpS_false] at this
 exact this
end
section
open Go.RowKit
theorem sqrt_go (a r x q off nq : Nat) (up : Bool) (w : World) (ha : a < 2 * Fl.W) (hf : Fl.rg a < Fl.I) (o1 : FloatKind.f64.format.order a 0 = some .gt) (f : Nat) (i j : Int) (i1 : -2000 <= i) (i2 : i <= 2000) (od : Bool)
  (hm : ∀ w,Calls Tryz.prog 186 #[.float .f64 a] w fun e w'=>e = .returned (.float .f64 r) /\ Dr w w')
  (hfr : ∀ w,Calls Tryz.prog 187 #[.float .f64 a] w fun e w'=>e = .returned (.tuple #[.float .f64 f,.int .i64 i]) /\ w = w')
  (hodd : (Int.tmod i 2 != 0) = od)
  (hdiv : od = true -> ∀ w,(binOp .quo 76 (.float .f64 f) (.float .f64 4611686018427387904)).run Tryz.prog w = .ok (.float .f64 x) w)
  (hnd : od = false -> f = x)
  (hq : ∀ w,Calls Tryz.prog 186 #[.float .f64 x] w fun e w'=>e = .returned (.float .f64 q) /\ Dr w w')
  (hn : ∀ w,(Op.unary .neg (.float .f64 q)).run Tryz.prog w = .ok (.float .f64 nq) w)
  (hfma : ∀ w,(callFunc 189 #[.float .f64 nq,.float .f64 q,.float .f64 x]).run Tryz.prog w = .ok (.value (.float .f64 off)) w)
  (hj : Int.tdiv (if od then i + 1 else i) 2 = j) (j1 : -3000 <= j) (j2 : j <= 3000)
  (s : Nat) (hs : ∀ w,Calls Tryz.prog 188 #[.float .f64 r,.float .f64 q,.float .f64 off,.int .i64 j,.bool up] w fun e w'=>e = .returned (.float .f64 s) /\ Dr w w') :
  Calls Tryz.prog 166 #[.float .f64 a,.bool up] w fun e w'=>e = .returned (.float .f64 s) /\ Dr w w':=by
 have HM:=Hd hm
 have HFR:=Hd hfr
 have HQ:=Hd hq
 have HS:=Hd hs
 clear hm hfr hq hs
 cases od
 ·have hfx:=hnd rfl
  subst hfx
  clear hnd hdiv
  simp only [Bool.false_eq_true,if_false] at hj
  go_enter Tryz.func166,Tryz.ntmps166
  go_wp2_with fail
  refine (HM.out _).mono ?_
  rintro e w1 ⟨rfl,hd⟩
  have D1:=Hd hd
  clear hd
  go_wp2_with fail
  refine (finite_yes a _ ha hf).mono ?_
  rintro e w' ⟨rfl,rfl⟩
  go_wp2_with fail
  refine (HFR.out _).mono ?_
  rintro e w' ⟨rfl,rfl⟩
  go_wp2_with fail
  refine (HQ.out _).mono ?_
  rintro e w2 ⟨rfl,hd⟩
  have D2:=Hd hd
  clear hd
  go_wp2_with fail
  refine (HS.out _).mono ?_
  rintro e w3 ⟨rfl,hd⟩
  have D3:=Hd hd
  clear hd
  go_wp2
  go_ret
  exact ⟨rfl,(D1.out.trans D2.out).trans D3.out⟩
 ·have hdv:=hdiv rfl
  clear hnd hdiv
  simp only [if_true] at hj
  go_enter Tryz.func166,Tryz.ntmps166
  go_wp2_with fail
  refine (HM.out _).mono ?_
  rintro e w1 ⟨rfl,hd⟩
  have D1:=Hd hd
  clear hd
  go_wp2_with fail
  refine (finite_yes a _ ha hf).mono ?_
  rintro e w' ⟨rfl,rfl⟩
  go_wp2_with fail
  refine (HFR.out _).mono ?_
  rintro e w' ⟨rfl,rfl⟩
  go_wp2_with fail
  refine (HQ.out _).mono ?_
  rintro e w2 ⟨rfl,hd⟩
  have D2:=Hd hd
  clear hd
  go_wp2_with fail
  refine (HS.out _).mono ?_
  rintro e w3 ⟨rfl,hd⟩
  have D3:=Hd hd
  clear hd
  go_wp2
  go_ret
  exact ⟨rfl,(D1.out.trans D2.out).trans D3.out⟩
theorem msqrt_some (x r : Nat) (h : Ieee.double.sqrt x = some r) (w : World) : Calls Tryz.prog 186 #[.float .f64 x] w fun e w'=>e = .returned (.float .f64 r) /\ Dr w w':=by
 refine (msqrt_any x w).mono ?_
 rintro e w' ⟨s,rfl,hs,hd⟩
 rw [h] at hs
 have : s = r:=hs
 subst this
 exact ⟨rfl,hd⟩
theorem Fl.tmod_odd (i : Int) : (Int.tmod i 2 != 0) = decide (i % 2 = 1):=by
 rcases Int.lt_or_le i 0 with h | h
 ·have h1 : (-i).tmod 2 = -(i.tmod 2):=Int.neg_tmod ..
  rw [Int.tmod_eq_emod_of_nonneg (by omega)] at h1
  by_cases h2 : i % 2 = 1
  ·rw [decide_eq_true h2,bne_iff_ne]; omega
  ·rw [decide_eq_false h2,bne_eq_false_iff_eq]; omega
 ·rw [Int.tmod_eq_emod_of_nonneg h]
  by_cases h2 : i % 2 = 1
  ·rw [decide_eq_true h2,bne_iff_ne]; omega
  ·rw [decide_eq_false h2,bne_eq_false_iff_eq]; omega
theorem Fl.tdiv_even (i : Int) (h : i % 2 = 0) : 2 * Int.tdiv i 2 = i:=by
 rcases Int.lt_or_le i 0 with h0 | h0
 ·have h1 : (-i).tdiv 2 = -(i.tdiv 2):=Int.neg_tdiv ..
  rw [Int.tdiv_eq_ediv_of_nonneg (by omega)] at h1
  omega
 ·rw [Int.tdiv_eq_ediv_of_nonneg h0]; omega
theorem sqrt_fine (a : Nat) (up : Bool) (w : World) (ha : a < 2 * Fl.W) (hf : Fl.rg a < Fl.I) (a0 : 0 < Fl.rg a) (hs : Fl.sg a = false) :
  Calls Tryz.prog 166 #[.float .f64 a,.bool up] w fun e w'=>e = .returned (.float .f64 (Fl.sqrtF a up)) /\ Dr w w':=by
 obtain ⟨q,off,e1,e2,e3,e4,e5,e6,e7⟩:=Fl.sqrt_scaled a _ a0 rfl
 have r1:=Fl.nE_range (Fl.rg a) a0 hf
 have hpar : (Fl.par a : Int) = Fl.nE (Fl.rg a) % 2:=by unfold Fl.par; omega
 have hpl:=Fl.par_le a
 have hnl:=nearR_lt a
 obtain ⟨g0,g1,g2⟩:=Fl.sM_range a a0
 obtain ⟨j,hj⟩ : ∃ j : Int,j = (Fl.nE (Fl.rg a) - Fl.par a) / 2 - 510:=⟨_,rfl⟩
 have hP : Fl.pR a - j = -56:=by unfold Fl.pR; omega
 have hmid:=Fl.mid_fin false (Fl.sM a) (Fl.pR a) 56 g0 g1 (by unfold Fl.pR; omega) (by unfold Fl.pR; omega)
 have hset : ∀ w,Calls Tryz.prog 188 #[.float .f64 (Fl.nearR a),.float .f64 q,.float .f64 off,.int .i64 j,.bool up] w fun e w'=>e = .returned (.float .f64 (Fl.sqrtF a up)) /\ Dr w w':=by
  intro w
  refine (settle_side (Fl.nearR a) q off j up w false (Fl.sM a) (Fl.pR a) g0 (by omega) (by omega) rfl hmid.1 (by rw [hP]; exact e2) e4 e5 (by omega) (by omega) (by rw [hP,Fl.cmpS_false]; exact e7)).mono ?_
  rw [Fl.cmpS_false]
  rintro e w' ⟨h1,h2⟩
  exact ⟨h1,h2 ▸ Dr.refl _⟩
 have hodd : (Int.tmod (Fl.fri a) 2 != 0) = decide (Fl.par a = 0):=by
  rw [Fl.tmod_odd]
  unfold Fl.fri
  by_cases h : Fl.par a = 0
  ·rw [decide_eq_true h,decide_eq_true (by omega)]
  ·rw [decide_eq_false h,decide_eq_false (by omega)]
 refine sqrt_go a (Fl.nearR a) _ q off (Fl.ng q) up w ha hf (Fl.cmp0_gt a a0 (by omega) hs) (Fl.frx a) (Fl.fri a) j (by unfold Fl.fri; omega) (by unfold Fl.fri; omega) (decide (Fl.par a = 0))
  (fun w=>msqrt_some a _ (Fl.sqrt_near a hf a0 hs) w) (fun w=>frexp_fin a w ha a0 hf) hodd ?_ ?_ (fun w=>msqrt_some _ _ e1 w) (fun w=>run_neg q e3 w) (fun w=>run_fma _ _ _ _ e6 w) ?_ (by omega) (by omega) _ hset
 ·intro h
  have h0 : Fl.par a = 0:=of_decide_eq_true h
  intro w
  rw [h0]
  exact run_float_arith w .quo _ .f64 _ _ _ (Fl.half_frx a a0 hs)
 ·intro h
  have h0 : ¬ Fl.par a = 0:=of_decide_eq_false h
  have h1 : Fl.par a = 1:=by omega
  rw [h1]
  unfold Fl.frx
  rw [hs]; rfl
 ·by_cases h : Fl.par a = 0
  ·rw [decide_eq_true h,if_pos rfl]
   have:=Fl.tdiv_even (Fl.fri a + 1) (by unfold Fl.fri; omega)
   unfold Fl.fri at *
   omega
  ·rw [decide_eq_false h,if_neg (by simp)]
   have:=Fl.tdiv_even (Fl.fri a) (by unfold Fl.fri; omega)
   unfold Fl.fri at *
   omega
end
section
namespace Fl
open Ieee
def Dir (up : Bool) (n : Int) (d : Nat) (k : Int) : Prop :=
 if up then n <= V k * 2 ^ d /\ V (k - 1) * 2 ^ d < n else V k * 2 ^ d <= n /\ n < V (k + 1) * 2 ^ d
theorem Dir.mono {up1 up2 : Bool} {n m : Int} {d e : Nat} {k q : Int} (h1 : Dir up1 n d k) (h2 : Dir up2 m e q) (hu : up1 = false \/ up2 = true) (h : n * 2 ^ e <= m * 2 ^ d) : k <= q:=by
 have pd:=pow_pos_int d
 have pe:=pow_pos_int e
 unfold Dir at h1 h2
 generalize (2 : Int) ^ d = D at *
 generalize (2 : Int) ^ e = F at *
 have hDF : 0 < D * F:=Int.mul_pos pd pe
 -- from a sharp one and a weak one
 have fin : ∀ a b : Int,V a * D <= n -> m <= V b * F -> a <= b:=by
  intro a b ha hb
  have c1 : V a * D * F <= n * F:=Int.mul_le_mul_of_nonneg_right ha (Int.le_of_lt pe)
  have c2 : m * D <= V b * F * D:=Int.mul_le_mul_of_nonneg_right hb (Int.le_of_lt pd)
  have c3 : V a * (D * F) <= V b * (D * F):=by
   have e1 : V a * (D * F) = V a * D * F:=by rw [Int.mul_assoc]
   have e2 : V b * (D * F) = V b * F * D:=by rw [Int.mul_comm D F,Int.mul_assoc]
   rw [e1,e2]; omega
  exact V_le_iff.1 (Int.le_of_mul_le_mul_right c3 hDF)
 have finl : ∀ a b : Int,V a * D < n -> m <= V b * F -> a < b:=by
  intro a b ha hb
  have c1 : V a * D * F < n * F:=Int.mul_lt_mul_of_pos_right ha pe
  have c2 : m * D <= V b * F * D:=Int.mul_le_mul_of_nonneg_right hb (Int.le_of_lt pd)
  have c3 : V a * (D * F) < V b * (D * F):=by
   have e1 : V a * (D * F) = V a * D * F:=by rw [Int.mul_assoc]
   have e2 : V b * (D * F) = V b * F * D:=by rw [Int.mul_comm D F,Int.mul_assoc]
   rw [e1,e2]; omega
  exact V_lt_iff.1 (Int.lt_of_mul_lt_mul_right c3 (Int.le_of_lt hDF))
 have finr : ∀ a b : Int,V a * D <= n -> m < V b * F -> a < b:=by
  intro a b ha hb
  have c1 : V a * D * F <= n * F:=Int.mul_le_mul_of_nonneg_right ha (Int.le_of_lt pe)
  have c2 : m * D < V b * F * D:=Int.mul_lt_mul_of_pos_right hb pd
  have c3 : V a * (D * F) < V b * (D * F):=by
   have e1 : V a * (D * F) = V a * D * F:=by rw [Int.mul_assoc]
   have e2 : V b * (D * F) = V b * F * D:=by rw [Int.mul_comm D F,Int.mul_assoc]
   rw [e1,e2]; omega
  exact V_lt_iff.1 (Int.lt_of_mul_lt_mul_right c3 (Int.le_of_lt hDF))
 cases up1
 ·rw [if_neg (by simp)] at h1
  cases up2
  ·rw [if_neg (by simp)] at h2
   have:=finr _ _ h1.1 h2.2; omega
  ·rw [if_pos rfl] at h2
   exact fin _ _ h1.1 h2.1
 ·rw [if_pos rfl] at h1
  rcases hu with hu | hu
  ·cases hu
  ·subst hu
   rw [if_pos rfl] at h2
   have:=finl _ _ h1.2 h2.1; omega
def clamp (up : Bool) (k : Int) : Int:=if up then max (-((I : Int) - 1)) (min I k) else max (-(I : Int)) (min ((I : Int) - 1) k)
theorem clamp_mono {up1 up2 : Bool} {k q : Int} (hu : up1 = false \/ up2 = true) (h : k <= q) : clamp up1 k <= clamp up2 q:=by
 have hI : (0 : Int) < (I : Int):=by decide
 unfold clamp
 generalize (I : Int) = i at *
 rcases hu with rfl | rfl
 ·cases up2 <;> simp only [Bool.false_eq_true,if_false,if_true] <;> omega
 ·cases up1 <;> simp only [Bool.false_eq_true,if_false,if_true] <;> omega
def DirW (up : Bool) (n : Int) (d w : Nat) : Prop:=rg w <= I /\ ∃ k,Dir up n d k /\ key w = clamp up k
theorem DirW.mono {up1 up2 : Bool} {n m : Int} {d e w x : Nat} (h1 : DirW up1 n d w) (h2 : DirW up2 m e x) (hu : up1 = false \/ up2 = true) (h : n * 2 ^ e <= m * 2 ^ d) : key w <= key x:=by
 obtain ⟨_,k,a1,a2⟩:=h1
 obtain ⟨_,q,b1,b2⟩:=h2
 rw [a2,b2]
 exact clamp_mono hu (a1.mono b1 hu h)
theorem DirW.zero (up : Bool) (d w : Nat) (h : rg w = 0) : DirW up 0 d w:=by
 refine ⟨by rw [h]; exact Nat.zero_le _,0,?_,?_⟩
 ·have pd:=pow_pos_int d
  have e1 : V (0 + 1) = 1:=by decide
  have e2 : V (0 - 1) = -1:=by decide
  unfold Dir
  rw [V_zero,e1,e2]
  generalize (2 : Int) ^ d = D at *
  cases up
  ·rw [if_neg (by simp)]; omega
  ·rw [if_pos rfl]; omega
 ·unfold key clamp; rw [h]
  have hI : (0 : Int) < (I : Int):=by decide
  generalize (I : Int) = i at *
  cases up <;> simp <;> omega
theorem DirW.scale {up : Bool} {n : Int} {d w : Nat} (h : DirW up n d w) (m : Int) (e c1 c2 : Nat) (h1 : n * 2 ^ c1 = m * 2 ^ c2) (h2 : d + c1 = e + c2) : DirW up m e w:=by
 obtain ⟨a,k,b,c⟩:=h
 refine ⟨a,k,?_,c⟩
 have p1:=pow_pos_int c1
 have p2:=pow_pos_int c2
 have key : ∀ v : Int,v * 2 ^ d * 2 ^ c1 = v * 2 ^ e * 2 ^ c2:=fun v=>by
  rw [Int.mul_assoc,Int.mul_assoc,<- Int.pow_add,<- Int.pow_add,h2]
 unfold Dir at b ⊢
 cases up
 ·rw [if_neg (by simp)] at b ⊢
  constructor
  ·refine Int.le_of_mul_le_mul_right ?_ p2
   rw [<- key,<- h1]; exact Int.mul_le_mul_of_nonneg_right b.1 (Int.le_of_lt p1)
  ·refine Int.lt_of_mul_lt_mul_right ?_ (Int.le_of_lt p2)
   rw [<- key,<- h1]; exact Int.mul_lt_mul_of_pos_right b.2 p1
 ·rw [if_pos rfl] at b ⊢
  constructor
  ·refine Int.le_of_mul_le_mul_right ?_ p2
   rw [<- key,<- h1]; exact Int.mul_le_mul_of_nonneg_right b.1 (Int.le_of_lt p1)
  ·refine Int.lt_of_mul_lt_mul_right ?_ (Int.le_of_lt p2)
   rw [<- key,<- h1]; exact Int.mul_lt_mul_of_pos_right b.2 p1
def sgz (s : Bool) (n : Nat) : Int:=if s then -(n : Int) else (n : Int)
theorem V_sgz (s : Bool) (r : Nat) : V (sgz s r) = sgz s (rv r):=by
 unfold sgz
 cases s
 ·simp only [Bool.false_eq_true,if_false]; unfold V; rw [if_neg (by omega),Int.toNat_natCast]
 ·simp only [if_true]; rw [V_neg]; unfold V; rw [if_neg (by omega),Int.toNat_natCast]
theorem Rnd.between {n d r : Nat} (h : Rnd n d r) : n < rv (r + 1) * 2 ^ d /\ (0 < r -> rv (r - 1) * 2 ^ d < n):=by
 have pd : 0 < 2 ^ d:=Nat.two_pow_pos d
 have h1:=rv_lt_succ r
 constructor
 ·have h2:=h.hi
  have h3 : rv r * 2 ^ d < rv (r + 1) * 2 ^ d:=Nat.mul_lt_mul_of_pos_right h1 pd
  rw [Nat.add_mul] at h2
  omega
 ·intro h0
  have h2:=h.lo h0
  have h3 : rv (r - 1) * 2 ^ d < rv r * 2 ^ d:=Nat.mul_lt_mul_of_pos_right (rv_mono (by omega)) pd
  rw [Nat.add_mul] at h2
  omega
theorem dir_mag (s up : Bool) (n d r : Nat) (h : Rnd n d r) (h0 : 0 < n) : Dir up (sgz s n) d (sgz s r + (if (cmpS s (compare n (rv r * 2 ^ d)) = .gt /\ up = true) then 1 else if (cmpS s (compare n (rv r * 2 ^ d)) = .lt /\ up = false) then -1 else 0)):=by
 obtain ⟨b1,b2⟩:=h.between
 have pd : 0 < 2 ^ d:=Nat.two_pow_pos d
 have hr0 : r = 0 -> compare n (rv r * 2 ^ d) = .gt:=by
  intro hr; subst hr; rw [rv_zero,Nat.zero_mul,compare_nat,if_neg (by omega),if_neg (by omega)]
 have castp : ((2 ^ d : Nat) : Int) = (2 : Int) ^ d:=by simp
 have kp : ∀ v : Nat,sgz s v * 2 ^ d = sgz s (v * 2 ^ d):=fun v=>by
  unfold sgz; rw [<- castp]; cases s
  ·simp
  ·simp [Int.neg_mul]
 have kr : V (sgz s r) * 2 ^ d = sgz s (rv r * 2 ^ d):=by rw [V_sgz,kp]
 have ku : V (sgz s (r + 1)) * 2 ^ d = sgz s (rv (r + 1) * 2 ^ d):=by rw [V_sgz,kp]
 have kd : V (sgz s (r - 1)) * 2 ^ d = sgz s (rv (r - 1) * 2 ^ d):=by rw [V_sgz,kp]
 have up1 : sgz s (r + 1) = sgz s r + (if s then -1 else 1):=by unfold sgz; cases s <;> simp; omega
 have dn1 : 0 < r -> sgz s (r - 1) = sgz s r - (if s then -1 else 1):=by intro h; unfold sgz; cases s <;> simp <;> omega
 -- r = 0: the rung below is the opposite of the one above
 have k1 : r = 0 -> V (0 - 1) * 2 ^ d = -(2 : Int) ^ d /\ V (0 + 1) * 2 ^ d = (2 : Int) ^ d:=by
  intro _; rw [show V (0 - 1) = -1 by decide,show V (0 + 1) = 1 by decide]; omega
 have hc : compare n (rv r * 2 ^ d) = if n < rv r * 2 ^ d then .lt else if n = rv r * 2 ^ d then .eq else .gt:=rfl
 have pz:=pow_pos_int d
 unfold Dir
 rcases Nat.lt_trichotomy n (rv r * 2 ^ d) with hlt | heq | hgt
 ·have hr : 0 < r:=by
   rcases Nat.eq_zero_or_pos r with h | h
   ·have:=hr0 h; rw [hc,if_pos hlt] at this; cases this
   ·exact h
  have hb:=b2 hr
  have hcmp : compare n (rv r * 2 ^ d) = Ordering.lt:=by rw [hc,if_pos hlt]
  rw [hcmp]
  have dd:=dn1 hr
  cases s
  ·simp only [Bool.false_eq_true,if_false] at up1 dd
   cases up
   ·simp only [cmpS,Bool.false_eq_true,if_false,and_false,and_true,if_true]
    rw [show sgz false r + -1 = sgz false (r - 1) by omega,kd,show sgz false (r - 1) + 1 = sgz false r by omega,kr]
    unfold sgz; simp only [Bool.false_eq_true,if_false]; omega
   ·simp only [cmpS,Bool.false_eq_true,if_false,and_false,and_true,if_true,reduceCtorEq,false_and]
    rw [show sgz false r + 0 = sgz false r by omega,kr,show sgz false r - 1 = sgz false (r - 1) by omega,kd]
    unfold sgz; simp only [Bool.false_eq_true,if_false]; omega
  ·simp only [if_true] at up1 dd
   cases up
   ·simp only [cmpS,Bool.false_eq_true,if_false,and_false,and_true,if_true,Ordering.swap_lt,reduceCtorEq,false_and]
    rw [show sgz true r + 0 = sgz true r by omega,kr,show sgz true r + 1 = sgz true (r - 1) by omega,kd]
    unfold sgz; simp only [if_true]; omega
   ·simp only [cmpS,and_true,if_true,Ordering.swap_lt]
    rw [show sgz true r + 1 = sgz true (r - 1) by omega,kd,show sgz true (r - 1) - 1 = sgz true r by omega,kr]
    unfold sgz; simp only [if_true]; omega
 ·have hcmp : compare n (rv r * 2 ^ d) = Ordering.eq:=by rw [hc,if_neg (by omega),if_pos heq]
  rw [hcmp]
  have hr : 0 < r:=by
   rcases Nat.eq_zero_or_pos r with h | h
   ·have:=hr0 h; rw [hc,if_neg (by omega),if_pos heq] at this; cases this
   ·exact h
  have hb:=b2 hr
  have dd:=dn1 hr
  have hz : ∀ t : Bool,cmpS t .eq = .eq:=fun t=>by cases t <;> rfl
  rw [hz]
  simp only [reduceCtorEq,false_and,if_false]
  rw [show sgz s r + 0 = sgz s r by omega,kr]
  cases s
  ·simp only [Bool.false_eq_true,if_false] at up1 dd
   rw [show sgz false r + 1 = sgz false (r + 1) by omega,ku,show sgz false r - 1 = sgz false (r - 1) by omega,kd]
   unfold sgz; simp only [Bool.false_eq_true,if_false]
   cases up <;> simp only [Bool.false_eq_true,if_false,if_true] <;> omega
  ·simp only [if_true] at up1 dd
   rw [show sgz true r + 1 = sgz true (r - 1) by omega,kd,show sgz true r - 1 = sgz true (r + 1) by omega,ku]
   unfold sgz; simp only [if_true]
   cases up <;> simp only [Bool.false_eq_true,if_false,if_true] <;> omega
 ·have hcmp : compare n (rv r * 2 ^ d) = Ordering.gt:=by rw [hc,if_neg (by omega),if_neg (by omega)]
  rw [hcmp]
  cases s
  ·simp only [Bool.false_eq_true,if_false] at up1
   cases up
   ·simp only [cmpS,Bool.false_eq_true,if_false,and_false,and_true,if_true,reduceCtorEq,false_and]
    rw [show sgz false r + 0 = sgz false r by omega,kr,show sgz false r + 1 = sgz false (r + 1) by omega,ku]
    unfold sgz; simp only [Bool.false_eq_true,if_false]; omega
   ·simp only [cmpS,Bool.false_eq_true,if_false,and_true,if_true]
    rw [show sgz false r + 1 = sgz false (r + 1) by omega,ku,show sgz false (r + 1) - 1 = sgz false r by omega,kr]
    unfold sgz; simp only [Bool.false_eq_true,if_false]; omega
  ·simp only [if_true] at up1
   cases up
   ·simp only [cmpS,Bool.false_eq_true,if_false,and_false,and_true,if_true,Ordering.swap_gt]
    rw [show sgz true r + -1 = sgz true (r + 1) by omega,ku,show sgz true (r + 1) + 1 = sgz true r by omega,kr]
    unfold sgz; simp only [if_true]; omega
   ·simp only [cmpS,and_true,if_true,Ordering.swap_gt,reduceCtorEq,false_and,and_false,if_false,Bool.true_eq_false]
    rw [show sgz true r + 0 = sgz true r by omega,kr,show sgz true r - 1 = sgz true (r + 1) by omega,ku]
    unfold sgz; simp only [if_true]; omega
end Fl
end
section
namespace Fl
open Ieee
theorem key_sgz (s : Bool) (r : Nat) (h : r < W) : key (wd s r) = sgz s r:=by unfold sgz; exact key_wd s r h
theorem sgz_false (n : Nat) : sgz false n = n:=rfl
theorem sgz_true (n : Nat) : sgz true n = -(n : Int):=rfl
def stepD (c : Ordering) (up : Bool) : Int:=if (c = .gt /\ up = true) then 1 else if (c = .lt /\ up = false) then -1 else 0
theorem stepD_range (c : Ordering) (up : Bool) : -1 <= stepD c up /\ stepD c up <= 1 /\ (up = true -> 0 <= stepD c up) /\ (up = false -> stepD c up <= 0):=by
 unfold stepD; cases c <;> cases up <;> simp
theorem clamp_in (up : Bool) (k : Int) (i : Nat) (hi : i = I) (h1 : up = true -> -(i : Int) < k /\ k <= i) (h2 : up = false -> -(i : Int) <= k /\ k < i) : clamp up k = k:=by
 unfold clamp; rw [<- hi]
 cases up
 ·have:=h2 rfl; simp only [Bool.false_eq_true,if_false]; omega
 ·have:=h1 rfl; simp only [if_true]; omega
theorem key_side (near : Nat) (c : Ordering) (up : Bool) (hn : near < 2 * W) (h : rg near < I) : key (sideW near c (next near up) up) = key near + stepD c up /\ rg (sideW near c (next near up) up) <= I:=by
 obtain ⟨k1,k2⟩:=key_next near up hn (Nat.le_of_lt h) (fun hh=>by rw [hh.1] at h; exact absurd h (Nat.lt_irrefl _))
 unfold sideW stepD
 cases up
 ·simp only [Bool.false_eq_true,and_false,false_or,if_false] at k1 ⊢
  by_cases hc : c = .lt
  ·rw [if_pos ⟨hc,trivial⟩,if_pos ⟨hc,trivial⟩]; exact ⟨k1,k2⟩
  ·rw [if_neg (fun x=>hc x.1),if_neg (fun x=>hc x.1)]; exact ⟨by omega,Nat.le_of_lt h⟩
 ·simp only [Bool.true_eq_false,and_false,or_false,and_true,if_true,if_false] at k1 ⊢
  by_cases hc : c = .gt
  ·rw [if_pos hc,if_pos hc]; exact ⟨k1,k2⟩
  ·rw [if_neg hc,if_neg hc]; exact ⟨by omega,Nat.le_of_lt h⟩
theorem big_rung : (9218868437227405311 : Nat) + 1 = I /\ 9218868437227405311 < W:=by decide
theorem key_great (near : Nat) (up : Bool) (h : rg near = I) : key (greatW near up) = (if up = !sg near then sgz (sg near) I else sgz (sg near) 9218868437227405311) /\ rg (greatW near up) <= I:=by
 unfold greatW
 split
 ·exact ⟨by unfold key sgz; rw [h],Nat.le_of_eq h⟩
 ·exact ⟨key_sgz _ _ big_rung.2,by rw [rg_wd _ _ big_rung.2,<- big_rung.1]; exact Nat.le_succ _⟩
theorem clamp_great (s up : Bool) (r i : Nat) (δ : Int) (hi : i = I) (hr : i <= r) (h0 : 0 < i) (d1 : -1 <= δ) (d2 : δ <= 1) (d3 : up = true -> 0 <= δ) (d4 : up = false -> δ <= 0) :
  (if up = !s then sgz s i else sgz s (i - 1)) = clamp up (sgz s r + δ):=by
 unfold clamp; rw [<- hi]
 cases s <;> cases up <;> simp [sgz_false,sgz_true] at d3 d4 ⊢ <;> omega
theorem near_dir (s up : Bool) (mag : Nat) (p : Int) (u v : Nat) (h : (u : Int) - v = p + 1074) (hm : 0 < mag) (near : Nat) (hn : near = double.nearest s mag p) :
  DirW up (sgz s (mag * 2 ^ u)) v (if rg near = I then greatW near up else sideW near (cmpS s (cmpR mag p (rg near))) (next near up) up):=by
 obtain ⟨r,e1,e2⟩:=nearest_rnd s mag p u v h
 have hN : 0 < mag * 2 ^ u:=Nat.mul_pos hm (Nat.two_pow_pos u)
 have hd:=dir_mag s up (mag * 2 ^ u) v r e2 hN
 rw [e1] at hn
 have hrg : rg near = min r I:=by rw [hn,rg_wd _ _ (min_I_lt r)]
 have hsg : sg near = s:=by rw [hn,sg_wd _ _ (min_I_lt r)]
 have hlt : near < 2 * W:=by rw [hn]; exact wd_lt _ _ (min_I_lt r)
 change Dir up _ _ (sgz s r + stepD (cmpS s (compare (mag * 2 ^ u) (rv r * 2 ^ v))) up) at hd
 obtain ⟨d1,d2,d3,d4⟩:=stepD_range (cmpS s (compare (mag * 2 ^ u) (rv r * 2 ^ v))) up
 by_cases hI : rg near = I
 ·rw [if_pos hI]
  obtain ⟨k1,k2⟩:=key_great near up hI
  refine ⟨k2,_,hd,?_⟩
  rw [k1,hsg]
  have hr : I <= r:=by rw [hI] at hrg; rw [hrg]; exact Nat.min_le_left _ _
  have:=clamp_great s up r I (stepD (cmpS s (compare (mag * 2 ^ u) (rv r * 2 ^ v))) up) rfl hr (by decide) d1 d2 d3 d4
  rw [show I - 1 = 9218868437227405311 from rfl] at this
  exact this
 ·rw [if_neg hI]
  have hle : rg near <= I:=by rw [hrg]; exact Nat.min_le_right _ _
  have hf : rg near < I:=Nat.lt_of_le_of_ne hle hI
  obtain ⟨hr,hq⟩:=of_min hrg hf
  obtain ⟨k1,k2⟩:=key_side near (cmpS s (cmpR mag p (rg near))) up hlt hf
  refine ⟨k2,_,hd,?_⟩
  rw [k1,hq,cmpR_scale mag p r u v h]
  have hk : key near = sgz s r:=by rw [hn,key_sgz _ _ (min_I_lt r),Nat.min_eq_left (Nat.le_of_lt hr)]
  rw [hk]
  generalize stepD (cmpS s (compare (mag * 2 ^ u) (rv r * 2 ^ v))) up = δ at *
  symm
  have hb : -(r : Int) <= sgz s r /\ sgz s r <= r:=by unfold sgz; split <;> omega
  generalize sgz s r = z at *
  clear hn k1 k2 hd hrg hq hk e1 e2
  exact clamp_in up _ I rfl (fun hu=>by have:=d3 hu; generalize I = i at *; omega) (fun hu=>by have:=d4 hu; generalize I = i at *; omega)
theorem vl_sgz (x : Nat) : vl x = sgz (sg x) (rv (rg x)):=rfl
theorem addF_dir (a b : Nat) (up : Bool) (ha : a < 2 * W) (hb : b < 2 * W) (fa : rg a < I) (fb : rg b < I) : DirW up (vl a + vl b) 0 (addF a b up):=by
 by_cases hz : vl a + vl b = 0
 ·rw [hz]
  have e : nearS a b = rnd (sgn2 (sg a) (sg b) 0) 0:=by unfold nearS; rw [hz]; rfl
  have e0 : rg (nearS a b) = 0:=by rw [e,rg_rnd,rr_zero]
  refine DirW.zero up 0 _ ?_
  unfold addF
  rw [e0,if_neg (by decide),if_pos rfl]
  split
  ·rename_i h; exact h.1
  ·split <;> decide
 ·have hm : 0 < (vl a + vl b).natAbs:=by omega
  have hnr:=near_dir (sgn2 (sg a) (sg b) (vl a + vl b)) up (vl a + vl b).natAbs (-1074) 0 0 (by decide) hm (nearS a b) rfl
  have hs : sgz (sgn2 (sg a) (sg b) (vl a + vl b)) ((vl a + vl b).natAbs * 2 ^ 0) = vl a + vl b:=by
   unfold sgz sgn2; rw [if_neg hz,Nat.pow_zero,Nat.mul_one]
   by_cases hn : vl a + vl b < 0
   ·rw [if_pos (by simpa using hn)]; omega
   ·rw [if_neg (by simpa using hn)]; omega
  rw [hs] at hnr
  unfold addF
  have h0 : ¬ rg (nearS a b) = 0:=by
   unfold nearS; rw [rg_rnd]; have:=rr_pos _ hm; omega
  rw [if_neg h0]
  have hc : cmpS (sgn2 (sg a) (sg b) (vl a + vl b)) (cmpR (vl a + vl b).natAbs (-1074) (rg (nearS a b))) = compare (vl a + vl b) (vl (nearS a b)):=by
   have e1 : sg (nearS a b) = sgn2 (sg a) (sg b) (vl a + vl b):=by unfold nearS; rw [sg_rnd]
   rw [cmpR_scale _ _ _ 0 0 (by decide)]
   have e2 : vl (nearS a b) = sgz (sgn2 (sg a) (sg b) (vl a + vl b)) (rv (rg (nearS a b))):=by rw [vl_sgz,e1]
   rw [e2]
   generalize rv (rg (nearS a b)) = t
   unfold sgn2; rw [if_neg hz]
   by_cases hn : vl a + vl b < 0
   ·rw [show (decide (vl a + vl b < 0)) = true by simpa using hn]
    unfold cmpS sgz
    simp only [if_true]
    rw [Nat.pow_zero,Nat.mul_one,Nat.mul_one,compare_nat,compare_int]
    split <;> (try split) <;> (try split) <;> (try split) <;> first | rfl | omega | simp <;> omega
   ·rw [show (decide (vl a + vl b < 0)) = false by simpa using hn]
    unfold cmpS sgz
    simp only [Bool.false_eq_true,if_false]
    rw [Nat.pow_zero,Nat.mul_one,Nat.mul_one,compare_nat,compare_int]
    split <;> (try split) <;> (try split) <;> (try split) <;> first | rfl | omega | simp <;> omega
  rw [hc] at hnr
  exact hnr
theorem sgz_mul (s t : Bool) (m n : Nat) : sgz s m * sgz t n = sgz (s ^^ t) (m * n):=by
 unfold sgz; cases s <;> cases t <;> simp [Int.neg_mul,Int.mul_neg]
theorem mul_pow4 (r1 m1 r2 m2 a1 a2 b1 b2 : Nat) (h1 : r1 * 2 ^ a1 = m1 * 2 ^ a2) (h2 : r2 * 2 ^ b1 = m2 * 2 ^ b2) : r1 * r2 * 2 ^ (a1 + b1) = m1 * m2 * 2 ^ (a2 + b2):=by
 rw [Nat.pow_add,Nat.pow_add]
 generalize 2 ^ a1 = A at *; generalize 2 ^ a2 = C at *; generalize 2 ^ b1 = D at *; generalize 2 ^ b2 = F at *
 calc r1 * r2 * (A * D) = (r1 * A) * (r2 * D):=by grind
  _ = (m1 * C) * (m2 * F):=by rw [h1,h2]
  _ = _:=by grind
theorem mulS_dir (a b : Nat) (up : Bool) (fa : rg a < I) (fb : rg b < I) : ∃ r,mulS a b up = some r /\ DirW up (vl a * vl b) E r:=by
 by_cases h0 : 0 < rg a /\ 0 < rg b
 ·refine ⟨mulF a b up,by unfold mulS; rw [if_pos ⟨fa,fb,h0.1,h0.2⟩],?_⟩
  obtain ⟨a0,b0⟩:=h0
  obtain ⟨a1,a2,ha,ea⟩:=rv_norm (rg a) a0
  obtain ⟨b1,b2,hb,eb⟩:=rv_norm (rg b) b0
  have hp:=mul_pow4 _ _ _ _ _ _ _ _ ha hb
  have hm : 0 < mM a b:=Nat.pos_of_ne_zero (mM_log2 a b a0 b0).1
  have hpe : ((a2 : Int) + b2) - (a1 + b1) = pM a b + 2148:=by unfold pM; omega
  -- places: u - v = pM + 1074
  have hE : (E : Int) = 1074:=by rw [E_eq]; rfl
  have hnr:=near_dir (sg a ^^ sg b) up (mM a b) (pM a b) (a2 + b2) (a1 + b1 + E) (by omega) hm (nearM a b) rfl
  change DirW up _ _ (mulF a b up) at hnr
  rw [vl_sgz,vl_sgz,sgz_mul]
  refine hnr.scale _ _ 0 (a1 + b1) ?_ (by omega)
  have castp : ((2 ^ (a1 + b1) : Nat) : Int) = (2 : Int) ^ (a1 + b1):=by simp
  rw [Int.pow_zero,Int.mul_one,show mM a b = nM (rg a) * nM (rg b) from rfl,<- hp,<- castp]
  generalize 2 ^ (a1 + b1) = P
  generalize rv (rg a) * rv (rg b) = X
  unfold sgz; split <;> simp [Int.neg_mul]
 ·have hz : mant (rg a) * mant (rg b) = 0:=by
   rcases Nat.eq_zero_or_pos (rg a) with h | h
   ·rw [h,show mant 0 = 0 by decide,Nat.zero_mul]
   ·rcases Nat.eq_zero_or_pos (rg b) with h2 | h2
    ·rw [h2,show mant 0 = 0 by decide,Nat.mul_zero]
    ·exact absurd ⟨h,h2⟩ h0
  have hv : vl a * vl b = 0:=by
   rw [vl_sgz,vl_sgz,sgz_mul]
   have : rv (rg a) * rv (rg b) = 0:=by
    rcases Nat.eq_zero_or_pos (rg a) with h | h
    ·rw [h,rv_zero,Nat.zero_mul]
    ·rcases Nat.eq_zero_or_pos (rg b) with h2 | h2
     ·rw [h2,rv_zero,Nat.mul_zero]
     ·exact absurd ⟨h,h2⟩ h0
   rw [this]; unfold sgz; split <;> rfl
  refine ⟨_,by unfold mulS; rw [if_neg (fun h=>h0 h.2.2)]; exact mul_fin a b fa fb,?_⟩
  rw [hz,hv]
  refine DirW.zero up E _ ?_
  have hq:=nearest_congr (sg a ^^ sg b) 0 0 (pl a + pl b) (-1074) 0 0 rfl
  obtain ⟨r,e1,e2⟩:=nearest_rnd (sg a ^^ sg b) 0 (pl a + pl b) (pl a + pl b + 1074).toNat (-(pl a + pl b + 1074)).toNat (by omega)
  rw [Nat.zero_mul] at e2
  have hr : r = 0:=by
   have h1:=Rnd.exact 0 (-(pl a + pl b + 1074)).toNat
   rw [rv_zero,Nat.zero_mul] at h1
   exact e2.eq h1
  rw [e1,rg_wd _ _ (min_I_lt r),hr,Nat.zero_min]
end Fl
end
section
namespace Fl
open Ieee
theorem key_of (x : Nat) : key x = sgz (sg x) (rg x):=rfl
theorem key_fin_range {x : Nat} (h : rg x < I) : -(I : Int) < key x /\ key x < (I : Int):=by
 rw [key_of]; unfold sgz; generalize I = i at *; split <;> omega
theorem three (a : Nat) : rg a < I \/ rg a = I \/ I < rg a:=Nat.lt_trichotomy _ _
end Fl
end
section
namespace Fl
open Ieee
end Fl
end
section
open Go.RowKit
def badB (x : Nat) : Bool:=decide (Fl.I <= Fl.rg x) || (Fl.sg x && decide (0 < Fl.rg x))
def overB (x : Nat) : Bool:=!Fl.sg x && decide (8660422083433463808 < Fl.rg x)
def mayV (order : Int) (n : Nat) (z : Nat -> Nat) : Int :=
 if order < 0 \/ 14 < order then 2 else if ((List.range n).any fun k=>badB (z k)) = true then 5 else if ((List.range n).any fun k=>overB (z k)) = true then 6 else 0
def FlsAt (w : World) (A : Option Addr) (n : Nat) (z : Nat -> Nat) : Prop:=∀ k,k < n -> ∃ ad,A = some ad /\ w.cell? (ad.add k) = some (.float .f64 (z k))
theorem any_yes {n k : Nat} {p : Nat -> Bool} (hk : k < n) (h : p k = true) : ((List.range n).any p) = true:=by
 rw [List.any_eq_true]; exact ⟨k,List.mem_range.2 hk,h⟩
theorem any_no {n : Nat} {p : Nat -> Bool} (h : ∀ k,k < n -> p k = false) : ((List.range n).any p) = false:=by
 rw [List.any_eq_false]; intro k hk; rw [h k (List.mem_range.1 hk)]; simp
theorem isnan_yes (x : Nat) (w : World) (h : Fl.I < Fl.rg x) : Calls Tryz.prog 174 #[.float .f64 x] w fun e w'=>e = .returned (.bool true) /\ w = w':=by
 have h1:=Fl.cmp_nan x x h
 go_enter Tryz.func174,Tryz.ntmps174
 go_wp2
 go_ret
 exact ⟨rfl,rfl⟩
theorem over_ord (x : Nat) (h : badB x = false) : (FloatKind.f64.format.order x 8660422083433463808 == some .gt) = overB x:=by
 unfold badB at h
 simp only [Bool.or_eq_false_iff,decide_eq_false_iff_not,Nat.not_le,Bool.and_eq_false_iff,Nat.not_lt] at h
 obtain ⟨h1,h2⟩:=h
 have e : FloatKind.f64.format.order x 8660422083433463808 = some (compare (Fl.key x) (Fl.key 8660422083433463808)):=Fl.order_key _ _ (Nat.le_of_lt h1) (by decide)
 have k : Fl.key 8660422083433463808 = 8660422083433463808:=by decide
 rw [e,k,Fl.compare_int]
 unfold overB Fl.key
 cases hs : Fl.sg x
 ·simp only [Bool.false_eq_true,if_false,Bool.not_false,Bool.true_and]
  by_cases h3 : 8660422083433463808 < Fl.rg x
  ·rw [if_neg (by omega),if_neg (by omega),decide_eq_true h3]; rfl
  ·rw [decide_eq_false h3]
   by_cases h4 : (Fl.rg x : Int) < 8660422083433463808
   ·rw [if_pos h4]; rfl
   ·rw [if_neg h4,if_pos (by omega)]; rfl
 ·simp only [if_true,Bool.not_true,Bool.false_and]
  rw [if_pos (by omega)]; rfl
set_option maxRecDepth 100000 in
set_option maxHeartbeats 2000000 in
theorem may_any (order : Int) (A : Option Addr) (n c : Nat) (z : Nat -> Nat) (w : World) (hn : n <= 100) (hz : ∀ k,z k < 2 * Fl.W) (hr : FlsAt w A n z) :
  Calls Tryz.prog 164 #[.int .i64 order,.slice A n c] w fun e w'=>e = .returned (.int .i64 (mayV order n z)) /\ w = w':=by
 obtain ⟨T,hT⟩ : ∃ T,T = mayV order n z:=⟨_,rfl⟩
 rw [<- hT]
 unfold mayV at hT
 have HR:=Hd hr
 clear hr
 by_cases h0 : order < 0
 ·rw [if_pos (.inl h0)] at hT
  subst hT
  go_enter Tryz.func164,Tryz.ntmps164
  go_wp2
  go_ret
  exact ⟨rfl,rfl⟩
 ·by_cases h14 : 14 < order
  ·rw [if_pos (.inr h14)] at hT
   subst hT
   go_enter Tryz.func164,Tryz.ntmps164
   go_wp2
   go_ret
   exact ⟨rfl,rfl⟩
  ·rw [if_neg (by omega)] at hT
   have HT:=Hd hT
   have HZ:=Hd hz
   clear hT hz
   go_enter Tryz.func164,Tryz.ntmps164
   go_wp2_with fail
   go_loop [17] (fun t=>∃ k : Nat,k <= n /\ t = .int .i64 k /\ Hid (∀ j,j < k -> badB (z j) = false)) (fun t=>n - (intOf t).toNat)
   case atStart=>exact ⟨0,Nat.zero_le _,rfl,Hd (fun j hj=>absurd hj (Nat.not_lt_zero j))⟩
   case round =>
    obtain ⟨k,hk,rfl,hgood⟩:=hrel
    by_cases hlt : k < n
    ·obtain ⟨ad,rfl,hc⟩:=HR.out k hlt
     have hzk:=HZ.out k
     have hbad : badB (z k) = true -> T = 5:=fun h=>by rw [HT.out,if_pos (any_yes hlt h)]
     have HBAD:=Hd hbad
     clear hbad
     have HG : Hid (badB (z k) = false -> ∀ j,j < k + 1 -> badB (z j) = false):=Hd (fun h j hj=>by
      rcases Nat.lt_or_ge j k with h1 | h1
      ·exact hgood.out j h1
      ·rw [show j = k by omega]; exact h)
     generalize z k = x at *
     rcases Nat.lt_trichotomy Fl.I (Fl.rg x) with h1 | h1 | h1
     ·have HA:=Hd (HBAD.out (by unfold badB; rw [decide_eq_true (by omega)]; rfl))
      go_wp2_with fail
      refine (isnan_yes x _ h1).mono ?_
      rintro e w' ⟨rfl,rfl⟩
      go_wp2
      go_ret
      exact ⟨by rw [HA.out]; rfl,rfl⟩
     ·have HA:=Hd (HBAD.out (by unfold badB; rw [decide_eq_true (by omega)]; rfl))
      have hI : decide (Fl.rg x = Fl.I) = true:=decide_eq_true h1.symm
      go_wp2_with fail
      refine (isnan_no x _ (by omega)).mono ?_
      rintro e w' ⟨rfl,rfl⟩
      go_wp2_with fail
      refine (isinf_any x _ hzk).mono ?_
      rintro e w' ⟨rfl,rfl⟩
      rw [hI]
      go_wp2
      go_ret
      exact ⟨by rw [HA.out]; rfl,rfl⟩
     ·have hI : decide (Fl.rg x = Fl.I) = false:=decide_eq_false (by omega)
      by_cases hneg : Fl.sg x = true /\ 0 < Fl.rg x
      ·have HA:=Hd (HBAD.out (by unfold badB; rw [hneg.1,decide_eq_true hneg.2]; simp))
       have ho:=Fl.cmp0_lt x hneg.2 (Nat.le_of_lt h1) hneg.1
       clear hneg
       go_wp2_with fail
       refine (isnan_no x _ (by omega)).mono ?_
       rintro e w' ⟨rfl,rfl⟩
       go_wp2_with fail
       refine (isinf_any x _ hzk).mono ?_
       rintro e w' ⟨rfl,rfl⟩
       rw [hI]
       go_wp2
       go_ret
       exact ⟨by rw [HA.out]; rfl,rfl⟩
      ·have hb : badB x = false:=by
        unfold badB
        rw [decide_eq_false (by omega)]
        cases hs : Fl.sg x
        ·rfl
        ·rw [decide_eq_false (fun h=>hneg ⟨hs,h⟩)]; rfl
       have HB:=Hd (HG.out hb)
       have ho : (FloatKind.f64.format.order x 0 == some .lt) = false:=by
        by_cases hz0 : Fl.rg x = 0
        ·rw [Fl.cmp0_eq x hz0]; rfl
        ·rw [Fl.cmp0_gt x (by omega) (Nat.le_of_lt h1) (by
          cases hs : Fl.sg x
          ·rfl
          ·exact absurd ⟨hs,by omega⟩ hneg)]; rfl
       clear hneg hb
       go_wp2_with fail
       refine (isnan_no x _ (by omega)).mono ?_
       rintro e w' ⟨rfl,rfl⟩
       go_wp2_with fail
       refine (isinf_any x _ hzk).mono ?_
       rintro e w' ⟨rfl,rfl⟩
       rw [hI]
       go_wp2
       go_round
       case rel=>exact ⟨k + 1,hlt,by go_num,HB⟩
       case measure=>simp [intOf]; omega
    ·have hkn : k = n:=by omega
     subst hkn
     have HT2 : Hid (T = if ((List.range k).any fun k=>overB (z k)) = true then 6 else 0):=Hd (by rw [HT.out,any_no hgood.out]; rfl)
     have HGOOD:=hgood
     clear hgood
     go_wp2_with fail
     go_loop [34] (fun t=>∃ j : Nat,j <= k /\ t = .int .i64 j /\ Hid (∀ i,i < j -> overB (z i) = false)) (fun t=>k - (intOf t).toNat)
     case atStart=>exact ⟨0,Nat.zero_le _,rfl,Hd (fun j hj=>absurd hj (Nat.not_lt_zero j))⟩
     case round =>
      obtain ⟨j,hj,rfl,hgood⟩:=hrel
      by_cases hlt2 : j < k
      ·obtain ⟨ad,rfl,hc⟩:=HR.out j hlt2
       have ho:=over_ord (z j) (HGOOD.out j hlt2)
       have HBAD : Hid (overB (z j) = true -> T = 6):=Hd (fun h=>by rw [HT2.out,if_pos (any_yes hlt2 h)])
       have HG : Hid (overB (z j) = false -> ∀ i,i < j + 1 -> overB (z i) = false):=Hd (fun h i hi=>by
        rcases Nat.lt_or_ge i j with h1 | h1
        ·exact hgood.out i h1
        ·rw [show i = j by omega]; exact h)
       cases hov : overB (z j)
       ·rw [hov] at ho
        have HB:=Hd (HG.out hov)
        clear hov
        go_wp2
        go_round
        case rel=>exact ⟨j + 1,hlt2,by go_num,HB⟩
        case measure=>simp [intOf]; omega
       ·rw [hov] at ho
        have HA:=Hd (HBAD.out hov)
        clear hov
        go_wp2
        go_ret
        exact ⟨by rw [HA.out]; rfl,rfl⟩
      ·have hjk : j = k:=by omega
       subst hjk
       have HA : Hid (T = 0):=Hd (by rw [HT2.out,any_no hgood.out]; rfl)
       clear hgood
       go_wp2
       go_ret
       exact ⟨by rw [HA.out]; rfl,rfl⟩
def ProdIs (x : Nat) (z : Nat -> Nat) : Nat -> Nat -> Prop
 | 0,s=>s = x
 | k + 1,s=>∃ u,ProdIs x z k u /\ Fl.Is (Fl.mulS u (z k) true) s
theorem Fl.Is_lt_mul2 {a b s : Nat} {up : Bool} (ha : a < 2 * Fl.W) (hb : b < 2 * Fl.W) (h : Fl.Is (Fl.mulS a b up) s) : s < 2 * Fl.W:=by
 cases ho : Fl.mulS a b up with
 | none=>rw [ho] at h; exact h.2
 | some r =>
   rw [ho] at h
   have : s = r:=h
   subst this
   unfold Fl.mulS at ho
   split at ho
   ·have hs : Fl.mulF a b up = s:=Option.some.inj ho
    rw [<- hs]
    unfold Fl.mulF
    split
    ·unfold Fl.greatW; split
     ·exact nearM_lt a b
     ·exact Fl.wd_lt _ _ (by decide)
    ·unfold Fl.sideW; split
     ·exact Fl.next_lt _ _ (nearM_lt a b)
     ·exact nearM_lt a b
   ·exact Fl.mul_lt ho
theorem ProdIs_lt {x : Nat} {z : Nat -> Nat} (hx : x < 2 * Fl.W) (hz : ∀ k,z k < 2 * Fl.W) : ∀ {n s : Nat},ProdIs x z n s -> s < 2 * Fl.W
 | 0,s,h=>by have : s = x:=h; subst this; exact hx
 | k + 1,s,⟨u,h1,h2⟩=>Fl.Is_lt_mul2 (ProdIs_lt hx hz h1) (hz k) h2
def ProdPost (x : Nat) (z : Nat -> Nat) (n : Nat) (w : World) (e : Ending) (w' : World) : Prop:=∃ u s,ProdIs x z n u /\ Fl.Is (Fl.addS u 103582791429521408 true) s /\ e = .returned (.float .f64 s) /\ Dr w w'
set_option maxRecDepth 100000 in
set_option maxHeartbeats 2000000 in
theorem fproduct_any (x : Nat) (A : Option Addr) (n c : Nat) (z : Nat -> Nat) (w : World) (hn : n <= 100) (hx : x < 2 * Fl.W) (hz : ∀ k,z k < 2 * Fl.W) (hr : FlsAt w A n z) :
  Calls Tryz.prog 165 #[.float .f64 x,.slice A n c] w (ProdPost x z n w):=by
 have HR:=Hd hr
 have HZ:=Hd hz
 have hl : (103582791429521408 : Nat) < 2 * Fl.W:=by decide
 have HL:=Hd hl
 have HX:=Hd hx
 clear hr hz hl hx
 go_enter Tryz.func165,Tryz.ntmps165
 go_wp2_with fail
 go_loopw [0,9] (fun v t wr=>∃ k s : Nat,k <= n /\ t = .int .i64 k /\ v = .float .f64 s /\ ProdIs x z k s /\ Dr w wr) (fun _ t _=>n - (intOf t).toNat)
 case atStart=>exact ⟨0,x,Nat.zero_le _,rfl,rfl,rfl,Dr.refl w⟩
 case round =>
  obtain ⟨k,s,hk,rfl,rfl,hs,hd⟩:=hrel
  have HS:=Hd hs
  have HD:=Hd hd
  have hsl:=ProdIs_lt HX.out HZ.out hs
  clear hs hd
  by_cases hlt : k < n
  ·have hcell : ∃ ad,A = some ad /\ wr.cell? (ad.add k) = some (.float .f64 (z k)):=by
    obtain ⟨ad,hA,hc⟩:=HR.out k hlt
    obtain ⟨m,rfl⟩:=HD.out
    exact ⟨ad,hA,hc⟩
   obtain ⟨ad,rfl,hc⟩:=hcell
   go_wp2_with fail
   refine (mul_any s (z k) true _ hsl (HZ.out k)).mono ?_
   rintro e w1 ⟨t,rfl,ht,hdt⟩
   have HT:=Hd ht
   have HE:=Hd (HD.out.trans hdt)
   clear ht hdt
   go_wp2
   go_roundw
   case rel=>exact ⟨k + 1,t,hlt,by go_num,rfl,⟨s,HS.out,HT.out⟩,HE.out⟩
   case measure=>simp [intOf]; omega
  ·have hkn : k = n:=by omega
   subst hkn
   go_wp2_with fail
   refine (add_any s 103582791429521408 true _ hsl HL.out).mono ?_
   rintro e w1 ⟨t,rfl,ht,hdt⟩
   have HT:=Hd ht
   have HE:=Hd (HD.out.trans hdt)
   clear ht hdt
   go_wp2
   go_ret
   exact ⟨s,t,HS.out,HT.out,rfl,HE.out⟩
end
end Go.Proofs.YtnpanpkahbcecaaGreatDoor

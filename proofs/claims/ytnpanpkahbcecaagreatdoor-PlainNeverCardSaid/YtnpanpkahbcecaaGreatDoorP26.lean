/-
The walks of edge's even and Mul.
-/
import Derived.Test.YtnpanpkahbcecaaGreatDoorP25
import Derived.Lib.Hide
set_option linter.unusedVariables false
set_option linter.unusedSimpArgs false
namespace Go.Proofs.YtnpanpkahbcecaaGreatDoor
section
open Go.RowKit
theorem settle_go (near x off : Nat) (P : Int) (up : Bool) (w : World) (hP1 : -10000 <= P) (hP2 : P <= 10000) (hn : near < 2 * Fl.W) (hf : Fl.rg near < Fl.I) (y1 y d : Nat) (h1 : Int) (hh : wrap64 (-(P.tdiv 2)) = h1) (hb1 : -20000 <= h1) (hb2 : h1 <= 20000)
  (l1 : ∀ w,Calls Tryz.prog 94 #[.float .f64 near,.int .i64 h1] w fun e w'=>e = .returned (.float .f64 y1) /\ w = w')
  (l2 : ∀ w,Calls Tryz.prog 94 #[.float .f64 y1,.int .i64 (-P - h1)] w fun e w'=>e = .returned (.float .f64 y) /\ w = w')
  (hd : ∀ w,(binOp .sub 76 (.float .f64 x) (.float .f64 y)).run Tryz.prog w = .ok (.float .f64 d) w)
  (o1 o2 : Ordering) (od : FloatKind.f64.format.order d 0 = some o1) (oo : FloatKind.f64.format.order off 0 = some o2) :
  Calls Tryz.prog 188 #[.float .f64 near,.float .f64 x,.float .f64 off,.int .i64 P,.bool up] w fun e w'=>e = .returned (.float .f64 (Fl.sideW near (if o1 = .eq then o2 else o1) (Fl.next near up) up)) /\ w = w':=by
 have H1:=Hd l1
 have H2:=Hd l2
 have OD:=Hd od
 have OO:=Hd oo
 clear l1 l2 oo
 cases o1
 ·clear OO
  go_enter Tryz.func188,Tryz.ntmps188
  go_wp2_with fail
  refine (finite_yes _ _ hn hf).mono ?_
  rintro e w' ⟨rfl,rfl⟩
  go_wp2_with fail
  refine (H1.out _).mono ?_
  rintro e w' ⟨rfl,rfl⟩
  go_wp2_with fail
  refine (H2.out _).mono ?_
  rintro e w' ⟨rfl,rfl⟩
  go_wp2_with fail
  refine (side_any near d up _ hn _ OD.out).mono ?_
  rintro e w' ⟨rfl,rfl⟩
  go_wp2
  go_ret
  exact ⟨rfl,rfl⟩
 ·go_enter Tryz.func188,Tryz.ntmps188
  go_wp2_with fail
  refine (finite_yes _ _ hn hf).mono ?_
  rintro e w' ⟨rfl,rfl⟩
  go_wp2_with fail
  refine (H1.out _).mono ?_
  rintro e w' ⟨rfl,rfl⟩
  go_wp2_with fail
  refine (H2.out _).mono ?_
  rintro e w' ⟨rfl,rfl⟩
  go_wp2_with fail
  refine (side_any near off up _ hn _ OO.out).mono ?_
  rintro e w' ⟨rfl,rfl⟩
  go_wp2
  go_ret
  exact ⟨rfl,rfl⟩
 ·clear OO
  go_enter Tryz.func188,Tryz.ntmps188
  go_wp2_with fail
  refine (finite_yes _ _ hn hf).mono ?_
  rintro e w' ⟨rfl,rfl⟩
  go_wp2_with fail
  refine (H1.out _).mono ?_
  rintro e w' ⟨rfl,rfl⟩
  go_wp2_with fail
  refine (H2.out _).mono ?_
  rintro e w' ⟨rfl,rfl⟩
  go_wp2_with fail
  refine (side_any near d up _ hn _ OD.out).mono ?_
  rintro e w' ⟨rfl,rfl⟩
  go_wp2
  go_ret
  exact ⟨rfl,rfl⟩
theorem settle_great (near x off : Nat) (P : Int) (up : Bool) (w : World) (hn : near < 2 * Fl.W) (hI : Fl.rg near = Fl.I) :
  Calls Tryz.prog 188 #[.float .f64 near,.float .f64 x,.float .f64 off,.int .i64 P,.bool up] w fun e w'=>e = .returned (.float .f64 (Fl.greatW near up)) /\ Dr w w':=by
 have hf : ¬ Fl.rg near < Fl.I:=by omega
 go_enter Tryz.func188,Tryz.ntmps188
 go_wp2_with fail
 refine (finite_no _ _ hf).mono ?_
 rintro e w' ⟨rfl,hd⟩
 have HD:=Hd hd
 clear hd
 go_wp2_with fail
 refine (great_any _ _ _ hn hI).mono ?_
 rintro e w' ⟨rfl,rfl⟩
 go_wp2
 go_ret
 exact ⟨rfl,HD.out⟩
theorem Fl.rv_norm (r : Nat) (h0 : 0 < r) : ∃ c1 c2 : Nat,Fl.rv r * 2 ^ c1 = Fl.nM r * 2 ^ c2 /\ (c2 : Int) - c1 = Fl.nE r:=by
 obtain ⟨c1,c2,n1,n2⟩:=Fl.norm_val r h0
 refine ⟨c1,c2 + Fl.ex r,?_,by omega⟩
 unfold Fl.rv; rw [Nat.mul_assoc,Nat.mul_comm (2 ^ Fl.ex r),<- Nat.mul_assoc,n1,Nat.mul_assoc,<- Nat.pow_add]
theorem Fl.scl2 (near : Nat) (h0 : 0 < Fl.rg near) (P h1 : Int) (a1 : 0 <= Fl.nE (Fl.rg near) + h1) (a2 : Fl.nE (Fl.rg near) + h1 <= 2045) (b1 : 0 <= Fl.nE (Fl.rg near) - P) (b2 : Fl.nE (Fl.rg near) - P <= 2045) :
  ∃ y1 y : Nat,y1 = Fl.scl near h1 /\ 0 < Fl.rg y1 /\ Fl.rg y1 < Fl.I /\ y1 < 2 * Fl.W /\ y = Fl.scl y1 (-P - h1) /\ Fl.sg y = Fl.sg near /\ Fl.rg y < Fl.I /\ y < 2 * Fl.W /\ ∃ c1 c2 : Nat,Fl.rv (Fl.rg y) * 2 ^ c1 = Fl.rv (Fl.rg near) * 2 ^ c2 /\ (c2 : Int) - c1 = -P:=by
 obtain ⟨e1,e2,e3,e4⟩:=Fl.scl_exact near h0 h1 a1 a2
 have hBp : 0 < Fl.B:=by decide
 obtain ⟨m1,m2⟩:=Fl.nM_range (Fl.rg near) h0
 generalize hr : (Fl.nE (Fl.rg near) + h1).toNat * Fl.B + Fl.nM (Fl.rg near) = r at *
 have hW:=Nat.lt_trans e2 Fl.I_lt_W
 have hr0 : 0 < r:=by rw [<- hr]; exact Nat.lt_of_lt_of_le (Nat.lt_of_lt_of_le hBp m1) (Nat.le_add_left _ _)
 have hrg : Fl.rg (Fl.wd (Fl.sg near) r) = r:=Fl.rg_wd _ _ hW
 have hsg : Fl.sg (Fl.wd (Fl.sg near) r) = Fl.sg near:=Fl.sg_wd _ _ hW
 have hk : Fl.nE (Fl.rg (Fl.wd (Fl.sg near) r)) + (-P - h1) = Fl.nE (Fl.rg near) - P:=by rw [hrg,e3]; omega
 obtain ⟨f1,f2,f3,f4⟩:=Fl.scl_exact (Fl.wd (Fl.sg near) r) (by rw [hrg]; exact hr0) (-P - h1) (by rw [hk]; exact b1) (by rw [hk]; exact b2)
 rw [hk,hrg,e4,hsg] at f1
 rw [hk,hrg,e4] at f2 f3 f4
 generalize hq : (Fl.nE (Fl.rg near) - P).toNat * Fl.B + Fl.nM (Fl.rg near) = q at *
 have hqW:=Nat.lt_trans f2 Fl.I_lt_W
 have hq0 : 0 < q:=by rw [<- hq]; exact Nat.lt_of_lt_of_le (Nat.lt_of_lt_of_le hBp m1) (Nat.le_add_left _ _)
 refine ⟨_,_,e1.symm,by rw [hrg]; exact hr0,by rw [hrg]; exact e2,Fl.wd_lt _ _ hW,f1.symm,Fl.sg_wd _ _ hqW,by rw [Fl.rg_wd _ _ hqW]; exact f2,Fl.wd_lt _ _ hqW,?_⟩
 rw [Fl.rg_wd _ _ hqW]
 obtain ⟨c1,c2,n1,n2⟩:=Fl.rv_norm q hq0
 obtain ⟨d1,d2,n3,n4⟩:=Fl.rv_norm (Fl.rg near) h0
 rw [f4] at n1
 rw [f3] at n2
 refine ⟨c1 + d2,d1 + c2,?_,by omega⟩
 rw [Nat.pow_add,<- Nat.mul_assoc,n1,Nat.pow_add,<- Nat.mul_assoc,n3]
 generalize 2 ^ c2 = A
 generalize 2 ^ d2 = C
 generalize Fl.nM (Fl.rg near) = M
 grind
theorem tdiv_two (P : Int) : P - 1 <= 2 * P.tdiv 2 /\ 2 * P.tdiv 2 <= P + 1:=by
 rcases Int.lt_or_le P 0 with h | h
 ·have h1 : (-P).tdiv 2 = -(P.tdiv 2):=Int.neg_tdiv ..
  rw [Int.tdiv_eq_ediv_of_nonneg (by omega)] at h1
  omega
 ·rw [Int.tdiv_eq_ediv_of_nonneg h]; omega
theorem wrap_half (P : Int) (h1 : -10000 <= P) (h2 : P <= 10000) : wrap64 (-(P.tdiv 2)) = -(P.tdiv 2):=by
 have:=tdiv_two P
 unfold wrap64; omega
theorem Fl.compare_vl (x y : Nat) (s : Bool) (hx : Fl.sg x = s) (hy : Fl.sg y = s) : compare (Fl.vl x) (Fl.vl y) = Fl.cmpS s (compare (Fl.rg x) (Fl.rg y)):=by
 unfold Fl.vl Fl.cmpS
 rw [hx,hy,Fl.compare_nat,Fl.compare_int]
 rcases Nat.lt_trichotomy (Fl.rg x) (Fl.rg y) with h | h | h
 ·have:=Fl.rv_mono h
  cases s
  ·simp only [Bool.false_eq_true,if_false]; rw [if_pos (by omega),if_pos h]
  ·simp only [if_true]; rw [if_neg (by omega),if_neg (by omega),if_pos h]; rfl
 ·rw [h]; cases s <;> simp <;> rfl
 ·have:=Fl.rv_mono h
  cases s
  ·simp only [Bool.false_eq_true,if_false]; rw [if_neg (by omega),if_neg (by omega),if_neg (by omega),if_neg (by omega)]
  ·simp only [if_true]; rw [if_pos (by omega),if_neg (by omega),if_neg (by omega)]; rfl
theorem Fl.cmpS_eq (s : Bool) (c : Ordering) : Fl.cmpS s c = .eq ↔ c = .eq:=by cases s <;> cases c <;> simp [Fl.cmpS]
theorem Fl.sub_sign (x y : Nat) (hy : y < 2 * Fl.W) (fx : Fl.rg x < Fl.I) (fy : Fl.rg y < Fl.I) : ∃ d,floatBits .sub .f64 x y = some d /\ FloatKind.f64.format.order d 0 = some (compare (Fl.vl x) (Fl.vl y)):=by
 have e1 : Ieee.double.sub x y = some (Fl.rnd (Fl.sgn2 (Fl.sg x) (Fl.sg (Fl.ng y)) (Fl.vl x - Fl.vl y)) (Fl.vl x - Fl.vl y).natAbs):=by
  rw [Fl.sub_any x y hy,Fl.add_fin x (Fl.ng y) fx (by rw [Fl.rg_ng y hy]; exact fy),Fl.vl_ng y hy]
  rfl
 refine ⟨_,e1,?_⟩
 rw [Fl.ord0 _ (by rw [Fl.rg_rnd]; exact (Fl.rnd_rr false _).2),Fl.key_rnd,Fl.compare_sub]
theorem settle_side (near x off : Nat) (P : Int) (up : Bool) (w : World) (s : Bool) (mag : Nat) (p : Int) (hm : mag ≠ 0) (hP1 : -10000 <= P) (hP2 : P <= 10000)
  (hnear : near = Ieee.double.nearest s mag p) (hf : Fl.rg near < Fl.I) (hx : x = Ieee.double.nearest s mag (p - P)) (hxf : Fl.rg x < Fl.I) (hx0 : 0 < Fl.rg x)
  (ht1 : -3 <= (mag.log2 : Int) + p - P) (ht2 : (mag.log2 : Int) + p - P <= 1) (oo : FloatKind.f64.format.order off 0 = some (Fl.cmpS s (Fl.cmpR mag (p - P) (Fl.rg x)))) :
  Calls Tryz.prog 188 #[.float .f64 near,.float .f64 x,.float .f64 off,.int .i64 P,.bool up] w fun e w'=>e = .returned (.float .f64 (Fl.sideW near (Fl.cmpS s (Fl.cmpR mag p (Fl.rg near))) (Fl.next near up) up)) /\ w = w':=by
 obtain ⟨r,n1,n2⟩:=Fl.nearest_rnd s mag p (p + 1074).toNat (-(p + 1074)).toNat (by omega)
 obtain ⟨q,q1,q2⟩:=Fl.nearest_rnd s mag (p - P) (p - P + 1074).toNat (-(p - P + 1074)).toNat (by omega)
 rw [<- hnear] at n1
 rw [<- hx] at q1
 have hrgn : Fl.rg near = min r Fl.I:=by rw [n1,Fl.rg_wd _ _ (Fl.min_I_lt r)]
 have hrgx : Fl.rg x = min q Fl.I:=by rw [q1,Fl.rg_wd _ _ (Fl.min_I_lt q)]
 obtain ⟨_,hrn⟩:=Fl.of_min hrgn hf
 obtain ⟨_,hqx⟩:=Fl.of_min hrgx hxf
 have hsn : Fl.sg near = s:=by rw [n1,Fl.sg_wd _ _ (Fl.min_I_lt r)]
 have hsx : Fl.sg x = s:=by rw [q1,Fl.sg_wd _ _ (Fl.min_I_lt q)]
 have hnl : near < 2 * Fl.W:=by rw [n1]; exact Fl.wd_lt _ _ (Fl.min_I_lt r)
 rw [<- hrn] at n2
 rw [<- hqx] at q2
 have hw:=wrap_half P hP1 hP2
 have htd:=tdiv_two P
 clear n1 q1 hrgn hrgx hrn hqx
 -- the answer by what the two differences tell
 have fin : ∀ y c1 c2 : Nat,Fl.sg y = s -> Fl.rv (Fl.rg y) * 2 ^ c1 = Fl.rv (Fl.rg near) * 2 ^ c2 -> (c2 : Int) - c1 = -P ->
   (if compare (Fl.vl x) (Fl.vl y) = .eq then Fl.cmpS s (Fl.cmpR mag (p - P) (Fl.rg x)) else compare (Fl.vl x) (Fl.vl y)) = Fl.cmpS s (Fl.cmpR mag p (Fl.rg near)):=by
  intro y c1 c2 hy e1 e2
  have key:=Fl.settle_cmp mag p P (Fl.rg near) (Fl.rg x) (Fl.rg y) c1 c2 _ _ e1 e2 (by omega) q2
  rw [Fl.compare_vl x y s hsx hy,key]
  rcases Nat.lt_trichotomy (Fl.rg x) (Fl.rg y) with h | h | h
  ·have hc : compare (Fl.rg x) (Fl.rg y) = Ordering.lt:=by rw [Fl.compare_nat,if_pos h]
   have hk : (if Fl.rg y < Fl.rg x then Ordering.gt else if Fl.rg x < Fl.rg y then .lt else Fl.cmpR mag (p - P) (Fl.rg x)) = .lt:=by rw [if_neg (by omega),if_pos h]
   rw [hc,hk,if_neg (by rw [Fl.cmpS_eq]; simp)]
  ·have hc : compare (Fl.rg x) (Fl.rg y) = Ordering.eq:=by rw [Fl.compare_nat,if_neg (by omega),if_pos h]
   have hk : (if Fl.rg y < Fl.rg x then Ordering.gt else if Fl.rg x < Fl.rg y then .lt else Fl.cmpR mag (p - P) (Fl.rg x)) = Fl.cmpR mag (p - P) (Fl.rg x):=by rw [if_neg (by omega),if_neg (by omega)]
   rw [hc,hk,if_pos (by rw [Fl.cmpS_eq])]
  ·have hc : compare (Fl.rg x) (Fl.rg y) = Ordering.gt:=by rw [Fl.compare_nat,if_neg (by omega),if_neg (by omega)]
   have hk : (if Fl.rg y < Fl.rg x then Ordering.gt else if Fl.rg x < Fl.rg y then .lt else Fl.cmpR mag (p - P) (Fl.rg x)) = .gt:=by rw [if_pos h]
   rw [hc,hk,if_neg (by rw [Fl.cmpS_eq]; simp)]
 by_cases h0 : Fl.rg near = 0
 ·obtain ⟨d,d1,d2⟩:=Fl.sub_sign x near hnl hxf hf
  have ff:=fin near P.toNat (-P).toNat hsn (by rw [h0,Fl.rv_zero,Nat.zero_mul,Nat.zero_mul]) (by omega)
  have main:=settle_go near x off P up w hP1 hP2 hnl hf near near d _ hw (by omega) (by omega) (fun w=>ldexp_zero near _ w h0) (fun w=>ldexp_zero near _ w h0) (fun w=>run_float_arith w .sub _ .f64 _ _ _ d1) _ _ d2 oo
  rw [ff] at main
  exact main
 ·have hnr:=Fl.nE_range (Fl.rg near) (by omega) hf
  have hl:=Fl.near_lead mag (Fl.rg near) _ _ p hm (by omega) n2 (by omega)
  obtain ⟨y1,y,e1,e2,e3,e4,e5,e6,e7,e8,c1,c2,e9,e10⟩:=Fl.scl2 near (by omega) P (-(P.tdiv 2)) (by omega) (by omega) (by omega) (by omega)
  obtain ⟨d,d1,d2⟩:=Fl.sub_sign x y e8 hxf e7
  have ff:=fin y c1 c2 (e6.trans hsn) e9 e10
  have l1:=fun w=>ldexp_fin near (-(P.tdiv 2)) w hnl (by omega) hf (by omega) (by omega)
  have l2:=fun w=>ldexp_fin y1 (-P - -(P.tdiv 2)) w e4 e2 e3 (by omega) (by omega)
  rw [<- e1] at l1
  rw [<- e5] at l2
  have main:=settle_go near x off P up w hP1 hP2 hnl hf y1 y d _ hw (by omega) (by omega) l1 l2 (fun w=>run_float_arith w .sub _ .f64 _ _ _ d1) _ _ d2 oo
  rw [ff] at main
  exact main
end
section
open Go.RowKit
def Fl.mM (a b : Nat) : Nat:=Fl.nM (Fl.rg a) * Fl.nM (Fl.rg b)
def Fl.pM (a b : Nat) : Int:=(-1074 + Fl.nE (Fl.rg a)) + (-1074 + Fl.nE (Fl.rg b))
def Fl.nearM (a b : Nat) : Nat:=Ieee.double.nearest (Fl.sg a ^^ Fl.sg b) (Fl.mM a b) (Fl.pM a b)
def Fl.mulF (a b : Nat) (up : Bool) : Nat :=
 if Fl.rg (Fl.nearM a b) = Fl.I then Fl.greatW (Fl.nearM a b) up
 else Fl.sideW (Fl.nearM a b) (Fl.cmpS (Fl.sg a ^^ Fl.sg b) (Fl.cmpR (Fl.mM a b) (Fl.pM a b) (Fl.rg (Fl.nearM a b)))) (Fl.next (Fl.nearM a b) up) up
def Fl.mulS (a b : Nat) (up : Bool) : Option Nat:=if Fl.rg a < Fl.I /\ Fl.rg b < Fl.I /\ 0 < Fl.rg a /\ 0 < Fl.rg b then some (Fl.mulF a b up) else Ieee.double.mul a b
theorem Fl.mul_near (a b : Nat) (fa : Fl.rg a < Fl.I) (fb : Fl.rg b < Fl.I) (a0 : 0 < Fl.rg a) (b0 : 0 < Fl.rg b) : Ieee.double.mul a b = some (Fl.nearM a b):=by
 rw [Fl.mul_fin a b fa fb]
 obtain ⟨c1,c2,n1,n2⟩:=Fl.norm_val (Fl.rg a) a0
 obtain ⟨d1,d2,n3,n4⟩:=Fl.norm_val (Fl.rg b) b0
 unfold Fl.nearM
 rw [Fl.nearest_congr _ (Fl.mant (Fl.rg a) * Fl.mant (Fl.rg b)) (Fl.mM a b) (Fl.pl a + Fl.pl b) (Fl.pM a b) (c1 + d1) (c2 + d2) ?_ ?_]
 ·unfold Fl.mM
  rw [Nat.pow_add,Nat.pow_add]
  have : Fl.mant (Fl.rg a) * Fl.mant (Fl.rg b) * (2 ^ c1 * 2 ^ d1) = (Fl.mant (Fl.rg a) * 2 ^ c1) * (Fl.mant (Fl.rg b) * 2 ^ d1):=by grind
  rw [this,n1,n3]; grind
 ·unfold Fl.pl Fl.pM; omega
theorem Fl.two_rung (e : Nat) (he : e = 1074) : (e - 51) * Fl.B + Fl.B = 4611686018427387904:=by subst he; decide
theorem Fl.small_fin (s : Bool) (mag : Nat) (p : Int) (k : Nat) (h0 : mag ≠ 0) (h : mag < 2 ^ k) (hp : p + k <= 1) (hp2 : -1074 <= p) : Fl.rg (Ieee.double.nearest s mag p) < Fl.I /\ 0 < Fl.rg (Ieee.double.nearest s mag p) /\ Fl.sg (Ieee.double.nearest s mag p) = s:=by
 rw [Fl.nearest_units s mag p hp2,Fl.rg_rnd,Fl.sg_rnd]
 have hpos : 0 < mag * 2 ^ (p + 1074).toNat:=Nat.mul_pos (Nat.pos_of_ne_zero h0) (Nat.two_pow_pos _)
 refine ⟨?_,Fl.rr_pos _ hpos,rfl⟩
 obtain ⟨q,q1,q2⟩:=Fl.rnd_spec false (mag * 2 ^ (p + 1074).toNat)
 have hrr : Fl.rr (mag * 2 ^ (p + 1074).toNat) = min q Fl.I:=q1
 have hE:=Fl.E_eq
 have hr:=Fl.rv_of (Fl.E - 51) Fl.B (by unfold Fl.B; omega) (.inr (Nat.le_refl _))
 rw [Fl.two_rung _ hE] at hr
 have hq : q <= 4611686018427387904:=by
  have hex:=Fl.Rnd.exact 4611686018427387904 0
  refine q2.mono hex ?_
  rw [hr,Nat.pow_zero,Nat.mul_one,Nat.mul_one,Nat.mul_one]
  have h1 : mag * 2 ^ (p + 1074).toNat <= 2 ^ k * 2 ^ (p + 1074).toNat:=Nat.mul_le_mul_right _ (Nat.le_of_lt h)
  refine Nat.le_trans h1 ?_
  rw [Fl.B_eq,<- Nat.pow_add,<- Nat.pow_add]
  refine Fl.pow_le ?_
  generalize Fl.E = e at *
  omega
 rw [hrr]
 exact Nat.lt_of_le_of_lt (Nat.min_le_left _ _) (Nat.lt_of_le_of_lt hq (by decide))
theorem run_fma (x y z r : Nat) (h : Ieee.double.fma x y z = some r) (w : World) : (callFunc 189 #[.float .f64 x,.float .f64 y,.float .f64 z]).run Tryz.prog w = .ok (.value (.float .f64 r)) w:=by
 rw [run_callFunc_extern (e:=Extern.MathFMA.fma) Tryz.func189 (by kernel_rfl) (by kernel_rfl) (by kernel_rfl) (by kernel_rfl)]
 have : (Extern.MathFMA.fma #[.float .f64 x,.float .f64 y,.float .f64 z]).run Tryz.prog w = .ok (.float .f64 r) w:=by
  have hf : FloatKind.f64.format.fma x y z = some r:=h
  obtain ⟨f,hx⟩ : ∃ f : Sem Value,Extern.MathFMA.fma #[.float .f64 x,.float .f64 y,.float .f64 z] = (match FloatKind.f64.format.fma x y z with | some r=>pure (.float .f64 r) | none=>f):=⟨_,rfl⟩
  rw [hx,hf]
  rfl
 rw [this]
 rfl
theorem even_fin (a b : Nat) (w : World) (ha : a < 2 * Fl.W) (hb : b < 2 * Fl.W) (fa : Fl.rg a < Fl.I) (fb : Fl.rg b < Fl.I) (a0 : 0 < Fl.rg a) (b0 : 0 < Fl.rg b) :
  Calls Tryz.prog 197 #[.float .f64 a,.float .f64 b] w fun e w'=>e = .returned (.tuple #[.float .f64 (Fl.frx a),.float .f64 (Fl.frx b),.int .i64 (Fl.fri a),.int .i64 (Fl.fri b)]) /\ w = w':=by
 go_enter Tryz.func197,Tryz.ntmps197
 go_wp2_with fail
 refine (frexp_fin a _ ha a0 fa).mono ?_
 rintro e w' ⟨rfl,rfl⟩
 go_wp2_with fail
 refine (frexp_fin b _ hb b0 fb).mono ?_
 rintro e w' ⟨rfl,rfl⟩
 go_wp2
 exact bodyPost_ret (v:=.tuple #[.float .f64 (Fl.frx a),.float .f64 (Fl.frx b),.int .i64 (Fl.fri a),.int .i64 (Fl.fri b)]) (by simp [results,Tryz.results197,go_sem]) rfl ⟨rfl,rfl⟩
theorem Fl.cmp_signed (s : Bool) (q v : Nat) : compare ((if s then -1 else 1) * (q : Int) + (if s then (v : Int) else -(v : Int))) 0 = Fl.cmpS s (compare q v):=by
 unfold Fl.cmpS
 rw [Fl.compare_int,Fl.compare_nat]
 cases s
 ·simp only [Bool.false_eq_true,if_false]
  rcases Nat.lt_trichotomy q v with h | h | h
  ·rw [if_pos (by omega),if_pos h]
  ·rw [if_neg (by omega),if_pos (by omega),if_neg (by omega),if_pos h]
  ·rw [if_neg (by omega),if_neg (by omega),if_neg (by omega),if_neg (by omega)]
 ·simp only [if_true]
  rcases Nat.lt_trichotomy q v with h | h | h
  ·rw [if_neg (by omega),if_neg (by omega),if_pos h]; rfl
  ·rw [if_neg (by omega),if_pos (by omega),if_neg (by omega),if_pos h]; rfl
  ·rw [if_pos (by omega),if_neg (by omega),if_neg (by omega)]; rfl
theorem Fl.mul_scaled (a b : Nat) (a0 : 0 < Fl.rg a) (b0 : 0 < Fl.rg b) : ∃ q off,Ieee.double.mul (Fl.frx a) (Fl.frx b) = some q /\ q = Ieee.double.nearest (Fl.sg a ^^ Fl.sg b) (Fl.mM a b) (-106) /\ q < 2 * Fl.W /\ Fl.rg q < Fl.I /\ 0 < Fl.rg q /\ Ieee.double.fma (Fl.frx a) (Fl.frx b) (Fl.ng q) = some off /\ FloatKind.f64.format.order off 0 = some (Fl.cmpS (Fl.sg a ^^ Fl.sg b) (Fl.cmpR (Fl.mM a b) (-106) (Fl.rg q))):=by
 obtain ⟨s1,s2,s3,s4,s5,s6⟩:=Fl.frx_facts a a0
 obtain ⟨t1,t2,t3,t4,t5,t6⟩:=Fl.frx_facts b b0
 obtain ⟨m1,m2⟩:=Fl.nM_range (Fl.rg a) a0
 obtain ⟨k1,k2⟩:=Fl.nM_range (Fl.rg b) b0
 have p1 : Fl.pl (Fl.frx a) = -53:=by unfold Fl.pl; rw [s5]; rfl
 have p2 : Fl.pl (Fl.frx b) = -53:=by unfold Fl.pl; rw [t5]; rfl
 have hmag : Fl.mM a b < 2 ^ 106:=by
  unfold Fl.mM
  have : Fl.nM (Fl.rg a) * Fl.nM (Fl.rg b) < 2 * Fl.B * (2 * Fl.B):=Nat.mul_lt_mul'' m2 k2
  rw [show 2 * Fl.B * (2 * Fl.B) = 2 ^ 106 by decide] at this
  exact this
 have hmag0 : Fl.mM a b ≠ 0:=by
  have hB : 0 < Fl.B:=by decide
  exact Nat.ne_of_gt (Nat.mul_pos (Nat.lt_of_lt_of_le hB m1) (Nat.lt_of_lt_of_le hB k1))
 obtain ⟨q1,q2,q3⟩:=Fl.small_fin (Fl.sg a ^^ Fl.sg b) (Fl.mM a b) (-106) 106 hmag0 hmag (by decide) (by decide)
 have hq : Ieee.double.mul (Fl.frx a) (Fl.frx b) = some (Ieee.double.nearest (Fl.sg a ^^ Fl.sg b) (Fl.mM a b) (-106)):=by
  rw [Fl.mul_fin _ _ s3 t3,s1,t1,s4,t4,p1,p2]; rfl
 have hql : Ieee.double.nearest (Fl.sg a ^^ Fl.sg b) (Fl.mM a b) (-106) < 2 * Fl.W:=by
  rw [Fl.nearest_units _ _ _ (by decide)]; exact Fl.rnd_lt _ _
 generalize hQ : Ieee.double.nearest (Fl.sg a ^^ Fl.sg b) (Fl.mM a b) (-106) = q at *
 have hfma:=Fl.fma_fin (Fl.frx a) (Fl.frx b) (Fl.ng q) s3 t3 (by rw [Fl.rg_ng q hql]; exact q1) (by rw [p1,p2]; decide)
 refine ⟨q,_,hq,rfl,hql,q1,q2,hfma,?_⟩
 rw [Fl.ord0 _ (by rw [Fl.rg_rnd]; exact (Fl.rnd_rr false _).2),Fl.key_rnd]
 congr 1
 unfold Fl.fmaT
 rw [s1,t1,s4,t4,p1,p2,Fl.vl_ng q hql]
 have hv : -Fl.vl q = (if Fl.sg a ^^ Fl.sg b then (Fl.rv (Fl.rg q) : Int) else -(Fl.rv (Fl.rg q) : Int)):=by
  unfold Fl.vl; rw [q3]; cases (Fl.sg a ^^ Fl.sg b) <;> simp
 rw [hv,Fl.cmp_signed]
 congr 1
 unfold Fl.cmpR Fl.mM
 rw [show (-53 + -53 + 1074 : Int).toNat = (-106 + 1074 : Int).toNat from rfl,show (-(-106 + 1074) : Int).toNat = 0 from rfl,Nat.pow_zero,Nat.mul_one]
theorem nearM_lt (a b : Nat) : Fl.nearM a b < 2 * Fl.W:=by
 obtain ⟨r,h,_⟩:=Fl.nearest_word (Fl.sg a ^^ Fl.sg b) (Fl.mM a b) (Fl.pM a b)
 unfold Fl.nearM; rw [h]; exact Fl.wd_lt _ _ (Fl.min_I_lt r)
theorem nearM_rg (a b : Nat) : Fl.rg (Fl.nearM a b) <= Fl.I:=by
 obtain ⟨r,h,_⟩:=Fl.nearest_word (Fl.sg a ^^ Fl.sg b) (Fl.mM a b) (Fl.pM a b)
 unfold Fl.nearM; rw [h,Fl.rg_wd _ _ (Fl.min_I_lt r)]; exact Nat.min_le_right _ _
theorem Fl.mM_log2 (a b : Nat) (a0 : 0 < Fl.rg a) (b0 : 0 < Fl.rg b) : Fl.mM a b ≠ 0 /\ 104 <= (Fl.mM a b).log2 /\ (Fl.mM a b).log2 <= 105:=by
 obtain ⟨m1,m2⟩:=Fl.nM_range (Fl.rg a) a0
 obtain ⟨k1,k2⟩:=Fl.nM_range (Fl.rg b) b0
 have hB : 0 < Fl.B:=by decide
 have h0 : Fl.mM a b ≠ 0:=Nat.ne_of_gt (Nat.mul_pos (Nat.lt_of_lt_of_le hB m1) (Nat.lt_of_lt_of_le hB k1))
 have h1 : 2 ^ 104 <= Fl.mM a b:=by
  have : Fl.B * Fl.B <= Fl.mM a b:=Nat.mul_le_mul m1 k1
  rw [show Fl.B * Fl.B = 2 ^ 104 by decide] at this
  exact this
 have h2 : Fl.mM a b < 2 ^ 106:=by
  have : Fl.mM a b < 2 * Fl.B * (2 * Fl.B):=Nat.mul_lt_mul'' m2 k2
  rw [show 2 * Fl.B * (2 * Fl.B) = 2 ^ 106 by decide] at this
  exact this
 refine ⟨h0,(Nat.le_log2 h0).2 h1,?_⟩
 have:=(Nat.log2_lt h0).2 h2
 omega
theorem mul_not (a b : Nat) (up : Bool) (w : World) (ha : a < 2 * Fl.W) (hb : b < 2 * Fl.W) (h : ¬ (Fl.rg a < Fl.I /\ Fl.rg b < Fl.I)) :
  Calls Tryz.prog 184 #[.float .f64 a,.float .f64 b,.bool up] w (FlPost (Ieee.double.mul a b) w):=by
 obtain ⟨s,w1,hr,hs,hw1⟩:=run_float_any .mul 76 a b w (by simp)
 have HD : Hid (Dr w w1):=by rcases hw1 with rfl | rfl; exact Dr.refl _; exact Dr.drew _
 have HS : Hid (Fl.Is (Ieee.double.mul a b) s):=hs
 clear hs hw1
 by_cases hfa : Fl.rg a < Fl.I
 ·have hfb : ¬ Fl.rg b < Fl.I:=fun h2=>h ⟨hfa,h2⟩
  clear h
  go_enter Tryz.func184,Tryz.ntmps184
  go_wp2_with fail
  refine (finite_yes a _ ha hfa).mono ?_
  rintro e w' ⟨rfl,rfl⟩
  go_wp2_with fail
  refine (finite_no b _ hfb).mono ?_
  rintro e w' ⟨rfl,hd⟩
  have HD2:=Hd hd
  clear hd
  go_wp2
  go_ret
  exact ⟨s,rfl,HS.out,HD.out.trans HD2.out⟩
 ·clear h
  go_enter Tryz.func184,Tryz.ntmps184
  go_wp2_with fail
  refine (finite_no a _ hfa).mono ?_
  rintro e w' ⟨rfl,hd⟩
  have HD2:=Hd hd
  clear hd
  go_wp2
  go_ret
  exact ⟨s,rfl,HS.out,HD.out.trans HD2.out⟩
theorem mul_zero (a b r : Nat) (up : Bool) (w : World) (ha : a < 2 * Fl.W) (hb : b < 2 * Fl.W) (fa : Fl.rg a < Fl.I) (fb : Fl.rg b < Fl.I) (h : ¬ (0 < Fl.rg a /\ 0 < Fl.rg b)) (hr : Ieee.double.mul a b = some r) :
  Calls Tryz.prog 184 #[.float .f64 a,.float .f64 b,.bool up] w fun e w'=>e = .returned (.float .f64 r) /\ w = w':=by
 have h1:=fun w=>run_float_arith (P:=Tryz.prog) w .mul 76 .f64 a b r hr
 by_cases a0 : Fl.rg a = 0
 ·have h2:=Fl.cmp0_eq a a0
  clear h a0 hr
  go_enter Tryz.func184,Tryz.ntmps184
  go_wp2_with fail
  refine (finite_yes a _ ha fa).mono ?_
  rintro e w' ⟨rfl,rfl⟩
  go_wp2_with fail
  refine (finite_yes b _ hb fb).mono ?_
  rintro e w' ⟨rfl,rfl⟩
  go_wp2
  go_ret
  exact ⟨rfl,rfl⟩
 ·have b0 : Fl.rg b = 0:=by omega
  have h2:=ord0_not a fa a0
  have h3:=Fl.cmp0_eq b b0
  clear h a0 b0 hr
  go_enter Tryz.func184,Tryz.ntmps184
  go_wp2_with fail
  refine (finite_yes a _ ha fa).mono ?_
  rintro e w' ⟨rfl,rfl⟩
  go_wp2_with fail
  refine (finite_yes b _ hb fb).mono ?_
  rintro e w' ⟨rfl,rfl⟩
  go_wp2
  go_ret
  exact ⟨rfl,rfl⟩
theorem mul_go (a b p q off nq : Nat) (up : Bool) (w : World) (ha : a < 2 * Fl.W) (hb : b < 2 * Fl.W) (fa : Fl.rg a < Fl.I) (fb : Fl.rg b < Fl.I) (a0 : 0 < Fl.rg a) (b0 : 0 < Fl.rg b) (P : World -> Ending -> World -> Prop) (x y : Nat) (i k : Int) (i1 : -2000 <= i) (i2 : i <= 2000) (k1 : -2000 <= k) (k2 : k <= 2000)
  (he : ∀ w,Calls Tryz.prog 197 #[.float .f64 a,.float .f64 b] w fun e w'=>e = .returned (.tuple #[.float .f64 x,.float .f64 y,.int .i64 i,.int .i64 k]) /\ w = w')
  (h1 : ∀ w,(binOp .mul 76 (.float .f64 a) (.float .f64 b)).run Tryz.prog w = .ok (.float .f64 p) w)
  (h2 : ∀ w,(binOp .mul 76 (.float .f64 x) (.float .f64 y)).run Tryz.prog w = .ok (.float .f64 q) w)
  (hn : ∀ w,(Op.unary .neg (.float .f64 q)).run Tryz.prog w = .ok (.float .f64 nq) w)
  (hf : ∀ w,(callFunc 189 #[.float .f64 x,.float .f64 y,.float .f64 nq]).run Tryz.prog w = .ok (.value (.float .f64 off)) w)
  (s : Nat) (hs : ∀ w,Calls Tryz.prog 188 #[.float .f64 p,.float .f64 q,.float .f64 off,.int .i64 (i + k),.bool up] w fun e w'=>e = .returned (.float .f64 s) /\ Dr w w') :
  Calls Tryz.prog 184 #[.float .f64 a,.float .f64 b,.bool up] w fun e w'=>e = .returned (.float .f64 s) /\ Dr w w':=by
 have o1:=ord0_not a fa (by omega)
 have o2:=ord0_not b fb (by omega)
 have HE:=Hd he
 have HS:=Hd hs
 clear he hs a0 b0
 go_enter Tryz.func184,Tryz.ntmps184
 go_wp2_with fail
 refine (finite_yes a _ ha fa).mono ?_
 rintro e w' ⟨rfl,rfl⟩
 go_wp2_with fail
 refine (finite_yes b _ hb fb).mono ?_
 rintro e w' ⟨rfl,rfl⟩
 go_wp2_with fail
 refine (HE.out _).mono ?_
 rintro e w' ⟨rfl,rfl⟩
 go_wp2_with fail
 refine (HS.out _).mono ?_
 rintro e w' ⟨rfl,hd⟩
 have HD:=Hd hd
 clear hd
 go_wp2
 go_ret
 exact ⟨rfl,HD.out⟩
theorem mul_fine (a b : Nat) (up : Bool) (w : World) (ha : a < 2 * Fl.W) (hb : b < 2 * Fl.W) (fa : Fl.rg a < Fl.I) (fb : Fl.rg b < Fl.I) (a0 : 0 < Fl.rg a) (b0 : 0 < Fl.rg b) :
  Calls Tryz.prog 184 #[.float .f64 a,.float .f64 b,.bool up] w fun e w'=>e = .returned (.float .f64 (Fl.mulF a b up)) /\ Dr w w':=by
 obtain ⟨q,off,e1,e2,e3,e4,e5,e6,e7⟩:=Fl.mul_scaled a b a0 b0
 have r1:=Fl.nE_range (Fl.rg a) a0 fa
 have r2:=Fl.nE_range (Fl.rg b) b0 fb
 have hnl:=nearM_lt a b
 obtain ⟨g0,g1,g2⟩:=Fl.mM_log2 a b a0 b0
 have hP : Fl.pM a b - (Fl.fri a + Fl.fri b) = -106:=by unfold Fl.pM Fl.fri; omega
 have hs : ∀ w,Calls Tryz.prog 188 #[.float .f64 (Fl.nearM a b),.float .f64 q,.float .f64 off,.int .i64 (Fl.fri a + Fl.fri b),.bool up] w fun e w'=>e = .returned (.float .f64 (Fl.mulF a b up)) /\ Dr w w':=by
  intro w
  unfold Fl.mulF
  by_cases hI : Fl.rg (Fl.nearM a b) = Fl.I
  ·rw [if_pos hI]
   exact settle_great _ _ _ _ _ w hnl hI
  ·rw [if_neg hI]
   have hle:=nearM_rg a b
   refine (settle_side (Fl.nearM a b) q off (Fl.fri a + Fl.fri b) up w (Fl.sg a ^^ Fl.sg b) (Fl.mM a b) (Fl.pM a b) g0 (by unfold Fl.fri; omega) (by unfold Fl.fri; omega) rfl (by omega) (by rw [hP]; exact e2) e4 e5 (by omega) (by omega) (by rw [hP]; exact e7)).mono ?_
   rintro e w' ⟨h1,h2⟩
   exact ⟨h1,h2 ▸ Dr.refl _⟩
 exact mul_go a b (Fl.nearM a b) q off (Fl.ng q) up w ha hb fa fb a0 b0 (fun _ _ _=>True) (Fl.frx a) (Fl.frx b) (Fl.fri a) (Fl.fri b) (by unfold Fl.fri; omega) (by unfold Fl.fri; omega) (by unfold Fl.fri; omega) (by unfold Fl.fri; omega)
  (fun w=>even_fin a b w ha hb fa fb a0 b0) (fun w=>run_float_arith w .mul _ .f64 _ _ _ (Fl.mul_near a b fa fb a0 b0)) (fun w=>run_float_arith w .mul _ .f64 _ _ _ e1) (fun w=>run_neg q e3 w) (fun w=>run_fma _ _ _ _ e6 w) _ hs
theorem mul_any (a b : Nat) (up : Bool) (w : World) (ha : a < 2 * Fl.W) (hb : b < 2 * Fl.W) : Calls Tryz.prog 184 #[.float .f64 a,.float .f64 b,.bool up] w (FlPost (Fl.mulS a b up) w):=by
 unfold Fl.mulS
 by_cases h : Fl.rg a < Fl.I /\ Fl.rg b < Fl.I
 ·by_cases h0 : 0 < Fl.rg a /\ 0 < Fl.rg b
  ·rw [if_pos ⟨h.1,h.2,h0.1,h0.2⟩]
   exact (mul_fine a b up w ha hb h.1 h.2 h0.1 h0.2).mono fun e w' ⟨h1,h2⟩=>⟨_,h1,rfl,h2⟩
  ·rw [if_neg (fun hh=>h0 ⟨hh.2.2.1,hh.2.2.2⟩)]
   have hr:=Fl.mul_fin a b h.1 h.2
   rw [hr]
   exact (mul_zero a b _ up w ha hb h.1 h.2 h0 hr).mono fun e w' ⟨h1,h2⟩=>⟨_,h1,rfl,h2 ▸ Dr.refl w⟩
 ·rw [if_neg (fun hh=>h ⟨hh.1,hh.2.1⟩)]
  exact mul_not a b up w ha hb h
end
end Go.Proofs.YtnpanpkahbcecaaGreatDoor

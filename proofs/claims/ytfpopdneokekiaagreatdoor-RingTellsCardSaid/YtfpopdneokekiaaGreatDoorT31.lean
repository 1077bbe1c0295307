/-
Walk: rosetteref11.Bound; both bounds are the same; the sizes' floats.
-/
import Derived.Test.YtfpopdneokekiaaGreatDoorT29
import Derived.Test.YtfpopdneokekiaaGreatDoorT30
import Derived.Lib.Hide
set_option linter.unusedVariables false
set_option linter.unusedSimpArgs false
namespace Go.Proofs.YtfpopdneokekiaaGreatDoor
section
open Go.RowKit
open Fl
def Sz (r : Nat) : Prop:=r <= 5512405943901487104
theorem Sz.facts {r : Nat} (h : Sz r) : r < 2 * W /\ rg r = r /\ sg r = false /\ Pos r /\ key r = r:=by
 unfold Sz at h
 have hI : r < I:=by unfold I; omega
 have hW : r < W:=Nat.lt_trans hI I_lt_W
 have h1 : rg r = r:=Nat.mod_eq_of_lt hW
 have h2 : sg r = false:=by unfold sg; rw [Nat.div_eq_of_lt hW]; rfl
 have h3 : key r = r:=key_pos r hW
 exact ⟨by omega,h1,h2,⟨by rw [h1]; exact hI,by rw [h3]; omega⟩,h3⟩
theorem Sz.may {r : Nat} (h : Sz r) : badB r = false /\ overB r = false:=by
 obtain ⟨_,h1,h2,h3,_⟩:=h.facts
 unfold badB overB
 rw [h1,h2]
 unfold Sz at h
 constructor
 ·rw [decide_eq_false (by unfold I; omega)]; rfl
 ·rw [decide_eq_false (by omega)]; rfl
theorem may_turn {k : Nat} {x : Nat} (hk : k <= 14) (h : Sz x) : mayV (k : Int) 1 (fun _=>x) = 0:=by
 unfold mayV
 rw [if_neg (by omega),any_no (fun _ _=>h.may.1),any_no (fun _ _=>h.may.2)]; rfl
theorem may_ring {k : Nat} {x y : Nat} (hk : k <= 14) (h : Sz x) (h' : Sz y) : mayV (k : Int) 2 (z2 x y) = 0:=by
 unfold mayV
 rw [if_neg (by omega),any_no (fun j _=>by unfold z2; split; exact h.may.1; exact h'.may.1),any_no (fun j _=>by unfold z2; split; exact h.may.2; exact h'.may.2)]; rfl
def TurnIs (k x s : Nat) : Prop:=∃ u,Is (mulS (tC k) x true) u /\ Is (addS u 103582791429521408 true) s
def RingIs (k a b s : Nat) : Prop:=∃ u1 u2 u3,Is (mulS (rC k) (rS k) true) u1 /\ Is (mulS u1 a true) u2 /\ Is (mulS u2 b true) u3 /\ Is (addS u3 103582791429521408 true) s
def big : Nat:=5512405943901487104
theorem big_sz : Sz big:=Nat.le_refl _
def T1 : Nat:=(mulS (tC 14) big true).getD 0
def T2 : Nat:=(addS T1 103582791429521408 true).getD 0
def R1 : Nat:=(mulS (rC 14) (rS 14) true).getD 0
def R2 : Nat:=(mulS R1 big true).getD 0
def R3 : Nat:=(mulS R2 big true).getD 0
def R4 : Nat:=(addS R3 103582791429521408 true).getD 0
theorem top_t : mulS (tC 14) big true = some T1 /\ addS T1 103582791429521408 true = some T2 /\ T1 < 2 * W /\ rg T1 < I /\ 0 <= key T1 /\ rg T1 + B < I /\ rg T2 + B < I:=by decide +kernel
theorem top_r : mulS (rC 14) (rS 14) true = some R1 /\ mulS R1 big true = some R2 /\ mulS R2 big true = some R3 /\ addS R3 103582791429521408 true = some R4 /\ rg R1 < I /\ 0 <= key R1 /\ rg R2 < I /\ 0 <= key R2 /\ R3 < 2 * W /\ 0 <= key R3 /\ rg R3 + B < I /\ rg R4 + B < I:=by decide +kernel
theorem fac_up : ∀ k : Fin 15,rg (tC k.val) < I /\ 0 <= key (tC k.val) /\ key (tC k.val) <= key (tC 14) /\ tC k.val < 2 * W /\ rg (rC k.val) < I /\ 0 <= key (rC k.val) /\ key (rC k.val) <= key (rC 14) /\ rg (rS k.val) < I /\ 0 <= key (rS k.val) /\ key (rS k.val) <= key (rS 14) /\ rC k.val < 2 * W /\ rS k.val < 2 * W:=by decide +kernel
theorem fac_at (k : Nat) (hk : k <= 14) : rg (tC k) < I /\ 0 <= key (tC k) /\ key (tC k) <= key (tC 14) /\ tC k < 2 * W /\ rg (rC k) < I /\ 0 <= key (rC k) /\ key (rC k) <= key (rC 14) /\ rg (rS k) < I /\ 0 <= key (rS k) /\ key (rS k) <= key (rS 14) /\ rC k < 2 * W /\ rS k < 2 * W:=fac_up ⟨k,by omega⟩
theorem le_big {x : Nat} (h : Sz x) : key x <= key big:=by
 rw [h.facts.2.2.2.2,big_sz.facts.2.2.2.2]; unfold Sz at h; unfold big; omega
theorem room_of {s S : Nat} (h : Pos s) (hk : key s <= key S) (hS : rg S + B < I) : rg s + B < I:=by
 have h1:=key_pos_rg h.2
 rw [h1] at hk
 have h2 : key S <= rg S:=by unfold key; split <;> omega
 omega
theorem mul_pos {k x u : Nat} (hk : k <= 14) (hx : Sz x) (h1 : Is (mulS (tC k) x true) u) : u < 2 * W /\ Pos u /\ key u <= key T1:=by
 obtain ⟨t1,t2,t3,t4,t5,t6,t7⟩:=top_t
 obtain ⟨f1,f2,f3,f4,_⟩:=fac_at k hk
 obtain ⟨g1,g2,_⟩:=fac_at 14 (by omega)
 have h3:=step_pos ⟨f1,f2⟩ hx.facts.2.2.2.1 h1 ⟨g1,g2⟩ big_sz.facts.2.2.2.1 t1 t4 f3 (le_big hx)
 exact ⟨Fl.Is_lt_mul2 f4 hx.facts.1 h1,h3⟩
theorem ring_chain {k a b u1 u2 u3 : Nat} (hk : k <= 14) (ha : Sz a) (hb : Sz b) (h1 : Is (mulS (rC k) (rS k) true) u1) (h2 : Is (mulS u1 a true) u2) (h3 : Is (mulS u2 b true) u3) :
  Pos u1 /\ Pos u2 /\ Pos u3 /\ u3 < 2 * W /\ key u3 <= key R3:=by
 obtain ⟨t1,t2,t3,t4,t5,t6,t7,t8,t9,t10,t11,t12⟩:=top_r
 obtain ⟨_,_,_,_,f1,f2,f3,f4,f5,f6,f7,f8⟩:=fac_at k hk
 obtain ⟨_,_,_,_,g1,g2,_,g4,g5,_⟩:=fac_at 14 (by omega)
 have s1:=step_pos ⟨f1,f2⟩ ⟨f4,f5⟩ h1 ⟨g1,g2⟩ ⟨g4,g5⟩ t1 t5 f3 f6
 have s2:=step_pos s1.1 ha.facts.2.2.2.1 h2 ⟨t5,t6⟩ big_sz.facts.2.2.2.1 t2 t7 s1.2 (le_big ha)
 have s3:=step_pos s2.1 hb.facts.2.2.2.1 h3 ⟨t7,t8⟩ big_sz.facts.2.2.2.1 t3 (by omega) s2.2 (le_big hb)
 exact ⟨s1.1,s2.1,s3.1,Fl.Is_lt_mul2 (Fl.Is_lt_mul2 (Fl.Is_lt_mul2 f7 f8 h1) ha.facts.1 h2) hb.facts.1 h3,s3.2⟩
theorem RingIs.fin {k a b s : Nat} (hk : k <= 14) (ha : Sz a) (hb : Sz b) (h : RingIs k a b s) : Pos s /\ rg s + B < I /\ key 103582791429521408 <= key s:=by
 obtain ⟨u1,u2,u3,h1,h2,h3,h4⟩:=h
 obtain ⟨t1,t2,t3,t4,t5,t6,t7,t8,t9,t10,t11,t12⟩:=top_r
 obtain ⟨_,_,p3,w3,k3⟩:=ring_chain hk ha hb h1 h2 h3
 have h5:=last_fin w3 t9 p3 ⟨by omega,t10⟩ h4 t4 (by omega) k3
 exact ⟨h5.1,room_of h5.1 h5.2 t12,last_ge w3 p3 h4⟩
end
section
namespace Fl
theorem UpW.key {X k : Nat} (h : UpW X k) : rg k <= I /\ sg k = false /\ rg k = k /\ Fl.key k = (k : Int):=by
 obtain ⟨q,hk,_,_⟩:=h
 have hkI : k <= I:=by rw [hk]; exact Nat.min_le_right _ _
 have hW : k < W:=Nat.lt_of_le_of_lt hkI I_lt_W
 have hr : rg k = k:=Nat.mod_eq_of_lt hW
 have hs : sg k = false:=by
  have e : sg k = (k / W % 2 == 1):=rfl
  rw [e,Nat.div_eq_of_lt hW]; rfl
 refine ⟨by rw [hr]; exact hkI,hs,hr,?_⟩
 rw [key_of,hs,hr]; rfl
theorem UpW.dir {X k : Nat} (h : UpW X k) : DirW true (X : Int) E k:=by
 obtain ⟨h1,h2,h3,h4⟩:=h.key
 obtain ⟨q,hk,ha,hb⟩:=h
 have hE : E = 1074:=E_eq
 rw [<- hE] at ha hb
 clear hE
 have cast : ∀ a n : Nat,((a * 2 ^ n : Nat) : Int) = (a : Int) * 2 ^ n:=fun a n=>by rw [Int.natCast_mul,Int.natCast_pow]; rfl
 refine ⟨h1,q,?_,?_⟩
 ·unfold Dir
  rw [if_pos rfl]
  have e1 : V (q : Int) * 2 ^ E = ((rv q * 2 ^ E : Nat) : Int):=by
   rw [show V (q : Int) = (rv q : Int) from V_sgz false q,cast]
  refine ⟨by rw [e1]; exact Int.ofNat_le.2 ha,?_⟩
  rcases Nat.eq_zero_or_pos q with h0 | h0
  ·subst h0
   have e2 : V (((0 : Nat) : Int) - 1) = -1:=by decide
   rw [e2]
   have:=pow_pos_int E
   generalize (2 : Int) ^ E = T at *
   omega
  ·have e2 : V ((q : Int) - 1) * 2 ^ E = ((rv (q - 1) * 2 ^ E : Nat) : Int):=by
    rw [show ((q : Int) - 1) = ((q - 1 : Nat) : Int) by omega,show V ((q - 1 : Nat) : Int) = (rv (q - 1) : Int) from V_sgz false (q - 1),cast]
   rw [e2]
   exact Int.ofNat_lt.2 (hb h0)
 ·rw [h4,hk]
  unfold clamp
  rw [if_pos rfl]
  have hI:=I_pos
  generalize I = i at *
  omega
end Fl
end
section
open Go.RowKit
theorem part_t : ∀ k : Fin 15,(k.val ≠ 0 -> Fl.scl (floatOfInt .f64 (8 * (k.val : Int))) ((k.val : Int) - 53) = tC k.val) /\ floatOfInt .f64 (8 * (k.val : Int)) < 2 * Fl.W /\ Fl.rg (floatOfInt .f64 (8 * (k.val : Int))) < Fl.I /\ (k.val ≠ 0 -> 0 < Fl.rg (floatOfInt .f64 (8 * (k.val : Int)))) /\ (k.val = 0 -> floatOfInt .f64 (8 * (k.val : Int)) = 0 /\ tC k.val = 0):=by decide +kernel
theorem part_r : ∀ k : Fin 15,Fl.scl (floatOfInt .f64 (16 * ((k.val : Int) + 1))) ((k.val : Int) - 53) = rC k.val /\ floatOfInt .f64 (16 * ((k.val : Int) + 1)) < 2 * Fl.W /\ Fl.rg (floatOfInt .f64 (16 * ((k.val : Int) + 1))) < Fl.I /\ 0 < Fl.rg (floatOfInt .f64 (16 * ((k.val : Int) + 1))):=by decide +kernel
def hA (k : Nat) : Nat:=Fl.scl 4607182418800017408 ((k / 2 : Nat) : Int)
def hB (k : Nat) : Nat:=(Ieee.double.mul (hA k) 4843235051468438477).getD 0
theorem root_v : ∀ k : Fin 15,(k.val % 2 = 0 -> hA k.val = rS k.val) /\ (k.val % 2 = 1 -> Ieee.double.mul (hA k.val) 4843235051468438477 = some (hB k.val) /\ Ieee.double.div (hB k.val) 4841369599423283200 = some (rS k.val)):=by decide +kernel
theorem rpart_any (n k : Int) (x : Nat) (w : World) (hn1 : 0 <= n) (hn2 : n <= 1000) (hk1 : 0 <= k) (hk2 : k <= 14)
  (hl : ∀ w,Calls Tryz.prog 57 #[.float .f64 (floatOfInt .f64 n),.int .i64 (k - 53)] w fun e w'=>e = .returned (.float .f64 x) /\ w = w') :
  Calls Tryz.prog 86 #[.int .i64 n,.int .i64 k] w fun e w'=>e = .returned (.float .f64 x) /\ w = w':=by
 have HL:=Hd hl
 have hw : IntKind.i64.wrap (k - 53) = k - 53:=by rw [IntKind.wrap_i64]; omega
 clear hl
 go_enter Tryz.func86,Tryz.ntmps86
 go_wp2_with fail
 refine (HL.out _).mono ?_
 rintro e w' ⟨rfl,rfl⟩
 go_wp2
 go_ret
 exact ⟨rfl,rfl⟩
theorem rroot_any (k : Nat) (w : World) (hk : k <= 14) : Calls Tryz.prog 87 #[.int .i64 k] w fun e w'=>e = .returned (.float .f64 (rS k)) /\ w = w':=by
 obtain ⟨g1,g2⟩:=root_v ⟨k,by omega⟩
 have HL : Hid (∀ w,Calls Tryz.prog 57 #[.float .f64 4607182418800017408,.int .i64 ((k : Int) / 2)] w fun e w'=>e = .returned (.float .f64 (hA k)) /\ w = w'):=Hd (fun w=>by
  have h:=ldexp_fin 4607182418800017408 ((k / 2 : Nat) : Int) w (by decide) (by decide) (by decide) (by omega) (by omega)
  rw [show ((k : Int) / 2) = ((k / 2 : Nat) : Int) by omega]
  exact h)
 by_cases h2 : k % 2 = 0
 ·have e:=g1 h2
  have HE:=Hd e
  have hm : (k : Int) % 2 = 0:=by omega
  clear g1 g2 e
  go_enter Tryz.func87,Tryz.ntmps87
  go_wp2_with fail
  refine (HL.out _).mono ?_
  rintro e w' ⟨rfl,rfl⟩
  go_wp2
  go_ret
  exact ⟨by rw [<- HE.out]; rfl,rfl⟩
 ·obtain ⟨e1,e2⟩:=g2 (by show k % 2 = 1; omega)
  have r1:=fun w=>run_float_arith (P:=Tryz.prog) w .mul 32 .f64 (hA k) 4843235051468438477 _ e1
  have r2:=fun w=>run_float_arith (P:=Tryz.prog) w .quo 32 .f64 (hB k) 4841369599423283200 _ e2
  have hm : ¬ (k : Int) % 2 = 0:=by omega
  clear g1 g2 e1 e2
  go_enter Tryz.func87,Tryz.ntmps87
  go_wp2_with fail
  refine (HL.out _).mono ?_
  rintro e w' ⟨rfl,rfl⟩
  go_wp2
  go_ret
  exact ⟨rfl,rfl⟩
end
section
open Go.RowKit
open Fl
theorem key_eq {n : Int} {d x y : Nat} (h1 : DirW true n d x) (h2 : DirW true n d y) : key x = key y :=
 Int.le_antisymm (h1.grow h2 (Int.le_refl _)) (h2.grow h1 (Int.le_refl _))
theorem vl_pos9 {x : Nat} (h : 0 <= key x) : vl x = (rv (rg x) : Int):=by
 rw [vl_key,key_pos_rg h]; exact V_sgz false (rg x)
theorem word_eq9 {s k : Nat} (ws : s < 2 * W) (hk : k < W) (hs : 0 < key s) (h : key s = key k) : s = k:=by
 have hkk : key k = (k : Int):=key_pos k hk
 have h1:=key_pos_rg (Int.le_of_lt hs)
 have hsg : sg s = false:=by
  cases hh : sg s
  ·rfl
  ·exfalso
   rw [key_of,hh] at hs
   unfold sgz at hs; simp at hs; omega
 have hwd:=wd_sg_rg s ws
 rw [hsg] at hwd
 have : rg s = k:=by omega
 rw [this] at hwd
 rw [<- hwd]; rfl
def most : Nat:=8660422083433463808
def least : Nat:=103582791429521408
theorem least9 : Pos least /\ least < 2 * W /\ rg least = least /\ 0 < key least:=by unfold Pos; decide
def M1 : Nat:=(mulS (tC 14) most true).getD 0
theorem most_t : mulS (tC 14) most true = some M1 /\ rg M1 < I /\ 0 <= key M1:=by decide +kernel
def N1 : Nat:=(mulS (rC 14) (rS 14) true).getD 0
def N2m : Nat:=(mulS N1 most true).getD 0
theorem most_r : mulS (rC 14) (rS 14) true = some N1 /\ mulS N1 most true = some N2m /\ rg N1 < I /\ 0 <= key N1 /\ rg N2m < I /\ 0 <= key N2m:=by decide +kernel
theorem most9 : Pos most:=by unfold Pos; decide
def Ok9 (x : Nat) : Prop:=x < 2 * W /\ Pos x /\ key x <= key most
theorem mul_join {x y y' u k : Nat} (hx : Pos x) (hy : Pos y) (hk : key x = key y') (hk0 : 0 <= key y') (h : Is (mulS x y true) u) (h' : UpW (rv (rg y') * rv (rg y)) k) : key u = key k:=by
 have d1:=mul_dir hx hy h
 have d2:=h'.dir
 have e : ((rv (rg y') * rv (rg y) : Nat) : Int) = vl x * vl y:=by
  rw [Int.natCast_mul,<- vl_pos9 hk0,<- vl_pos9 hy.2,vl_key y',<- hk,<- vl_key x]
 rw [e] at d2
 exact key_eq d1 d2
theorem add_join {x y k s : Nat} (wx : x < 2 * W) (hx : Pos x) (hk : key x = key y) (hk0 : 0 <= key y) (h : Is (addS x least true) s) (h' : UpW ((rv (rg y) + rv (rg least)) * 2 ^ 1074) k) : key s = key k:=by
 have d1:=add_dir wx least9.2.1 hx least9.1 h
 have d2:=h'.dir
 have hE : E = 1074:=E_eq
 have e : (((rv (rg y) + rv (rg least)) * 2 ^ 1074 : Nat) : Int) = (vl x + vl least) * 2 ^ E:=by
  rw [<- hE,Int.natCast_mul,Int.natCast_pow,Int.natCast_add,<- vl_pos9 hk0,<- vl_pos9 least9.1.2,vl_key y,<- hk,<- vl_key x]; rfl
 rw [e] at d2
 exact key_eq (d1.scale _ E E 0 (by rw [Int.pow_zero,Int.mul_one]) (by omega)) d2
theorem up_word {X k : Nat} (h : UpW X k) : k < W /\ k < 2 * W /\ 0 <= key k /\ rg k = k:=by
 obtain ⟨h1,h2,h3,h4⟩:=h.key
 have hIW:=I_lt_W
 rw [h3] at h1
 exact ⟨by omega,by omega,by rw [h4]; omega,h3⟩
theorem last_join {u k1 k2 s : Nat} {X : Nat} (wu : u < 2 * W) (hu : Pos u) (hk : key u = key k1) (hk0 : 0 <= key k1) (h : Is (addS u least true) s) (ws : s < 2 * W) (h' : UpW ((rv (rg k1) + rv (rg least)) * 2 ^ 1074) k2) : s = k2:=by
 have h1:=add_join wu hu hk hk0 h h'
 obtain ⟨g1,g2,g3,g4⟩:=up_word h'
 have h3:=last_ge wu hu h
 have h4 : 0 < key s:=Int.lt_of_lt_of_le least9.2.2.2 h3
 exact word_eq9 ws g1 h4 h1
theorem turn_join {k x s k1 : Nat} (hk : k <= 14) (hx : Ok9 x) (h : TurnIs k x s) (h1 : UpW (rv (rg (tC k)) * rv (rg x)) k1) : k1 < I /\ ∀ k2,UpW ((rv (rg k1) + rv (rg least)) * 2 ^ 1074) k2 -> s = k2:=by
 obtain ⟨u,e1,e2⟩:=h
 obtain ⟨f1,f2,f3,f4,_⟩:=fac_at k hk
 obtain ⟨g1,g2,_⟩:=fac_at 14 (by omega)
 obtain ⟨t1,t2,t3⟩:=most_t
 have s1:=step_pos ⟨f1,f2⟩ hx.2.1 e1 ⟨g1,g2⟩ most9 t1 t2 f3 hx.2.2
 have wu:=Is_lt_mul2 f4 hx.1 e1
 have hj:=mul_join ⟨f1,f2⟩ hx.2.1 rfl f2 e1 h1
 obtain ⟨p1,p2,p3,p4⟩:=up_word h1
 refine ⟨?_,fun k2 h2=>last_join (X:=0) wu s1.1 hj p3 e2 (Is_add_lt2 wu least9.2.1 e2) h2⟩
 have hh:=fin_of_le (x:=k1) (y:=M1) (by rw [p4]; have:=h1.key.1; rw [p4] at this; exact this) (by rw [<- hj]; exact s1.2) p3 t2
 rw [p4] at hh; exact hh
theorem ring_join {k a b u1 u2 u3 k1 : Nat} (hk : k <= 14) (ha : Ok9 a) (hb : Ok9 b) (e1 : Is (mulS (rC k) (rS k) true) u1) (e2 : Is (mulS u1 a true) u2) (e3 : Is (mulS u2 b true) u3)
  (h1 : UpW (rv (rg (rC k)) * rv (rg (rS k))) k1) :
  k1 < I /\ ∀ k2,UpW (rv (rg k1) * rv (rg a)) k2 -> k2 < I /\ ∀ k3,UpW (rv (rg k2) * rv (rg b)) k3 -> key u3 = key k3 /\ u3 < 2 * W:=by
 obtain ⟨_,_,_,_,f1,f2,f3,f4,f5,f6,f7,f8⟩:=fac_at k hk
 obtain ⟨_,_,_,_,g1,g2,_,g4,g5,_⟩:=fac_at 14 (by omega)
 obtain ⟨t1,t2,t3,t4,t5,t6⟩:=most_r
 have s1:=step_pos ⟨f1,f2⟩ ⟨f4,f5⟩ e1 ⟨g1,g2⟩ ⟨g4,g5⟩ t1 t3 f3 f6
 have s2:=step_pos s1.1 ha.2.1 e2 ⟨t3,t4⟩ most9 t2 t5 s1.2 ha.2.2
 have w3:=Is_lt_mul2 (Is_lt_mul2 (Is_lt_mul2 f7 f8 e1) ha.1 e2) hb.1 e3
 have j1:=mul_join ⟨f1,f2⟩ ⟨f4,f5⟩ rfl f2 e1 h1
 obtain ⟨p1,p2,p3,p4⟩:=up_word h1
 refine ⟨?_,fun k2 h2=>?_⟩
 ·have hh:=fin_of_le (x:=k1) (y:=N1) h1.key.1 (by rw [<- j1]; exact s1.2) p3 t3
  rw [p4] at hh; exact hh
 ·have j2:=mul_join s1.1 ha.2.1 j1 p3 e2 h2
  obtain ⟨q1,q2,q3,q4⟩:=up_word h2
  refine ⟨?_,fun k3 h3=>⟨mul_join s2.1 hb.2.1 j2 q3 e3 h3,w3⟩⟩
  have hh:=fin_of_le (x:=k2) (y:=N2m) h2.key.1 (by rw [<- j2]; exact s2.2) q3 t5
  rw [q4] at hh; exact hh
end
section
open Go.RowKit
theorem rorder_any (k : Int) (w : World) : Calls Tryz.prog 83 #[.int .i64 k] w fun e w'=>e = .returned (.bool (decide (0 <= k /\ k <= 14))) /\ w = w':=by
 obtain ⟨T,hT⟩ : ∃ T,T = decide (0 <= k /\ k <= 14):=⟨_,rfl⟩
 rw [<- hT]
 have HT:=Hd hT
 clear hT
 by_cases h1 : 0 <= k
 ·by_cases h2 : k <= 14
  ·have HE : Hid (T = true):=Hd (by rw [HT.out]; exact decide_eq_true ⟨h1,h2⟩)
   go_enter Tryz.func83,Tryz.ntmps83
   go_wp2
   go_ret
   exact ⟨by rw [HE.out]; rfl,rfl⟩
  ·have HE : Hid (T = false):=Hd (by rw [HT.out]; exact decide_eq_false (fun h=>h2 h.2))
   go_enter Tryz.func83,Tryz.ntmps83
   go_wp2
   go_ret
   exact ⟨by rw [HE.out]; rfl,rfl⟩
 ·have HE : Hid (T = false):=Hd (by rw [HT.out]; exact decide_eq_false (fun h=>h1 h.1))
  go_enter Tryz.func83,Tryz.ntmps83
  go_wp2
  go_ret
  exact ⟨by rw [HE.out]; rfl,rfl⟩
theorem rsize_any (x : Nat) (w : World) (hx : x < 2 * Fl.W) : Calls Tryz.prog 84 #[.float .f64 x] w (BPost (!badB x) w):=by
 by_cases hf : Fl.rg x < Fl.I
 ·have r1:=fun w=>run_float_arith (P:=Tryz.prog) w .sub 32 .f64 x x 0 (Fl.sub_self_fin x hx hf)
  have o1 : FloatKind.f64.format.order 0 0 = some .eq:=by decide
  have h0:=Fl.ord0 x (Nat.le_of_lt hf)
  rw [Fl.compare_int] at h0
  have hd : decide (Fl.I <= Fl.rg x) = false:=decide_eq_false (by omega)
  by_cases hb : (Fl.sg x && decide (0 < Fl.rg x)) = true
  ·have HE : Hid ((!badB x) = false):=Hd (by unfold badB; rw [hd,hb]; rfl)
   have hk : Fl.key x < 0:=by
    rw [Bool.and_eq_true,decide_eq_true_eq] at hb
    rw [Fl.key_of,hb.1]; unfold Fl.sgz; simp; omega
   rw [if_pos hk] at h0
   clear hd hb hk hf
   go_enter Tryz.func84,Tryz.ntmps84
   go_wp2
   go_ret
   exact ⟨by rw [HE.out]; rfl,Dr.refl _⟩
  ·have HE : Hid ((!badB x) = true):=Hd (by unfold badB; rw [hd,Bool.not_eq_true] at *; rw [hb]; rfl)
   have hk : ¬ Fl.key x < 0:=by
    intro hk
    apply hb
    rw [Fl.key_of] at hk
    unfold Fl.sgz at hk
    cases hs : Fl.sg x
    ·rw [hs] at hk; simp at hk; omega
    ·rw [hs] at hk; simp at hk; simp; omega
   rw [if_neg hk] at h0
   have h01 : FloatKind.f64.format.order x 0 = some .eq \/ FloatKind.f64.format.order x 0 = some .gt:=by
    rw [h0]; split
    ·exact .inl rfl
    ·exact .inr rfl
   clear hd hb hk hf h0
   rcases h01 with h0 | h0
   all_goals
    go_enter Tryz.func84,Tryz.ntmps84
    go_wp2
    go_ret
    exact ⟨by rw [HE.out]; rfl,Dr.refl _⟩
 ·have HE : Hid ((!badB x) = false):=Hd (by unfold badB; rw [decide_eq_true (by omega)]; rfl)
  obtain ⟨s,w1,hr,hs,hw1⟩:=run_float_any .sub 32 x x w (by simp)
  have hs1 : Fl.Is none s:=by rw [<- Fl.sub_self_not x hf]; exact hs
  have ho:=nan_order s hs1.1
  have HD : Hid (Dr w w1):=by rcases hw1 with rfl | rfl; exact Dr.refl _; exact Dr.drew _
  clear hs hs1 hw1 hf
  go_enter Tryz.func84,Tryz.ntmps84
  go_wp2
  go_ret
  exact ⟨by rw [HE.out]; rfl,HD.out⟩
end
section
open Go.RowKit
theorem ok_of_may {x : Nat} (hx : x < 2 * Fl.W) (h1 : badB x = false) (h2 : overB x = false) : Ok9 x:=by
 unfold badB at h1
 simp only [Bool.or_eq_false_iff,decide_eq_false_iff_not,Nat.not_le,Bool.and_eq_false_iff,Nat.not_lt] at h1
 obtain ⟨g1,g2⟩:=h1
 have hk : 0 <= Fl.key x:=by
  rw [Fl.key_of]; unfold Fl.sgz
  cases hs : Fl.sg x
  ·simp
  ·rw [hs] at g2; simp at g2; simp; omega
 refine ⟨hx,⟨g1,hk⟩,?_⟩
 have e : Fl.key most = 8660422083433463808:=by decide
 rw [e]
 unfold overB at h2
 rw [Fl.key_of]; unfold Fl.sgz
 cases hs : Fl.sg x
 ·rw [hs] at h2; simp at h2; simp; omega
 ·simp <;> omega
theorem least_any (w : World) : Calls Tryz.prog 57 #[.float .f64 4607182418800017408,.int .i64 (-1000)] w fun e w'=>e = .returned (.float .f64 least) /\ w = w':=by
 have h:=ldexp_fin 4607182418800017408 (-1000) w (by decide) (by decide) (by decide) (by decide) (by decide)
 rw [show Fl.scl 4607182418800017408 (-1000) = least by decide +kernel] at h
 exact h
theorem most_any (w : World) : Calls Tryz.prog 57 #[.float .f64 4607182418800017408,.int .i64 900] w fun e w'=>e = .returned (.float .f64 8660422083433463808) /\ w = w':=by
 have h:=ldexp_fin 4607182418800017408 900 w (by decide) (by decide) (by decide) (by decide) (by decide)
 rw [show Fl.scl 4607182418800017408 900 = 8660422083433463808 by decide +kernel] at h
 exact h
theorem rpart_t (k : Nat) (hk : k <= 14) (w : World) : Calls Tryz.prog 86 #[.int .i64 (8 * (k : Int)),.int .i64 k] w fun e w'=>e = .returned (.float .f64 (tC k)) /\ w = w':=by
 obtain ⟨g1,g2,g3,g4,g5⟩:=part_t ⟨k,by omega⟩
 refine rpart_any (8 * (k : Int)) k (tC k) w (by omega) (by omega) (by omega) (by omega) (fun w=>?_)
 by_cases h0 : k = 0
 ·obtain ⟨z1,z2⟩:=g5 h0
  have h:=ldexp_zero (floatOfInt .f64 (8 * (k : Int))) ((k : Int) - 53) w (by rw [z1]; decide)
  refine h.mono fun e w' ⟨h1,h2⟩=>⟨?_,h2⟩
  have z3 : tC k = 0:=z2
  rw [h1,z1,z3]
 ·have h:=ldexp_fin (floatOfInt .f64 (8 * (k : Int))) ((k : Int) - 53) w g2 (g4 h0) g3 (by omega) (by omega)
  have z3 : Fl.scl (floatOfInt .f64 (8 * (k : Int))) ((k : Int) - 53) = tC k:=g1 h0
  rw [z3] at h
  exact h
theorem rpart_r (k : Nat) (hk : k <= 14) (w : World) : Calls Tryz.prog 86 #[.int .i64 (16 * ((k : Int) + 1)),.int .i64 k] w fun e w'=>e = .returned (.float .f64 (rC k)) /\ w = w':=by
 obtain ⟨g1,g2,g3,g4⟩:=part_r ⟨k,by omega⟩
 refine rpart_any (16 * ((k : Int) + 1)) k (rC k) w (by omega) (by omega) (by omega) (by omega) (fun w=>?_)
 have h:=ldexp_fin (floatOfInt .f64 (16 * ((k : Int) + 1))) ((k : Int) - 53) w g2 g4 g3 (by omega) (by omega)
 have z3 : Fl.scl (floatOfInt .f64 (16 * ((k : Int) + 1))) ((k : Int) - 53) = rC k:=g1
 rw [z3] at h
 exact h
end
section
open Go.RowKit
theorem may2 (order : Int) (a b : Nat) : mayV order 2 (z2 a b) = if order < 0 \/ 14 < order then 2 else if (badB a || badB b) = true then 5 else if (overB a || overB b) = true then 6 else 0:=by
 have e : ∀ p : Nat -> Bool,((List.range 2).any fun k=>p (z2 a b k)) = (p a || p b):=fun p=>by simp [List.range_succ,z2]
 unfold mayV
 rw [e badB,e overB]
theorem ring_fin {k a b k1 : Nat} (hk : k <= 14) (ha : Ok9 a) (hb : Ok9 b) (h1 : Fl.UpW (Fl.rv (Fl.rg (rC k)) * Fl.rv (Fl.rg (rS k))) k1) :
  k1 < Fl.I /\ ∀ k2,Fl.UpW (Fl.rv (Fl.rg k1) * Fl.rv (Fl.rg a)) k2 -> k2 < Fl.I:=by
 obtain ⟨_,_,_,_,f1,f2,f3,f4,f5,f6,f7,f8⟩:=fac_at k hk
 obtain ⟨u1,e1,_⟩:=Fl.mulS_dir (rC k) (rS k) true f1 f4
 obtain ⟨_,_,_,_,g1,g2,_,g4,g5,_⟩:=fac_at 14 (by omega)
 obtain ⟨t1,t2,t3,t4,t5,t6⟩:=most_r
 have i1 : Fl.Is (Fl.mulS (rC k) (rS k) true) u1:=by rw [e1]; rfl
 have s1:=Fl.step_pos ⟨f1,f2⟩ ⟨f4,f5⟩ i1 ⟨g1,g2⟩ ⟨g4,g5⟩ t1 t3 f3 f6
 obtain ⟨u2,e2,_⟩:=Fl.mulS_dir u1 a true s1.1.1 ha.2.1.1
 have i2 : Fl.Is (Fl.mulS u1 a true) u2:=by rw [e2]; rfl
 have s2:=Fl.step_pos s1.1 ha.2.1 i2 ⟨t3,t4⟩ most9 t2 t5 s1.2 ha.2.2
 obtain ⟨u3,e3,_⟩:=Fl.mulS_dir u2 b true s2.1.1 hb.2.1.1
 have i3 : Fl.Is (Fl.mulS u2 b true) u3:=by rw [e3]; rfl
 obtain ⟨h2,h3⟩:=ring_join hk ha hb i1 i2 i3 h1
 exact ⟨h2,fun k2 hk2=>(h3 k2 hk2).1⟩
def RRingM (M : Int) (order : Int) (a b : Nat) (w : World) (e : Ending) (w' : World) : Prop :=
 ∃ s T,e = .returned (.tuple #[.float .f64 s,.int .i64 T]) /\ (M ≠ 0 -> T = M /\ s = 0) /\
   (M = 0 -> ∃ k1 k2 k3 F,Fl.UpW (Fl.rv (Fl.rg (rC order.toNat)) * Fl.rv (Fl.rg (rS order.toNat))) k1 /\ Fl.UpW (Fl.rv (Fl.rg k1) * Fl.rv (Fl.rg a)) k2 /\ Fl.UpW (Fl.rv (Fl.rg k2) * Fl.rv (Fl.rg b)) k3 /\
    (k3 < Fl.I -> Fl.UpW ((Fl.rv (Fl.rg k3) + Fl.rv (Fl.rg least)) * 2 ^ 1074) F) /\ (¬ k3 < Fl.I -> F = k3) /\ ((F < Fl.I /\ T = 0 /\ s = F) \/ (¬ F < Fl.I /\ T = 6 /\ s = 0))) /\ Below w.heap.size w w'
def RRingPost (order : Int) (a b : Nat) (w : World) (e : Ending) (w' : World) : Prop:=RRingM (mayV order 2 (z2 a b)) order a b w e w'
def Chain9 (k a b k1 k2 k3 F : Nat) : Prop:=Fl.UpW (Fl.rv (Fl.rg (rC k)) * Fl.rv (Fl.rg (rS k))) k1 /\ Fl.UpW (Fl.rv (Fl.rg k1) * Fl.rv (Fl.rg a)) k2 /\ Fl.UpW (Fl.rv (Fl.rg k2) * Fl.rv (Fl.rg b)) k3 /\
   (k3 < Fl.I -> Fl.UpW ((Fl.rv (Fl.rg k3) + Fl.rv (Fl.rg least)) * 2 ^ 1074) F) /\ (¬ k3 < Fl.I -> F = k3)
theorem Chain9.last {k a b k1 k2 k3 F : Nat} (h : Chain9 k a b k1 k2 k3 F) : F < 2 * Fl.W /\ Fl.rg F = F:=by
 obtain ⟨_,_,h3,h4,h5⟩:=h
 by_cases hf : k3 < Fl.I
 ·obtain ⟨p1,p2,p3,p4⟩:=up_word (h4 hf); exact ⟨p2,p4⟩
 ·obtain ⟨p1,p2,p3,p4⟩:=up_word h3
  rw [h5 hf]; exact ⟨p2,p4⟩
set_option maxRecDepth 100000 in
set_option maxHeartbeats 4000000 in
theorem rring_any (order : Int) (a b : Nat) (w : World) (ha : a < 2 * Fl.W) (hb : b < 2 * Fl.W) : Calls Tryz.prog 44 #[.int .i64 order,.float .f64 a,.float .f64 b] w (RRingPost order a b w):=by
 have HO:=Hd (fun w=>rorder_any order w)
 have HSA:=Hd (fun w=>rsize_any a w ha)
 have HSB:=Hd (fun w=>rsize_any b w hb)
 have HMO:=Hd most_any
 have HLE:=Hd least_any
 have hpost : RRingPost order a b w = RRingM (mayV order 2 (z2 a b)) order a b w:=rfl
 rw [hpost]
 clear hpost
 obtain ⟨M,hM⟩ : ∃ M,M = mayV order 2 (z2 a b):=⟨_,rfl⟩
 rw [<- hM]
 rw [may2] at hM
 by_cases h : order < 0 \/ 14 < order
 ·rw [if_pos h] at hM
  have e : decide (0 <= order /\ order <= 14) = false:=decide_eq_false (by omega)
  rw [e] at HO
  subst hM
  clear h e
  go_enter Tryz.func44,Tryz.ntmps44
  go_wp2_with fail
  refine (HO.out _).mono ?_
  rintro r w' ⟨rfl,rfl⟩
  go_wp2
  go_ret2
  exact ⟨0,2,rfl,fun _=>⟨rfl,rfl⟩,fun h=>absurd h (by decide),Below.refl _ _⟩
 ·rw [if_neg h] at hM
  have e : decide (0 <= order /\ order <= 14) = true:=decide_eq_true (by omega)
  rw [e] at HO
  obtain ⟨k,rfl⟩ : ∃ k : Nat,order = k:=⟨order.toNat,by omega⟩
  have hk : k <= 14:=by omega
  clear h e
  cases hba : badB a
  ·rw [hba] at HSA hM
   cases hbb : badB b
   ·rw [hbb] at HSB hM
    rw [if_neg (by simp)] at hM
    have hoa:=over_ord a hba
    have hob:=over_ord b hbb
    cases hva : overB a
    ·rw [hva] at hM hoa
     cases hvb : overB b
     ·rw [hvb,if_neg (by simp)] at hM
      rw [hvb] at hob
      have oka:=ok_of_may ha hba hva
      have okb:=ok_of_may hb hbb hvb
      obtain ⟨-,-,-,-,f1,f2,-,f4,f5,-,f7,f8⟩:=fac_at k hk
      have HPA:=Hd (fun w=>rpart_r k hk w)
      have HRO:=Hd (fun w=>rroot_any k w hk)
      have HT1:=Hd (fun w=>rtimes_fin (rC k) (rS k) w f7 f8 f1 f4 f2 f5)
      have HFIN:=Hd (fun k1 (h : Fl.UpW (Fl.rv (Fl.rg (rC k)) * Fl.rv (Fl.rg (rS k))) k1)=>ring_fin hk oka okb h)
      have HA9:=Hd oka
      have HB9:=Hd okb
      have hw0 : IntKind.i64.wrap ((k : Int) + 1) = (k : Int) + 1:=by rw [IntKind.wrap_i64]; omega
      have hw8 : IntKind.i64.wrap (16 * ((k : Int) + 1)) = 16 * ((k : Int) + 1):=by rw [IntKind.wrap_i64]; omega
      subst hM
      clear hba hbb hva hvb oka okb f1 f2 f4 f5 f7 f8
      go_enter Tryz.func44,Tryz.ntmps44
      go_wp2_with fail
      refine (HO.out _).mono ?_
      rintro r w' ⟨rfl,rfl⟩
      go_wp2_with fail
      refine (HSA.out _).mono ?_
      rintro r w1 ⟨rfl,hd1⟩
      have HB1:=Hd (hd1.below2 w.heap.size)
      clear hd1
      go_wp2_with fail
      refine (HSB.out _).mono ?_
      rintro r w2 ⟨rfl,hd2⟩
      have HB2:=Hd (HB1.out.trans (hd2.below2 w.heap.size))
      clear hd2
      go_wp2_with fail
      refine (HMO.out _).mono ?_
      rintro r w' ⟨rfl,rfl⟩
      go_wp2_with fail
      refine (HMO.out _).mono ?_
      rintro r w' ⟨rfl,rfl⟩
      go_wp2_with fail
      refine (HPA.out _).mono ?_
      rintro r w' ⟨rfl,rfl⟩
      go_wp2_with fail
      refine (HRO.out _).mono ?_
      rintro r w' ⟨rfl,rfl⟩
      go_wp2_with fail
      refine (HT1.out _).mono ?_
      rintro r w3 ⟨k1,rfl,-,hu1,hb3⟩
      have HU1:=Hd hu1
      have HB3:=Hd (HB2.out.trans (hb3.mono HB2.out.size))
      obtain ⟨fi1,HF2⟩:=HFIN.out k1 hu1
      obtain ⟨p1,p2,p3,p4⟩:=up_word hu1
      have HT2:=Hd (fun w=>rtimes_fin k1 a w p2 HA9.out.1 (by rw [p4]; exact fi1) HA9.out.2.1.1 p3 HA9.out.2.1.2)
      have HF2:=Hd HF2
      clear hu1 hb3 fi1 p1 p2 p3 p4
      go_wp2_with fail
      refine (HT2.out _).mono ?_
      rintro r w4 ⟨k2,rfl,-,hu2,hb4⟩
      have HU2:=Hd hu2
      have HB4:=Hd (HB3.out.trans (hb4.mono HB3.out.size))
      have fi2:=HF2.out k2 hu2
      obtain ⟨p1,p2,p3,p4⟩:=up_word hu2
      have HT3:=Hd (fun w=>rtimes_fin k2 b w p2 HB9.out.1 (by rw [p4]; exact fi2) HB9.out.2.1.1 p3 HB9.out.2.1.2)
      clear hu2 hb4 fi2 p1 p2 p3 p4
      go_wp2_with fail
      refine (HT3.out _).mono ?_
      rintro r w5 ⟨k3,rfl,-,hu3,hb5⟩
      have HU3:=Hd hu3
      have HB5:=Hd (HB4.out.trans (hb5.mono HB4.out.size))
      clear hu3 hb5
      go_wp2_with fail
      refine (HLE.out _).mono ?_
      rintro r w' ⟨rfl,rfl⟩
      have HPL : Hid (∀ w,Calls Tryz.prog 88 #[.float .f64 k3,.float .f64 least] w fun r w'=>∃ F,r = .returned (.float .f64 F) /\ Chain9 k a b k1 k2 k3 F /\ Below w.heap.size w w'):=Hd (fun w=>by
       by_cases hf : k3 < Fl.I
       ·obtain ⟨q1,q2,q3,q4⟩:=up_word HU3.out
        refine (rplus_fin k3 least w q2 least9.2.1 (by rw [q4]; exact hf) least9.1.1 q3 least9.1.2).mono ?_
        rintro r w' ⟨F,h1,_,h2,h3⟩
        exact ⟨F,h1,⟨HU1.out,HU2.out,HU3.out,fun _=>h2,fun h=>absurd hf h⟩,h3⟩
       ·refine (rplus_inf k3 least w (by rw [(up_word HU3.out).2.2.2]; exact hf)).mono ?_
        rintro r w' ⟨h1,h3⟩
        exact ⟨k3,h1,⟨HU1.out,HU2.out,HU3.out,fun h=>absurd h hf,fun _=>rfl⟩,h3⟩)
      go_wp2_with fail
      refine (HPL.out _).mono ?_
      rintro r w6 ⟨F,rfl,hch,hb6⟩
      have HCH:=Hd hch
      have HB6:=Hd (HB5.out.trans (hb6.mono HB5.out.size))
      obtain ⟨fw,fr⟩:=hch.last
      clear hch hb6
      by_cases hfin : F < Fl.I
      ·have r1:=fun w=>run_float_arith (P:=Tryz.prog) w .sub 32 .f64 F F 0 (Fl.sub_self_fin F fw (by rw [fr]; exact hfin))
       have o1 : FloatKind.f64.format.order 0 0 = some .eq:=by decide
       have HFI:=Hd hfin
       clear hfin fw fr
       go_wp2
       go_ret2
       obtain ⟨c1,c2,c3,c4,c5⟩:=HCH.out
       exact ⟨F,0,rfl,fun h=>absurd rfl h,fun _=>⟨k1,k2,k3,F,c1,c2,c3,c4,c5,.inl ⟨HFI.out,rfl,rfl⟩⟩,HB6.out⟩
      ·obtain ⟨s,w7,hr,hs,hw7⟩:=run_float_any .sub 32 F F w6 (by simp)
       have hs1 : Fl.Is none s:=by rw [<- Fl.sub_self_not F (by rw [fr]; exact hfin)]; exact hs
       have ho:=nan_order s hs1.1
       have HD : Hid (Dr w6 w7):=by rcases hw7 with rfl | rfl; exact Dr.refl _; exact Dr.drew _
       have HFI:=Hd hfin
       have HB7:=Hd (HB6.out.trans (HD.out.below2 w.heap.size))
       clear hfin fw fr hs hs1 hw7
       go_wp2
       go_ret2
       obtain ⟨c1,c2,c3,c4,c5⟩:=HCH.out
       exact ⟨0,6,rfl,fun h=>absurd rfl h,fun _=>⟨k1,k2,k3,F,c1,c2,c3,c4,c5,.inr ⟨HFI.out,rfl,rfl⟩⟩,HB7.out⟩
     ·rw [hvb,if_pos (by simp)] at hM
      rw [hvb] at hob
      subst hM
      clear hba hbb hva hvb
      go_enter Tryz.func44,Tryz.ntmps44
      go_wp2_with fail
      refine (HO.out _).mono ?_
      rintro r w' ⟨rfl,rfl⟩
      go_wp2_with fail
      refine (HSA.out _).mono ?_
      rintro r w1 ⟨rfl,hd1⟩
      have HB1:=Hd (hd1.below2 w.heap.size)
      clear hd1
      go_wp2_with fail
      refine (HSB.out _).mono ?_
      rintro r w2 ⟨rfl,hd2⟩
      have HB2:=Hd (HB1.out.trans (hd2.below2 w.heap.size))
      clear hd2
      go_wp2_with fail
      refine (HMO.out _).mono ?_
      rintro r w' ⟨rfl,rfl⟩
      go_wp2_with fail
      refine (HMO.out _).mono ?_
      rintro r w' ⟨rfl,rfl⟩
      go_wp2
      go_ret2
      exact ⟨0,6,rfl,fun _=>⟨rfl,rfl⟩,fun h=>absurd h (by decide),HB2.out⟩
    ·rw [hva,if_pos (by simp)] at hM
     rw [hva] at hoa
     subst hM
     clear hba hbb hva hob
     go_enter Tryz.func44,Tryz.ntmps44
     go_wp2_with fail
     refine (HO.out _).mono ?_
     rintro r w' ⟨rfl,rfl⟩
     go_wp2_with fail
     refine (HSA.out _).mono ?_
     rintro r w1 ⟨rfl,hd1⟩
     have HB1:=Hd (hd1.below2 w.heap.size)
     clear hd1
     go_wp2_with fail
     refine (HSB.out _).mono ?_
     rintro r w2 ⟨rfl,hd2⟩
     have HB2:=Hd (HB1.out.trans (hd2.below2 w.heap.size))
     clear hd2
     go_wp2_with fail
     refine (HMO.out _).mono ?_
     rintro r w' ⟨rfl,rfl⟩
     go_wp2
     go_ret2
     exact ⟨0,6,rfl,fun _=>⟨rfl,rfl⟩,fun h=>absurd h (by decide),HB2.out⟩
   ·rw [hbb] at HSB hM
    rw [if_pos (by simp)] at hM
    subst hM
    clear hba hbb
    go_enter Tryz.func44,Tryz.ntmps44
    go_wp2_with fail
    refine (HO.out _).mono ?_
    rintro r w' ⟨rfl,rfl⟩
    go_wp2_with fail
    refine (HSA.out _).mono ?_
    rintro r w1 ⟨rfl,hd1⟩
    have HB1:=Hd (hd1.below2 w.heap.size)
    clear hd1
    go_wp2_with fail
    refine (HSB.out _).mono ?_
    rintro r w2 ⟨rfl,hd2⟩
    have HB2:=Hd (HB1.out.trans (hd2.below2 w.heap.size))
    clear hd2
    go_wp2
    go_ret2
    exact ⟨0,5,rfl,fun _=>⟨rfl,rfl⟩,fun h=>absurd h (by decide),HB2.out⟩
  ·rw [hba] at HSA hM
   rw [if_pos (by simp)] at hM
   subst hM
   clear hba
   go_enter Tryz.func44,Tryz.ntmps44
   go_wp2_with fail
   refine (HO.out _).mono ?_
   rintro r w' ⟨rfl,rfl⟩
   go_wp2_with fail
   refine (HSA.out _).mono ?_
   rintro r w1 ⟨rfl,hd1⟩
   have HB1:=Hd (hd1.below2 w.heap.size)
   clear hd1
   go_wp2
   go_ret2
   exact ⟨0,5,rfl,fun _=>⟨rfl,rfl⟩,fun h=>absurd h (by decide),HB1.out⟩
end
section
open Go.RowKit
theorem may_ok2 {order : Int} {a b : Nat} (ha : a < 2 * Fl.W) (hb : b < 2 * Fl.W) (h : mayV order 2 (z2 a b) = 0) : ∃ k : Nat,order = k /\ k <= 14 /\ Ok9 a /\ Ok9 b:=by
 rw [may2] at h
 split at h
 ·simp at h
 ·rename_i h0
  split at h
  ·simp at h
  ·rename_i h1
   split at h
   ·simp at h
   ·rename_i h2
    simp at h1 h2
    exact ⟨order.toNat,by omega,by omega,ok_of_may ha h1.1 h2.1,ok_of_may hb h1.2 h2.2⟩
def RingQ (order : Int) (a b s : Nat) (T : Int) : Prop:=(mayV order 2 (z2 a b) ≠ 0 -> T = mayV order 2 (z2 a b) /\ s = 0) /\
    (mayV order 2 (z2 a b) = 0 -> ∃ u r,ProdIs (rC order.toNat) (z3 (rS order.toNat) a b) 3 u /\ Fl.Is (Fl.addS u 103582791429521408 true) r /\ ((Fl.rg r = Fl.I /\ T = 6 /\ s = 0) \/ (Fl.rg r ≠ Fl.I /\ T = 0 /\ s = r)))
def RingR (order : Int) (a b s : Nat) (T : Int) : Prop:=(mayV order 2 (z2 a b) ≠ 0 -> T = mayV order 2 (z2 a b) /\ s = 0) /\
    (mayV order 2 (z2 a b) = 0 -> ∃ k1 k2 k3 F,Fl.UpW (Fl.rv (Fl.rg (rC order.toNat)) * Fl.rv (Fl.rg (rS order.toNat))) k1 /\ Fl.UpW (Fl.rv (Fl.rg k1) * Fl.rv (Fl.rg a)) k2 /\ Fl.UpW (Fl.rv (Fl.rg k2) * Fl.rv (Fl.rg b)) k3 /\
     (k3 < Fl.I -> Fl.UpW ((Fl.rv (Fl.rg k3) + Fl.rv (Fl.rg least)) * 2 ^ 1074) F) /\ (¬ k3 < Fl.I -> F = k3) /\ ((F < Fl.I /\ T = 0 /\ s = F) \/ (¬ F < Fl.I /\ T = 6 /\ s = 0)))
theorem inf_least : Fl.addS Fl.I 103582791429521408 true = some Fl.I:=by decide +kernel
theorem up_le_I {X k : Nat} (h : Fl.UpW X k) : k <= Fl.I:=by
 obtain ⟨h1,h2,h3,h4⟩:=h.key
 rw [h3] at h1; exact h1
theorem ring_eq {order : Int} {a b s s' : Nat} {T T' : Int} (ha : a < 2 * Fl.W) (hb : b < 2 * Fl.W) (h : RingQ order a b s T) (h' : RingR order a b s' T') : s = s' /\ T = T':=by
 by_cases h0 : mayV order 2 (z2 a b) = 0
 ·obtain ⟨k,rfl,hk,oka,okb⟩:=may_ok2 ha hb h0
  obtain ⟨u,r,⟨u2,⟨u1,⟨u0,h00,e1⟩,e2⟩,e3⟩,e4,hor⟩:=h.2 h0
  obtain ⟨k1,k2,k3,F,c1,c2,c3,c4,c5,hor'⟩:=h'.2 h0
  rw [Int.toNat_natCast] at e1 c1 h00
  rw [z3_0] at e1
  rw [z3_1] at e2
  rw [z3_2] at e3
  have e0 : u0 = rC k:=h00
  rw [e0] at e1
  obtain ⟨j1,j2⟩:=ring_join hk oka okb e1 e2 e3 c1
  obtain ⟨j3,j4⟩:=j2 k2 c2
  obtain ⟨j5,j6⟩:=j4 k3 c3
  obtain ⟨p1,p2,p3,p4⟩:=up_word c3
  have hrF : r = F:=by
   by_cases hf : k3 < Fl.I
   ·have hpu : Fl.Pos u:=by
     have hku : 0 <= Fl.key u:=by rw [j5]; exact p3
     refine ⟨?_,hku⟩
     have e:=Fl.key_pos_rg hku
     have e':=Fl.key_pos_rg p3
     rw [j5,e',p4] at e
     have : k3 = Fl.rg u:=by omega
     rw [<- this]; exact hf
    exact last_join (X:=0) j6 hpu j5 p3 e4 (Is_add_lt2 j6 least9.2.1 e4) (c4 hf)
   ·have hk3 : k3 = Fl.I:=by have:=up_le_I c3; omega
    have hkI : Fl.key k3 = (k3 : Int):=by have e':=Fl.key_pos_rg p3; rw [p4] at e'; exact e'
    have hu : u = k3:=word_eq9 j6 p1 (by rw [j5,hkI,hk3]; decide) j5
    rw [hu,hk3,inf_least] at e4
    have : r = Fl.I:=e4
    rw [c5 hf,hk3,this]
  have hF : Fl.rg F = F:=(show Chain9 k a b k1 k2 k3 F from ⟨c1,c2,c3,c4,c5⟩).last.2
  have hFI : F <= Fl.I:=by
   by_cases hf : k3 < Fl.I
   ·exact up_le_I (c4 hf)
   ·rw [c5 hf]; exact up_le_I c3
  subst hrF
  rw [hF] at hor
  rcases hor with ⟨g1,g2,g3⟩ | ⟨g1,g2,g3⟩ <;> rcases hor' with ⟨g4,g5,g6⟩ | ⟨g4,g5,g6⟩
  ·omega
  ·exact ⟨by rw [g3,g6],by rw [g2,g5]⟩
  ·exact ⟨by rw [g3,g6],by rw [g2,g5]⟩
  ·omega
 ·obtain ⟨g1,g2⟩:=h.1 h0
  obtain ⟨g3,g4⟩:=h'.1 h0
  exact ⟨by rw [g2,g4],by rw [g1,g3]⟩
end
section
open Go.RowKit
theorem int_sz (m : Int) (h0 : 0 <= m) (h1 : m <= 9007199254740992) : Sz (floatOfInt .f64 m) /\ Fl.vl (floatOfInt .f64 m) = m * (Fl.U : Int):=by
 obtain ⟨n,rfl⟩:=Int.eq_ofNat_of_zero_le h0
 have hn : n <= 9007199254740992:=by omega
 have e : floatOfInt .f64 ((n : Nat) : Int) = Fl.rr (n * Fl.U):=Fl.ofInt_sgi false n
 obtain ⟨h3,h2⟩:=Fl.whole_rr n hn
 have hc : Fl.rr (n * Fl.U) <= Fl.c53:=by
  rw [<- Fl.rv_le_iff,h3,Fl.rv_c53]; exact Nat.mul_le_mul_right _ hn
 have h4 : Sz (floatOfInt .f64 ((n : Nat) : Int)):=by
  rw [e]; exact Nat.le_trans hc (by decide)
 refine ⟨h4,?_⟩
 have h5:=(Fl.whI_int false n hn).2.2.2.2
 have e2 : Fl.sgi false n = ((n : Nat) : Int):=rfl
 rw [e2] at h5
 rw [h5]
 simp
theorem mx_range {l : List Int} (h : okL l) : 0 <= mxL l /\ mxL l <= 9007199254740992:=mxL_le l 0 9007199254740992 (by omega) (by omega) h
theorem mx_sz {l : List Int} (h : okL l) : Sz (floatOfInt .f64 (mxL l)):=(int_sz _ (mx_range h).1 (mx_range h).2).1
def RBndPost (n n' : Nat) (a b : List Int) (w : World) (e : Ending) (w' : World) : Prop :=
 (¬ OrdOk n n' /\ e = .returned (.tuple #[.float .f64 0,.int .i64 4]) /\ Below w.heap.size w w') \/
 (OrdOk n n' /\ ¬ (okL a /\ okL b) /\ e = .returned (.tuple #[.float .f64 0,.int .i64 6]) /\ Below w.heap.size w w') \/
 (okL a /\ okL b /\ ∃ K : Nat,K <= 14 /\ n = 2 ^ K /\ n' = n /\ ∃ s T,e = .returned (.tuple #[.float .f64 s,.int .i64 0]) /\ RingR K (floatOfInt .f64 (mxL a)) (floatOfInt .f64 (mxL b)) s T /\ Below w.heap.size w w')
set_option maxHeartbeats 1000000 in
theorem refbound_any (A B : Option Addr) (n n' c c' : Nat) (a b : List Int) (w : World) (hn : n < 9223372036854775808) (hn' : n' < 9223372036854775808) (ha : UL w A n c a) (hb : UL w B n' c' b) :
  Calls Tryz.prog 26 #[.slice A n c,.slice B n' c'] w (RBndPost n n' a b w):=by
 by_cases ho : OrdOk n n'
 ·obtain ⟨K,hK,hnK,hnn⟩:=ho
  have h2 : 2 ^ K <= 2 ^ 14:=Nat.pow_le_pow_right (by decide) hK
  have h1:=Nat.two_pow_pos K
  have hn1 : 1 <= n:=by omega
  have hn2 : n <= 16384:=by omega
  have HOR:=Hd (show OrdOk n n' from ⟨K,hK,hnK,hnn⟩)
  subst hnn
  have HO:=Hd (reforder_yes K n' A B c c' w hK hnK)
  have HF:=Hd (fun u (hu : Below w.heap.size w u)=>greatest_any A n' c a u hn2 (ha.below hu))
  have HG:=Hd (fun u (hu : Below w.heap.size w u)=>greatest_any B n' c' b u hn2 (hb.below hu))
  have HK:=Hd (show K <= 14 /\ n' = 2 ^ K from ⟨hK,hnK⟩)
  have HB0:=Hd (Below.refl w.heap.size w)
  by_cases oa : okL a
  ·by_cases ob : okL b
   ·have HR:=Hd (fun u=>rring_any (K : Int) _ _ u (mx_sz oa).facts.1 (mx_sz ob).facts.1)
    obtain ⟨x,hx⟩ : ∃ x,x = floatOfInt .f64 (mxL a):=⟨_,rfl⟩
    obtain ⟨y,hy⟩ : ∃ y,y = floatOfInt .f64 (mxL b):=⟨_,rfl⟩
    unfold RBndPost
    unfold GrtPost at HF HG
    rw [<- hx] at HF HR ⊢
    rw [<- hy] at HG HR ⊢
    have OA:=Hd oa
    have OB:=Hd ob
    clear ha hb hK hnK h1 h2 hx hy hn hn' oa ob
    go_enter Tryz.func26,Tryz.ntmps26
    go_wp2_with fail
    refine HO.out.mono ?_
    rintro e w1 ⟨rfl,rfl⟩
    go_wp2_with fail
    refine (HF.out w HB0.out).mono ?_
    rintro e w1 (⟨oa,rfl,rfl⟩ | ⟨oa,rfl,rfl⟩)
    ·clear oa
     go_wp2_with fail
     refine (HG.out w HB0.out).mono ?_
     rintro e w1 (⟨ob,rfl,rfl⟩ | ⟨ob,rfl,rfl⟩)
     ·clear ob
      go_wp2_with fail
      refine (HR.out w).mono ?_
      intro e w3 h3
      obtain ⟨s,T,rfl,k1,k2,k3⟩:=h3
      have HP : Hid (RingR K x y s T /\ Below w.heap.size w w3):=Hd ⟨⟨k1,k2⟩,k3⟩
      clear k1 k2 k3
      go_wp2_with fail
      go_ret2
      exact .inr (.inr ⟨OA.out,OB.out,K,HK.out.1,HK.out.2,trivial,s,T,rfl,HP.out.1,HP.out.2⟩)
     ·exact absurd OB.out ob
    ·exact absurd OA.out oa
   ·have OA:=Hd oa
    have OB:=Hd ob
    unfold RBndPost
    unfold GrtPost at HF HG
    clear ha hb hK hnK h1 h2 hn hn' oa ob
    go_enter Tryz.func26,Tryz.ntmps26
    go_wp2_with fail
    refine HO.out.mono ?_
    rintro e w1 ⟨rfl,rfl⟩
    go_wp2_with fail
    refine (HF.out w HB0.out).mono ?_
    rintro e w1 (⟨oa,rfl,rfl⟩ | ⟨oa,rfl,rfl⟩)
    ·clear oa
     go_wp2_with fail
     refine (HG.out w HB0.out).mono ?_
     rintro e w1 (⟨ob,rfl,rfl⟩ | ⟨ob,rfl,rfl⟩)
     ·exact absurd ob OB.out
     ·clear ob
      go_wp2_with fail
      go_ret2
      exact .inr (.inl ⟨HOR.out,fun h=>OB.out h.2,rfl,HB0.out⟩)
    ·exact absurd OA.out oa
  ·have OA:=Hd oa
   unfold RBndPost
   unfold GrtPost at HF HG
   clear ha hb hK hnK h1 h2 hn hn' oa
   go_enter Tryz.func26,Tryz.ntmps26
   go_wp2_with fail
   refine HO.out.mono ?_
   rintro e w1 ⟨rfl,rfl⟩
   go_wp2_with fail
   refine (HF.out w HB0.out).mono ?_
   rintro e w1 (⟨oa,rfl,rfl⟩ | ⟨oa,rfl,rfl⟩)
   ·exact absurd oa OA.out
   ·clear oa
    go_wp2_with fail
    refine (HG.out w HB0.out).mono ?_
    rintro e w1 (⟨ob,rfl,rfl⟩ | ⟨ob,rfl,rfl⟩)
    all_goals
     clear ob
     go_wp2_with fail
     go_ret2
     exact .inr (.inl ⟨HOR.out,fun h=>OA.out h.1,rfl,HB0.out⟩)
 ·have HO:=Hd (reforder_no n n' A B c c' w hn hn' ho)
  have HN:=Hd ho
  unfold RBndPost
  clear ho hn hn' ha hb
  go_enter Tryz.func26,Tryz.ntmps26
  go_wp2_with fail
  refine HO.out.mono ?_
  rintro e w1 ⟨rfl,rfl⟩
  go_wp2_with fail
  go_ret2
  exact .inl ⟨HN.out,rfl,Below.refl _ _⟩
theorem ring_told {K a b : Nat} {w w' : World} {e : Ending} (hK : K <= 14) (ha : Sz a) (hb : Sz b) (h : RingPost K a b w e w') : ∃ s,e = .returned (.tuple #[.float .f64 s,.int .i64 0]) /\ RingQ K a b s 0 /\ RingIs K a b s /\ Below w.heap.size w w':=by
 have hm:=may_ring hK ha hb
 unfold RingPost at h
 unfold RingQ
 rw [Int.toNat_natCast] at *
 generalize mayV (K : Int) 2 (z2 a b) = M at *
 subst hm
 obtain ⟨s,T,he,h1,h2,h3⟩:=h
 have h2':=h2 rfl
 obtain ⟨u,r,⟨u2,⟨u1,⟨u0,h00,e1⟩,e2⟩,e3⟩,hr,hor⟩:=h2'
 have e0 : u0 = rC K:=h00
 rw [e0,z3_0] at e1
 rw [z3_1] at e2
 rw [z3_2] at e3
 have hR : RingIs K a b r:=⟨u1,u2,u,e1,e2,e3,hr⟩
 have hf:=(hR.fin hK ha hb).2.1
 clear e1 e2 e3 h00 hr e0
 rcases hor with ⟨g1,_⟩ | ⟨g1,g2,g3⟩
 ·exfalso
  rw [g1] at hf
  exact Nat.lt_irrefl _ (Nat.lt_of_le_of_lt (Nat.le_add_right _ _) hf)
 ·rw [g2] at he h1 h2
  rw [g3] at he h1 h2
  exact ⟨r,he,⟨h1,h2⟩,hR,h3⟩
end
end Go.Proofs.YtfpopdneokekiaaGreatDoor

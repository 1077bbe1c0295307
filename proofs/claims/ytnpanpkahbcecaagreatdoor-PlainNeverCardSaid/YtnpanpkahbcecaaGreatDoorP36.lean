/-
Walk: rosetteref11.Bound; both bounds are the same; the sizes' floats.
-/
import Derived.Test.YtnpanpkahbcecaaGreatDoorP34
import Derived.Test.YtnpanpkahbcecaaGreatDoorP35
import Derived.Lib.Hide
set_option linter.unusedVariables false
set_option linter.unusedSimpArgs false
namespace Go.Proofs.YtnpanpkahbcecaaGreatDoor
section
open Go.RowKit
open Fl
def Sz (r : Nat) : Prop:=r <= 5512405943901487104
theorem Sz.facts {r : Nat} (h : Sz r) : r < 2 * W /\ rg r = r /\ sg r = false /\ Pos r /\ key r = r:=by
 unfold Sz at h
 have hI : r < I:=by unfold I; omega
 have hW : r < W:=Nat.lt_trans hI I_lt_W
 have h1 : rg r = r:=Nat.mod_eq_of_lt hW
 have h2 : sg r = false:=by unfold sg; rw [Nat.div_eq_of_lt hW]; rfl
 have h3 : key r = r:=key_pos r hW
 exact ⟨by omega,h1,h2,⟨by rw [h1]; exact hI,by rw [h3]; omega⟩,h3⟩
theorem Sz.may {r : Nat} (h : Sz r) : badB r = false /\ overB r = false:=by
 obtain ⟨_,h1,h2,h3,_⟩:=h.facts
 unfold badB overB
 rw [h1,h2]
 unfold Sz at h
 constructor
 ·rw [decide_eq_false (by unfold I; omega)]; rfl
 ·rw [decide_eq_false (by omega)]; rfl
theorem may_turn {k : Nat} {x : Nat} (hk : k <= 14) (h : Sz x) : mayV (k : Int) 1 (fun _=>x) = 0:=by
 unfold mayV
 rw [if_neg (by omega),any_no (fun _ _=>h.may.1),any_no (fun _ _=>h.may.2)]; rfl
theorem may_ring {k : Nat} {x y : Nat} (hk : k <= 14) (h : Sz x) (h' : Sz y) : mayV (k : Int) 2 (z2 x y) = 0:=by
 unfold mayV
 rw [if_neg (by omega),any_no (fun j _=>by unfold z2; split; exact h.may.1; exact h'.may.1),any_no (fun j _=>by unfold z2; split; exact h.may.2; exact h'.may.2)]; rfl
def RingIs (k a b s : Nat) : Prop:=∃ u1 u2 u3,Is (mulS (rC k) (rS k) true) u1 /\ Is (mulS u1 a true) u2 /\ Is (mulS u2 b true) u3 /\ Is (addS u3 103582791429521408 true) s
def big : Nat:=5512405943901487104
theorem big_sz : Sz big:=Nat.le_refl _
def T1 : Nat:=(mulS (tC 14) big true).getD 0
def T2 : Nat:=(addS T1 103582791429521408 true).getD 0
def R1 : Nat:=(mulS (rC 14) (rS 14) true).getD 0
def R2 : Nat:=(mulS R1 big true).getD 0
def R3 : Nat:=(mulS R2 big true).getD 0
def R4 : Nat:=(addS R3 103582791429521408 true).getD 0
theorem top_t : mulS (tC 14) big true = some T1 /\ addS T1 103582791429521408 true = some T2 /\ T1 < 2 * W /\ rg T1 < I /\ 0 <= key T1 /\ rg T1 + B < I /\ rg T2 + B < I:=by decide +kernel
theorem top_r : mulS (rC 14) (rS 14) true = some R1 /\ mulS R1 big true = some R2 /\ mulS R2 big true = some R3 /\ addS R3 103582791429521408 true = some R4 /\ rg R1 < I /\ 0 <= key R1 /\ rg R2 < I /\ 0 <= key R2 /\ R3 < 2 * W /\ 0 <= key R3 /\ rg R3 + B < I /\ rg R4 + B < I:=by decide +kernel
theorem fac_up : ∀ k : Fin 15,rg (tC k.val) < I /\ 0 <= key (tC k.val) /\ key (tC k.val) <= key (tC 14) /\ tC k.val < 2 * W /\ rg (rC k.val) < I /\ 0 <= key (rC k.val) /\ key (rC k.val) <= key (rC 14) /\ rg (rS k.val) < I /\ 0 <= key (rS k.val) /\ key (rS k.val) <= key (rS 14) /\ rC k.val < 2 * W /\ rS k.val < 2 * W:=by decide +kernel
theorem fac_at (k : Nat) (hk : k <= 14) : rg (tC k) < I /\ 0 <= key (tC k) /\ key (tC k) <= key (tC 14) /\ tC k < 2 * W /\ rg (rC k) < I /\ 0 <= key (rC k) /\ key (rC k) <= key (rC 14) /\ rg (rS k) < I /\ 0 <= key (rS k) /\ key (rS k) <= key (rS 14) /\ rC k < 2 * W /\ rS k < 2 * W:=fac_up ⟨k,by omega⟩
theorem le_big {x : Nat} (h : Sz x) : key x <= key big:=by
 rw [h.facts.2.2.2.2,big_sz.facts.2.2.2.2]; unfold Sz at h; unfold big; omega
theorem room_of {s S : Nat} (h : Pos s) (hk : key s <= key S) (hS : rg S + B < I) : rg s + B < I:=by
 have h1:=key_pos_rg h.2
 rw [h1] at hk
 have h2 : key S <= rg S:=by unfold key; split <;> omega
 omega
theorem mul_pos {k x u : Nat} (hk : k <= 14) (hx : Sz x) (h1 : Is (mulS (tC k) x true) u) : u < 2 * W /\ Pos u /\ key u <= key T1:=by
 obtain ⟨t1,t2,t3,t4,t5,t6,t7⟩:=top_t
 obtain ⟨f1,f2,f3,f4,_⟩:=fac_at k hk
 obtain ⟨g1,g2,_⟩:=fac_at 14 (by omega)
 have h3:=step_pos ⟨f1,f2⟩ hx.facts.2.2.2.1 h1 ⟨g1,g2⟩ big_sz.facts.2.2.2.1 t1 t4 f3 (le_big hx)
 exact ⟨Fl.Is_lt_mul2 f4 hx.facts.1 h1,h3⟩
theorem ring_chain {k a b u1 u2 u3 : Nat} (hk : k <= 14) (ha : Sz a) (hb : Sz b) (h1 : Is (mulS (rC k) (rS k) true) u1) (h2 : Is (mulS u1 a true) u2) (h3 : Is (mulS u2 b true) u3) :
  Pos u1 /\ Pos u2 /\ Pos u3 /\ u3 < 2 * W /\ key u3 <= key R3:=by
 obtain ⟨t1,t2,t3,t4,t5,t6,t7,t8,t9,t10,t11,t12⟩:=top_r
 obtain ⟨_,_,_,_,f1,f2,f3,f4,f5,f6,f7,f8⟩:=fac_at k hk
 obtain ⟨_,_,_,_,g1,g2,_,g4,g5,_⟩:=fac_at 14 (by omega)
 have s1:=step_pos ⟨f1,f2⟩ ⟨f4,f5⟩ h1 ⟨g1,g2⟩ ⟨g4,g5⟩ t1 t5 f3 f6
 have s2:=step_pos s1.1 ha.facts.2.2.2.1 h2 ⟨t5,t6⟩ big_sz.facts.2.2.2.1 t2 t7 s1.2 (le_big ha)
 have s3:=step_pos s2.1 hb.facts.2.2.2.1 h3 ⟨t7,t8⟩ big_sz.facts.2.2.2.1 t3 (by omega) s2.2 (le_big hb)
 exact ⟨s1.1,s2.1,s3.1,Fl.Is_lt_mul2 (Fl.Is_lt_mul2 (Fl.Is_lt_mul2 f7 f8 h1) ha.facts.1 h2) hb.facts.1 h3,s3.2⟩
theorem RingIs.fin {k a b s : Nat} (hk : k <= 14) (ha : Sz a) (hb : Sz b) (h : RingIs k a b s) : Pos s /\ rg s + B < I /\ key 103582791429521408 <= key s:=by
 obtain ⟨u1,u2,u3,h1,h2,h3,h4⟩:=h
 obtain ⟨t1,t2,t3,t4,t5,t6,t7,t8,t9,t10,t11,t12⟩:=top_r
 obtain ⟨_,_,p3,w3,k3⟩:=ring_chain hk ha hb h1 h2 h3
 have h5:=last_fin w3 t9 p3 ⟨by omega,t10⟩ h4 t4 (by omega) k3
 exact ⟨h5.1,room_of h5.1 h5.2 t12,last_ge w3 p3 h4⟩
theorem RingIs.mono {k k' a a' b b' s s' : Nat} (hk : k <= 14) (hk' : k' <= 14) (ha : Sz a) (ha' : Sz a') (hb : Sz b) (hb' : Sz b') (h : RingIs k a b s) (h' : RingIs k' a' b' s') (hc : key (rC k) <= key (rC k')) (hs : key (rS k) <= key (rS k')) (haa : a <= a') (hbb : b <= b') : key s <= key s':=by
 obtain ⟨u1,u2,u3,h1,h2,h3,h4⟩:=h
 obtain ⟨v1,v2,v3,g1,g2,g3,g4⟩:=h'
 obtain ⟨p1,p2,p3,w3,k3⟩:=ring_chain hk ha hb h1 h2 h3
 obtain ⟨q1,q2,q3,x3,y3⟩:=ring_chain hk' ha' hb' g1 g2 g3
 obtain ⟨_,_,_,_,f1,f2,f3,f4,f5,f6,f7,f8⟩:=fac_at k hk
 obtain ⟨_,_,_,_,e1,e2,e3,e4,e5,e6,e7,e8⟩:=fac_at k' hk'
 have m1:=step_mono ⟨f1,f2⟩ ⟨f4,f5⟩ ⟨e1,e2⟩ ⟨e4,e5⟩ h1 g1 (vl_le.2 hc) (vl_le.2 hs)
 have m2:=step_mono p1 ha.facts.2.2.2.1 q1 ha'.facts.2.2.2.1 h2 g2 m1 (vl_le.2 (by rw [ha.facts.2.2.2.2,ha'.facts.2.2.2.2]; omega))
 have m3:=step_mono p2 hb.facts.2.2.2.1 q2 hb'.facts.2.2.2.1 h3 g3 m2 (vl_le.2 (by rw [hb.facts.2.2.2.2,hb'.facts.2.2.2.2]; omega))
 exact last_mono w3 x3 p3 q3 h4 g4 m3
end
section
namespace Fl
end Fl
end
section
open Go.RowKit
def hA (k : Nat) : Nat:=Fl.scl 4607182418800017408 ((k / 2 : Nat) : Int)
def hB (k : Nat) : Nat:=(Ieee.double.mul (hA k) 4843235051468438477).getD 0
end
section
open Go.RowKit
open Fl
def most : Nat:=8660422083433463808
def least : Nat:=103582791429521408
def N1 : Nat:=(mulS (rC 14) (rS 14) true).getD 0
end
section
open Go.RowKit
end
section
open Go.RowKit
end
section
open Go.RowKit
end
section
open Go.RowKit
def RingQ (order : Int) (a b s : Nat) (T : Int) : Prop:=(mayV order 2 (z2 a b) ≠ 0 -> T = mayV order 2 (z2 a b) /\ s = 0) /\
    (mayV order 2 (z2 a b) = 0 -> ∃ u r,ProdIs (rC order.toNat) (z3 (rS order.toNat) a b) 3 u /\ Fl.Is (Fl.addS u 103582791429521408 true) r /\ ((Fl.rg r = Fl.I /\ T = 6 /\ s = 0) \/ (Fl.rg r ≠ Fl.I /\ T = 0 /\ s = r)))
end
section
open Go.RowKit
theorem int_sz (m : Int) (h0 : 0 <= m) (h1 : m <= 9007199254740992) : Sz (floatOfInt .f64 m) /\ Fl.vl (floatOfInt .f64 m) = m * (Fl.U : Int):=by
 obtain ⟨n,rfl⟩:=Int.eq_ofNat_of_zero_le h0
 have hn : n <= 9007199254740992:=by omega
 have e : floatOfInt .f64 ((n : Nat) : Int) = Fl.rr (n * Fl.U):=Fl.ofInt_sgi false n
 obtain ⟨h3,h2⟩:=Fl.whole_rr n hn
 have hc : Fl.rr (n * Fl.U) <= Fl.c53:=by
  rw [<- Fl.rv_le_iff,h3,Fl.rv_c53]; exact Nat.mul_le_mul_right _ hn
 have h4 : Sz (floatOfInt .f64 ((n : Nat) : Int)):=by
  rw [e]; exact Nat.le_trans hc (by decide)
 refine ⟨h4,?_⟩
 have h5:=(Fl.whI_int false n hn).2.2.2.2
 have e2 : Fl.sgi false n = ((n : Nat) : Int):=rfl
 rw [e2] at h5
 rw [h5]
 simp
theorem mx_range {l : List Int} (h : okL l) : 0 <= mxL l /\ mxL l <= 9007199254740992:=mxL_le l 0 9007199254740992 (by omega) (by omega) h
theorem mx_sz {l : List Int} (h : okL l) : Sz (floatOfInt .f64 (mxL l)):=(int_sz _ (mx_range h).1 (mx_range h).2).1
theorem ring_told {K a b : Nat} {w w' : World} {e : Ending} (hK : K <= 14) (ha : Sz a) (hb : Sz b) (h : RingPost K a b w e w') : ∃ s,e = .returned (.tuple #[.float .f64 s,.int .i64 0]) /\ RingQ K a b s 0 /\ RingIs K a b s /\ Below w.heap.size w w':=by
 have hm:=may_ring hK ha hb
 unfold RingPost at h
 unfold RingQ
 rw [Int.toNat_natCast] at *
 generalize mayV (K : Int) 2 (z2 a b) = M at *
 subst hm
 obtain ⟨s,T,he,h1,h2,h3⟩:=h
 have h2':=h2 rfl
 obtain ⟨u,r,⟨u2,⟨u1,⟨u0,h00,e1⟩,e2⟩,e3⟩,hr,hor⟩:=h2'
 have e0 : u0 = rC K:=h00
 rw [e0,z3_0] at e1
 rw [z3_1] at e2
 rw [z3_2] at e3
 have hR : RingIs K a b r:=⟨u1,u2,u,e1,e2,e3,hr⟩
 have hf:=(hR.fin hK ha hb).2.1
 clear e1 e2 e3 h00 hr e0
 rcases hor with ⟨g1,_⟩ | ⟨g1,g2,g3⟩
 ·exfalso
  rw [g1] at hf
  exact Nat.lt_irrefl _ (Nat.lt_of_le_of_lt (Nat.le_add_right _ _) hf)
 ·rw [g2] at he h1 h2
  rw [g3] at he h1 h2
  exact ⟨r,he,⟨h1,h2⟩,hR,h3⟩
end
end Go.Proofs.YtnpanpkahbcecaaGreatDoor

/-
Walk: ring.Bound.
-/
import Derived.Test.YtnpanpkahbcecaaGreatDoorP29
import Derived.Test.YtnpanpkahbcecaaGreatDoorP31
import Derived.Test.YtnpanpkahbcecaaGreatDoorP32
import Derived.Lib.Hide
set_option linter.unusedVariables false
set_option linter.unusedSimpArgs false
namespace Go.Proofs.YtnpanpkahbcecaaGreatDoor
section
open Go.RowKit
def tA (k : Nat) : Nat:=(Ieee.double.mul 4620693217682128896 (floatOfInt .f64 (k : Int))).getD 0
def tB (k : Nat) : Nat:=(Ieee.double.mul (tA k) 4368491638549381120).getD 0
def tC (k : Nat) : Nat:=if k = 0 then 0 else Fl.scl (tB k) k
def rN (k : Nat) : Nat:=Fl.scl 4607182418800017408 k
def rA (k : Nat) : Nat:=(Ieee.double.mul 4625196817309499392 (floatOfInt .f64 ((k : Int) + 1))).getD 0
def rB (k : Nat) : Nat:=(Ieee.double.mul (rA k) 4368491638549381120).getD 0
def rC (k : Nat) : Nat:=(Ieee.double.mul (rB k) (rN k)).getD 0
def rS (k : Nat) : Nat:=Fl.sqrtF (rN k) true
theorem fac_r : ∀ k : Fin 15,Ieee.double.mul 4625196817309499392 (floatOfInt .f64 ((k.val : Int) + 1)) = some (rA k.val) /\ Ieee.double.mul (rA k.val) 4368491638549381120 = some (rB k.val) /\ Ieee.double.mul (rB k.val) (rN k.val) = some (rC k.val) /\ rN k.val < 2 * Fl.W /\ Fl.rg (rN k.val) < Fl.I /\ 0 < Fl.rg (rN k.val) /\ Fl.sg (rN k.val) = false /\ rC k.val < 2 * Fl.W /\ rS k.val < 2 * Fl.W:=by decide +kernel
theorem cell_row (w : World) (cs : Array Value) (t : TypeId) (i : Nat) : (w.alloc (.cells cs t)).cell? ((⟨w.heap.size,0,none⟩ : Addr).add i) = cs[i]?:=by
 have h : (w.alloc (.cells cs t)).heap[w.heap.size]? = some (.cells cs t (0,0)):=heap_alloc_new w _
 have e : (⟨w.heap.size,0,none⟩ : Addr).add i = ⟨w.heap.size,i,none⟩:=by unfold Addr.add; split <;> simp_all
 rw [e]
 exact cell_of_row _ _ _ _ _ _ h
def z2 (a b : Nat) (k : Nat) : Nat:=if k = 0 then a else b
def z3 (s a b : Nat) (k : Nat) : Nat:=if k = 0 then s else if k = 1 then a else b
theorem fl_cells2 (w : World) (a b : Nat) (t : TypeId) : FlsAt (w.alloc (.cells #[.float .f64 a,.float .f64 b] t)) (some ⟨w.heap.size,0,none⟩) 2 (z2 a b):=fun k hk=>by
 refine ⟨_,rfl,?_⟩
 rw [cell_row]
 rcases (show k = 0 \/ k = 1 by omega) with rfl | rfl <;> rfl
theorem fl_cells3 (w : World) (s a b : Nat) (t : TypeId) : FlsAt (w.alloc (.cells #[.float .f64 s,.float .f64 a,.float .f64 b] t)) (some ⟨w.heap.size,0,none⟩) 3 (z3 s a b):=fun k hk=>by
 refine ⟨_,rfl,?_⟩
 rw [cell_row]
 rcases (show k = 0 \/ k = 1 \/ k = 2 by omega) with rfl | rfl | rfl <;> rfl
theorem Dr.below2 {w w' : World} (h : Dr w w') (B : Nat) : Below B w w':=by
 obtain ⟨n,rfl⟩:=h
 exact ⟨rfl,rfl,rfl,Nat.le_refl _,fun _ _=>rfl⟩
theorem may_order {order : Int} {n : Nat} {z : Nat -> Nat} (h : mayV order n z = 0) : 0 <= order /\ order <= 14:=by
 unfold mayV at h
 split at h
 ·simp at h
 ·omega
def RingPost (order : Int) (a b : Nat) (w : World) (e : Ending) (w' : World) : Prop :=
 ∃ s T,e = .returned (.tuple #[.float .f64 s,.int .i64 T]) /\ (mayV order 2 (z2 a b) ≠ 0 -> T = mayV order 2 (z2 a b) /\ s = 0) /\
   (mayV order 2 (z2 a b) = 0 -> ∃ u r,ProdIs (rC order.toNat) (z3 (rS order.toNat) a b) 3 u /\ Fl.Is (Fl.addS u 103582791429521408 true) r /\ ((Fl.rg r = Fl.I /\ T = 6 /\ s = 0) \/ (Fl.rg r ≠ Fl.I /\ T = 0 /\ s = r))) /\ Below w.heap.size w w'
theorem Is_add_lt2 {a b s : Nat} {up : Bool} (ha : a < 2 * Fl.W) (hb : b < 2 * Fl.W) (h : Fl.Is (Fl.addS a b up) s) : s < 2 * Fl.W:=by
 cases ho : Fl.addS a b up with
 | none=>rw [ho] at h; exact h.2
 | some r =>
   rw [ho] at h
   have : s = r:=h
   subst this
   unfold Fl.addS at ho
   split at ho
   ·have hs : Fl.addF a b up = s:=Option.some.inj ho
    rw [<- hs]
    unfold Fl.addF
    split
    ·unfold Fl.greatW; split
     ·exact nearS_lt a b
     ·exact Fl.wd_lt _ _ (by decide)
    ·split
     ·split
      ·exact ha
      ·split <;> decide
     ·unfold Fl.sideW; split
      ·exact Fl.next_lt _ _ (nearS_lt a b)
      ·exact nearS_lt a b
   ·exact Fl.add_lt ho
set_option maxRecDepth 100000 in
set_option maxHeartbeats 4000000 in
theorem ring_any (order : Int) (a b : Nat) (w : World) (ha : a < 2 * Fl.W) (hb : b < 2 * Fl.W) :
  Calls Tryz.prog 126 #[.int .i64 order,.float .f64 a,.float .f64 b] w (RingPost order a b w):=by
 have hz2 : ∀ k,z2 a b k < 2 * Fl.W:=fun k=>by unfold z2; split <;> assumption
 have hm:=fun c=>may_any order (some ⟨w.heap.size,0,none⟩) 2 c (z2 a b) (w.alloc (.cells #[.float .f64 a,.float .f64 b] 76)) (by decide) hz2 (fl_cells2 w a b _)
 have HB1:=Hd ((Below.refl w.heap.size w).alloc (Nat.le_refl _) (.cells #[.float .f64 a,.float .f64 b] 76))
 obtain ⟨M,hM⟩ : ∃ M,M = mayV order 2 (z2 a b):=⟨_,rfl⟩
 unfold RingPost
 rw [<- hM] at hm ⊢
 have HM:=Hd hm
 have HMM:=Hd hM
 clear hm hM
 by_cases h0 : M = 0
 ·subst h0
  obtain ⟨o1,o2⟩:=may_order HMM.out.symm
  obtain ⟨k,rfl⟩ : ∃ k : Nat,order = k:=⟨order.toNat,by omega⟩
  have hk : k <= 14:=by omega
  obtain ⟨f1,f2,f3,f4,f5,f6,f7,f8,f9⟩:=fac_r ⟨k,by omega⟩
  have r1:=fun w=>run_float_arith (P:=Tryz.prog) w .mul 76 .f64 4625196817309499392 (floatOfInt .f64 ((k : Int) + 1)) _ f1
  have r2:=fun w=>run_float_arith (P:=Tryz.prog) w .mul 76 .f64 (rA k) 4368491638549381120 _ f2
  have r3:=fun w=>run_float_arith (P:=Tryz.prog) w .mul 76 .f64 (rB k) (rN k) _ f3
  have HL : Hid (∀ w,Calls Tryz.prog 94 #[.float .f64 4607182418800017408,.int .i64 (k : Int)] w fun e w'=>e = .returned (.float .f64 (rN k)) /\ w = w'):=Hd (fun w=>ldexp_fin 4607182418800017408 k w (by decide) (by decide) (by decide) (by omega) (by omega))
  have HSQ : Hid (∀ w,Calls Tryz.prog 166 #[.float .f64 (rN k),.bool true] w fun e w'=>e = .returned (.float .f64 (rS k)) /\ Dr w w'):=Hd (fun w=>sqrt_fine (rN k) true w f4 f5 f6 f7)
  have hz3 : ∀ j,z3 (rS k) a b j < 2 * Fl.W:=fun j=>by unfold z3; split; exact f9; split <;> assumption
  have HP:=Hd (fun (w1 : World) c=>fproduct_any (rC k) (some ⟨w1.heap.size,0,none⟩) 3 c (z3 (rS k) a b) (w1.alloc (.cells #[.float .f64 (rS k),.float .f64 a,.float .f64 b] 76)) (by decide) f8 hz3 (fl_cells3 w1 (rS k) a b _))
  have HPL:=Hd (fun u r (hu : ProdIs (rC k) (z3 (rS k) a b) 3 u) (hr : Fl.Is (Fl.addS u 103582791429521408 true) r)=>(show r < 2 * Fl.W from Is_add_lt2 (ProdIs_lt f8 hz3 hu) (by decide) hr))
  clear f1 f2 f3 f4 f5 f6 f7 f8 f9 hz3 hz2
  go_enter Tryz.func126,Tryz.ntmps126
  go_wp2_with fail
  refine (HM.out _).mono ?_
  rintro e w1 ⟨rfl,rfl⟩
  go_wp2_with fail
  refine (HL.out _).mono ?_
  rintro e w1 ⟨rfl,rfl⟩
  go_wp2_with fail
  refine (HSQ.out _).mono ?_
  rintro e w2 ⟨rfl,hd⟩
  have HB2:=Hd (HB1.out.trans (hd.below2 _))
  clear hd
  go_wp2_with fail
  refine (HP.out w2 _).mono ?_
  rintro e w3 ⟨u,s,hu,hs,rfl,hd⟩
  have hsl:=HPL.out u s hu hs
  have HU:=Hd hu
  have HS:=Hd hs
  have HB3:=Hd ((HB2.out.alloc HB2.out.size (.cells #[.float .f64 (rS k),.float .f64 a,.float .f64 b] 76)).trans (hd.below2 _))
  clear hu hs hd
  go_wp2_with fail
  refine (isinf_any s _ hsl).mono ?_
  rintro e w4 ⟨rfl,rfl⟩
  by_cases hI : Fl.rg s = Fl.I
  ·have hdI : decide (Fl.rg s = Fl.I) = true:=decide_eq_true hI
   have HI:=Hd hI
   rw [hdI]
   clear hI hdI
   go_wp2
   go_ret2
   exact ⟨0,6,rfl,fun h=>absurd rfl h,fun _=>⟨u,s,HU.out,HS.out,.inl ⟨HI.out,rfl,rfl⟩⟩,HB3.out⟩
  ·have hdI : decide (Fl.rg s = Fl.I) = false:=decide_eq_false hI
   have HI:=Hd hI
   rw [hdI]
   clear hI hdI
   go_wp2
   go_ret2
   exact ⟨s,0,rfl,fun h=>absurd rfl h,fun _=>⟨u,s,HU.out,HS.out,.inr ⟨HI.out,rfl,rfl⟩⟩,HB3.out⟩
 ·have hne : (M == 0) = false:=by simpa using h0
  have hne2 : (M != 0) = true:=by simpa using h0
  have H0:=Hd h0
  clear h0
  go_enter Tryz.func126,Tryz.ntmps126
  go_wp2_with fail
  refine (HM.out _).mono ?_
  rintro e w1 ⟨rfl,rfl⟩
  go_wp2
  go_ret2
  exact ⟨0,M,rfl,fun _=>⟨rfl,rfl⟩,fun h=>absurd h H0.out,HB1.out⟩
end
section
open Go.RowKit
theorem RingPost.from {order : Int} {a b : Nat} {w w1 : World} {e : Ending} {w' : World} (hb : Below w.heap.size w w1) (h : RingPost order a b w1 e w') : RingPost order a b w e w':=by
 obtain ⟨s,T,h1,h2,h3,h4⟩:=h
 exact ⟨s,T,h1,h2,h3,hb.trans (h4.mono hb.size)⟩
def BndPost (n n' : Nat) (a b : List Int) (w : World) (e : Ending) (w' : World) : Prop :=
 (¬ OrdOk n n' /\ e = .returned (.tuple #[.float .f64 0,.int .i64 4]) /\ Below w.heap.size w w') \/
 (OrdOk n n' /\ ¬ (okL a /\ okL b) /\ e = .returned (.tuple #[.float .f64 0,.int .i64 6]) /\ Below w.heap.size w w') \/
 (okL a /\ okL b /\ ∃ K : Nat,K <= 14 /\ n = 2 ^ K /\ n' = n /\ RingPost K (floatOfInt .f64 (mxL a)) (floatOfInt .f64 (mxL b)) w e w')
set_option maxHeartbeats 1000000 in
theorem rbound_any (A B : Option Addr) (n n' c c' : Nat) (a b : List Int) (w : World) (hn : n < 9223372036854775808) (ha : UL w A n c a) (hb : UL w B n' c' b) (hT : TabAt 2 Lib.deBruijn64tab w)
  (hfa : floatOfInt .f64 (mxL a) < 2 * Fl.W) (hfb : floatOfInt .f64 (mxL b) < 2 * Fl.W) :
  Calls Tryz.prog 86 #[.slice A n c,.slice B n' c'] w (BndPost n n' a b w):=by
 by_cases ho : OrdOk n n'
 ·obtain ⟨K,hK,hnK,hnn⟩:=ho
  have h2 : 2 ^ K <= 2 ^ 14:=Nat.pow_le_pow_right (by decide) hK
  have h1:=Nat.two_pow_pos K
  have hn1 : 1 <= n:=by omega
  have hn2 : n <= 16384:=by omega
  have HOR:=Hd (show OrdOk n n' from ⟨K,hK,hnK,hnn⟩)
  subst hnn
  have HO:=Hd (rorder_yes K n' A B c c' w hK hnK hT)
  have HF:=Hd (rfloats_any A n' c a w hn1 hn2 ha)
  have HG:=Hd (fun u (hu : Below w.heap.size w u)=>rfloats_any B n' c' b u hn1 hn2 (hb.below hu))
  have HR:=Hd (fun u=>ring_any (K : Int) _ _ u hfa hfb)
  have HK:=Hd (show K <= 14 /\ n' = 2 ^ K from ⟨hK,hnK⟩)
  obtain ⟨x,hx⟩ : ∃ x,x = floatOfInt .f64 (mxL a):=⟨_,rfl⟩
  obtain ⟨y,hy⟩ : ∃ y,y = floatOfInt .f64 (mxL b):=⟨_,rfl⟩
  unfold BndPost
  unfold FltPost at HF HG
  rw [<- hx] at HF HR ⊢
  rw [<- hy] at HG HR ⊢
  clear ha hb hT hfa hfb hK hnK h1 h2 hx hy hn
  go_enter Tryz.func86,Tryz.ntmps86
  go_wp2_with fail
  refine HO.out.mono ?_
  rintro e w1 ⟨rfl,rfl⟩
  go_wp2_with fail
  refine HF.out.mono ?_
  rintro e w1 (⟨oa,g1,rfl,_,b1⟩ | ⟨oa,rfl,b1⟩)
  ·have OA:=Hd oa
   have HC:=Hd (HG.out w1 b1)
   have B1:=Hd b1
   clear oa b1 HF HG HO
   go_wp2_with fail
   refine HC.out.mono ?_
   rintro e w2 (⟨ob,g2,rfl,_,b2⟩ | ⟨ob,rfl,b2⟩)
   ·have OB:=Hd ob
    have B2:=Hd (B1.out.trans (b2.mono B1.out.size))
    clear ob b2
    go_wp2_with fail
    refine (HR.out w2).mono ?_
    intro e w3 h3
    obtain ⟨s,T,rfl,k1,k2,k3⟩:=h3
    have HP : Hid (RingPost K x y w (.returned (.tuple #[.float .f64 s,.int .i64 T])) w3):=Hd (RingPost.from B2.out ⟨s,T,rfl,k1,k2,k3⟩)
    clear k1 k2 k3 HC
    go_wp2_with fail
    go_ret2
    exact .inr (.inr ⟨OA.out,OB.out,K,HK.out.1,HK.out.2,trivial,HP.out⟩)
   ·have OB:=Hd ob
    have B2:=Hd (B1.out.trans (b2.mono B1.out.size))
    clear ob b2 HC
    go_wp2_with fail
    go_ret2
    exact .inr (.inl ⟨HOR.out,fun h=>OB.out h.2,rfl,B2.out⟩)
  ·have OA:=Hd oa
   have HC:=Hd (HG.out w1 b1)
   have B1:=Hd b1
   clear oa b1 HF HG HO
   go_wp2_with fail
   refine HC.out.mono ?_
   rintro e w2 (⟨ob,g2,rfl,_,b2⟩ | ⟨ob,rfl,b2⟩)
   ·have B2:=Hd (B1.out.trans (b2.mono B1.out.size))
    clear ob b2 HC
    go_wp2_with fail
    go_ret2
    exact .inr (.inl ⟨HOR.out,fun h=>OA.out h.1,rfl,B2.out⟩)
   ·have B2:=Hd (B1.out.trans (b2.mono B1.out.size))
    clear ob b2 HC
    go_wp2_with fail
    go_ret2
    exact .inr (.inl ⟨HOR.out,fun h=>OA.out h.1,rfl,B2.out⟩)
 ·have HO:=Hd (rorder_no n n' A B c c' w hn ho hT)
  have HN:=Hd ho
  unfold BndPost
  clear ho hn hT ha hb hfa hfb
  go_enter Tryz.func86,Tryz.ntmps86
  go_wp2_with fail
  refine HO.out.mono ?_
  rintro e w1 ⟨k,rfl,rfl⟩
  go_wp2_with fail
  go_ret2
  exact .inl ⟨HN.out,rfl,Below.refl _ _⟩
end
end Go.Proofs.YtnpanpkahbcecaaGreatDoor

/-
Walk: PlainNever.
-/
import Derived.Test.YtnpanpkahbcecaaGreatDoorP42
import Derived.Lib.Hide
set_option linter.unusedVariables false
set_option linter.unusedSimpArgs false
namespace Go.Proofs.YtnpanpkahbcecaaGreatDoor
section
open Go.RowKit Fl
theorem UL.cut {w : World} {A : Option Addr} {n c m : Nat} {a : List Int} (h : UL w A n c a) (hm : m <= n) : UL w A m c (a.take m) :=
 ⟨by rw [List.length_take,h.1]; omega,Nat.le_trans hm h.2.1,h.2.2.1,fun k x hk=>h.2.2.2 k x (by
  rw [List.getElem?_take] at hk
  split at hk
  ·exact hk
  ·cases hk)⟩
theorem ordP_le {n k : Nat} (h : n <= 2 ^ k) (hk : k <= 14) : ordP n <= k:=(bitLen_in k (n - 1) (by have:=Nat.two_pow_pos k; omega) (by omega)).2.1
def smx (x : Int) : Bool:=decide (-16384 <= x) && decide (x <= 16384)
def smB (l : List Int) : Bool:=l.all smx
theorem smB_take {l : List Int} {i : Nat} {x : Int} (h : l[i]? = some x) : smB (l.take (i + 1)) = (smB (l.take i) && smx x):=by
 unfold smB
 rw [List.take_add_one,h]
 simp
theorem smB_bd {l : List Int} (h : smB l = true) : ∀ x ∈ l,-16384 <= x /\ x <= 16384:=fun x hx=>by
 have:=List.all_eq_true.1 h x hx
 unfold smx at this
 rw [Bool.and_eq_true,decide_eq_true_eq,decide_eq_true_eq] at this
 exact this
theorem never_k : ∀ K : Fin 11,(FloatKind.f64.format.order (bf K.val (floatOfInt .f64 16384) (floatOfInt .f64 16384)) 4598175219545276416 == some Ordering.lt) = true:=by decide +kernel
theorem told_64 {K k : Nat} {P : Nat} {a b : List Int} (hk : k <= 14) (hK : K <= k) (hw : Wheels P k) (oa : okL a) (ob : okL b) (hab : a.length + b.length <= 2 ^ K + 1) (h : ltL K a b = true) : L64b (pcL a b) /\ ∀ i,i < 2 ^ K -> (pcI a b i).natAbs < 140737488355328:=by
 obtain ⟨l,_,_,hl⟩:=hw K hK
 obtain ⟨_,_,hsm,_⟩:=told_prod (by omega) hl oa ob (closed_any (by omega) (mx_sz oa) (mx_sz ob)).2 h
 have key : ∀ i,i < 2 ^ K -> (pcI a b i).natAbs < 140737488355328:=fun i hi=>by
  rw [<- cv_pc hab hi]
  exact hsm i
 refine ⟨fun x hx=>?_,key⟩
 by_cases h0 : a = [] \/ b = []
 ·rw [pcL_nil h0] at hx; cases hx
 ·rw [pcL_tab (fun e=>h0 (.inl e)) (fun e=>h0 (.inr e))] at hx
  unfold tabL at hx
  obtain ⟨i,hi,rfl⟩:=List.mem_map.1 hx
  have hi2:=List.mem_range.1 hi
  have:=key i (by omega)
  omega
def NvT (x y : List Int) (w : World) (e : Ending) (w' : World) : Prop:=∃ A n c E l,e = .returned (.tuple #[.slice A n c,.int .i64 E]) /\ UL w' A n c l /\ Below w.heap.size w w' /\ n <= 1000 /\ ((E = 0 /\ l = pcL x y /\ L64b (pcL x y)) \/ ((E = 6 \/ E = 8) /\ n = 0 /\ (smB x && smB y) = false))
def NvS (x y : List Int) (w : World) (e : Ending) (w' : World) : Prop:=∃ A n c E l,e = .returned (.tuple #[.slice A n c,.int .i64 E]) /\ UL w' A n c l /\ Below w.heap.size w w' /\ (L64b (pcL x y) -> E = 0 /\ l = pcL x y)
theorem nv_times {x y : List Int} {w w' : World} {e : Ending} (h : TmsPost x y w e w') (hx : x.length <= 60) (hy : y.length <= 60) : NvT x y w e w':=by
 have hnil : ∀ T,nilT T = .returned (.tuple #[.slice none 0 0,.int .i64 T]):=fun _=>rfl
 rcases h with ⟨q,_⟩ | ⟨_,⟨q,rfl,hb⟩ | ⟨h2,h3,⟨q,rfl,hb⟩ | ⟨oa,ob,⟨q,rfl,hb⟩ | ⟨q,ho⟩⟩⟩⟩
 ·omega
 ·refine ⟨none,0,0,0,[],rfl,UL.nil' _,hb,by omega,.inl ⟨rfl,(pcL_nil q).symm,?_⟩⟩
  rw [pcL_nil q]
  exact fun z hz=>by cases hz
 ·refine ⟨none,0,0,6,[],rfl,UL.nil' _,hb,by omega,.inr ⟨.inl rfl,rfl,?_⟩⟩
  cases hs : (smB x && smB y) with
  | false=>rfl
  | true =>
    rw [Bool.and_eq_true] at hs
    exact absurd ⟨fun z hz=>by have:=smB_bd hs.1 z hz; omega,fun z hz=>by have:=smB_bd hs.2 z hz; omega⟩ q
 ·have h1 : 1 <= x.length:=by rcases x with _ | ⟨z,x⟩ <;> simp at h2 ⊢
  have h1' : 1 <= y.length:=by rcases y with _ | ⟨z,y⟩ <;> simp at h3 ⊢
  have hK:=ordP_le (n:=x.length + y.length - 1) (k:=10) (Nat.le_trans (show x.length + y.length - 1 <= 1024 by omega) (by decide)) (by decide)
  refine ⟨none,0,0,8,[],rfl,UL.nil' _,hb,by omega,.inr ⟨.inr rfl,rfl,?_⟩⟩
  cases hs : (smB x && smB y) with
  | false=>rfl
  | true =>
    rw [Bool.and_eq_true] at hs
    have:=ltL_small (K:=ordP (x.length + y.length - 1)) (Ma:=16384) (Mb:=16384) (by omega) oa ob (mx_le (by omega) (smB_bd hs.1)) (by omega) (mx_le (by omega) (smB_bd hs.2)) (by omega) (never_k ⟨ordP (x.length + y.length - 1),by omega⟩)
    rw [this] at q; cases q
 ·have h1 : 1 <= x.length:=by rcases x with _ | ⟨z,x⟩ <;> simp at h2 ⊢
  have h1' : 1 <= y.length:=by rcases y with _ | ⟨z,y⟩ <;> simp at h3 ⊢
  have hK:=ordP_le (n:=x.length + y.length - 1) (k:=10) (Nat.le_trans (show x.length + y.length - 1 <= 1024 by omega) (by decide)) (by decide)
  have hN:=(ordP_spec (n:=x.length + y.length - 1) (by omega) (by omega)).2.1
  have h64:=(told_64 (k:=10) (by decide) hK wheels10 oa ob (by omega) q).1
  have hl:=pcL_len x y
  obtain ⟨A,c,rfl,hu,hb⟩:=ho.ul
  exact ⟨A,_,c,0,_,rfl,hu,hb,by omega,.inl ⟨rfl,rfl,h64⟩⟩
theorem nv_slow {x y : List Int} {w w' : World} {e : Ending} (h : SlwPost x y w e w') (hx : x.length <= 60) (hy : y.length <= 60) : NvS x y w e w':=by
 rcases h with ⟨q,_⟩ | ⟨_,⟨q,rfl,hb⟩ | ⟨h2,h3,⟨q,rfl,hb⟩ | ⟨q,ho⟩⟩⟩
 ·omega
 ·exact ⟨none,0,0,0,[],rfl,UL.nil' _,hb,fun _=>⟨rfl,(pcL_nil q).symm⟩⟩
 ·exact ⟨none,0,0,6,[],rfl,UL.nil' _,hb,fun h=>absurd h q⟩
 ·obtain ⟨A,c,rfl,hu,hb⟩:=ho.ul
  exact ⟨A,_,c,0,_,rfl,hu,hb,fun _=>⟨rfl,rfl⟩⟩
end
section
open Go.RowKit
set_option maxRecDepth 100000 in
set_option maxHeartbeats 4000000 in
theorem plainNever_walk (W : World) (A : Option Addr) (n c : Nat) (a : List Int) (B : Option Addr) (n' c' : Nat) (b : List Int) (hn : n <= 20000000000000) (hn' : n' <= 20000000000000) (ha : UL W A n c a) (la : L64 a) (hb : UL W B n' c' b) (lb : L64 b) (hR : RWd An.PI W) :
  Calls Tryz.prog 4 #[.slice A n c,.slice B n' c'] W fun e w'=>e = .returned (.bool true) /\ Below W.heap.size W w':=by
 have HA:=Hd ha
 have HB:=Hd hb
 have HRW:=Hd hR
 have HAW:=Hd (pawake_any W hR)
 have L64A : Hid (L64b a):=Hd (fun x hx=>by have:=la x hx; omega)
 have L64B : Hid (L64b b):=Hd (fun x hx=>by have:=lb x hx; omega)
 have hnc : n <= c:=ha.2.1
 have hnc' : n' <= c':=hb.2.1
 clear ha hb hR la lb
 go_enter Tryz.func4,Tryz.ntmps4
 go_wp2_with fail
 refine HAW.out.mono ?_
 rintro e w1 ⟨rfl,b1⟩
 have B1:=Hd b1
 clear b1 HAW
 go_upto_if 16 with fail
 go_cut [0,17,18] (fun s0 _ _ wx=>wx = w1 /\ ∃ m,s0 = .slice A m c /\ m <= 60 /\ m <= n)
 case first =>
  by_cases h60 : 60 < n
  ·have hd : decide ((60 : Int) < (n : Int)) = true:=decide_eq_true (by omega)
   have hc60 : (60 : Int) <= (c : Int):=by omega
   have hc61 : 60 <= c:=by omega
   go_wp2_with fail
   go_meet
   exact ⟨rfl,60,rfl,by omega,by omega⟩
  ·have hd : decide ((60 : Int) < (n : Int)) = false:=decide_eq_false (by omega)
   go_wp2_with fail
   go_meet
   exact ⟨rfl,n,rfl,by omega,by omega⟩
 case rest =>
  obtain ⟨rfl,m,rfl,hm,hmn⟩:=hcut
  go_upto_if 21 with fail
  go_cut [1,22,23] (fun s1 _ _ wx=>wx = wc /\ ∃ m',s1 = .slice B m' c' /\ m' <= 60 /\ m' <= n')
  case first =>
   by_cases h60 : 60 < n'
   ·have hd : decide ((60 : Int) < (n' : Int)) = true:=decide_eq_true (by omega)
    have hc60 : (60 : Int) <= (c' : Int):=by omega
    have hc61 : 60 <= c':=by omega
    go_wp2_with fail
    go_meet
    exact ⟨rfl,60,rfl,by omega,by omega⟩
   ·have hd : decide ((60 : Int) < (n' : Int)) = false:=decide_eq_false (by omega)
    go_wp2_with fail
    go_meet
    exact ⟨rfl,n',rfl,by omega,by omega⟩
  case rest =>
   obtain ⟨rfl,m',rfl,hm',hmn'⟩:=hcut
   obtain ⟨x,hx⟩ : ∃ x,x = a.take m:=⟨_,rfl⟩
   obtain ⟨y,hy⟩ : ∃ y,y = b.take m':=⟨_,rfl⟩
   have HX : Hid (UL W A m c x):=Hd (by rw [hx]; exact HA.out.cut hmn)
   have HY : Hid (UL W B m' c' y):=Hd (by rw [hy]; exact HB.out.cut hmn')
   have HXL : Hid (x.length = m /\ y.length = m'):=Hd ⟨HX.out.1,HY.out.1⟩
   have WX : Hid (L64b x):=Hd (by rw [hx]; exact fun z hz=>L64A.out z (List.mem_of_mem_take hz))
   have WY : Hid (L64b y):=Hd (by rw [hy]; exact fun z hz=>L64B.out z (List.mem_of_mem_take hz))
   have C1:=Hd (ptimes_any An.PI 10 A B m c m' c' x y wc (by omega) (by omega) (HX.out.below B1.out) (HY.out.below B1.out) (HRW.out.below B1.out) wheels10 (fun _ _ _=>ordP_le (Nat.le_trans (show m + m' - 1 <= 1024 by omega) (by decide)) (by decide)))
   clear hx hy HA HB L64A L64B
   go_wp2_with fail
   refine C1.out.mono ?_
   intro e w2 h2
   have h2':=nv_times h2 (by rw [HXL.out.1]; exact hm) (by rw [HXL.out.2]; exact hm')
   unfold NvT at h2'
   obtain ⟨A1,n1,c1,E,l1,rfl,r1,b2,hn1,hE⟩:=h2'
   have R1:=Hd r1
   have HE:=Hd hE
   have B2:=Hd (B1.out.trans (b2.mono B1.out.size))
   have C2:=Hd (pslowly_any A B m c m' c' x y w2 (by omega) (by omega) (HX.out.below B2.out) (HY.out.below B2.out) WX.out WY.out)
   clear r1 hE b2 h2 C1 B1
   go_wp2_with fail
   refine C2.out.mono ?_
   intro e w3 h3
   have h3':=nv_slow h3 (by rw [HXL.out.1]; exact hm) (by rw [HXL.out.2]; exact hm')
   unfold NvS at h3'
   obtain ⟨A2,n2,c2,F,l2,rfl,r2,b3,hF⟩:=h3'
   have R1':=Hd (R1.out.below b3)
   have R2:=Hd r2
   have HF:=Hd hF
   have B3:=Hd (B2.out.trans (b3.mono B2.out.size))
   clear r2 hF b3 h3 C2 B2 R1
   go_wp2_with fail
   go_loopw [10,9] (fun iv sv wr=>∃ i : Nat,iv = .int .i64 i /\ sv = .bool (smB (x.take i)) /\ i <= m /\ Hid (w3 = wr)) (fun iv _ _=>m - (intOf iv).toNat)
   case atStart=>exact ⟨0,rfl,rfl,Nat.zero_le _,Hd rfl⟩
   case round =>
    obtain ⟨i,rfl,rfl,hi,HW⟩:=hrel
    have hww:=HW.out
    subst hww
    clear HW
    by_cases hlt : i < m
    ·obtain ⟨z,hz⟩ : ∃ z,x[i]? = some z:=⟨_,List.getElem?_eq_getElem (by rw [HXL.out.1]; exact hlt)⟩
     obtain ⟨ad,rfl,_,d1⟩:=(HX.out.below B3.out).2.2.2 i z hz
     have HN:=Hd (smB_take hz)
     obtain ⟨s,hs⟩ : ∃ s,s = smB (x.take i):=⟨_,rfl⟩
     rw [<- hs] at HN
     rw [<- hs]
     clear hs hz
     cases s with
     | false =>
       have HQ : Hid (smB (x.take (i + 1)) = false):=Hd (by rw [HN.out]; rfl)
       go_wp2_with fail
       exact ⟨⟨i + 1,by go_num,by first | rw [HQ.out] | simp [HQ.out],hlt,Hd trivial⟩,by simp [intOf]; omega⟩
     | true =>
       by_cases g1 : -16384 <= z
       ·have t1 : decide (-16384 <= z) = true:=decide_eq_true g1
        by_cases g2 : z <= 16384
        ·have t2 : decide (z <= 16384) = true:=decide_eq_true g2
         have HQ : Hid (smB (x.take (i + 1)) = true):=Hd (by rw [HN.out]; unfold smx; rw [t1,t2]; rfl)
         go_wp2_with fail
         exact ⟨⟨i + 1,by go_num,by first | rw [HQ.out] | simp [HQ.out],hlt,Hd trivial⟩,by simp [intOf]; omega⟩
        ·have t2 : decide (z <= 16384) = false:=decide_eq_false g2
         have HQ : Hid (smB (x.take (i + 1)) = false):=Hd (by rw [HN.out]; unfold smx; rw [t1,t2]; rfl)
         go_wp2_with fail
         exact ⟨⟨i + 1,by go_num,by first | rw [HQ.out] | simp [HQ.out],hlt,Hd trivial⟩,by simp [intOf]; omega⟩
       ·have t1 : decide (-16384 <= z) = false:=decide_eq_false g1
        have HQ : Hid (smB (x.take (i + 1)) = false):=Hd (by rw [HN.out]; unfold smx; rw [t1]; rfl)
        go_wp2_with fail
        exact ⟨⟨i + 1,by go_num,by first | rw [HQ.out] | simp [HQ.out],hlt,Hd trivial⟩,by simp [intOf]; omega⟩
    ·obtain rfl : m = i:=by omega
     rw [List.take_of_length_le (by rw [HXL.out.1]; exact Nat.le_refl _)]
     have HS1 : Hid (∀ l,(smB x && smB (List.take 0 l)) = smB x):=Hd (fun l=>by simp [smB])
     obtain ⟨s1,hs1⟩ : ∃ s1,s1 = smB x:=⟨_,rfl⟩
     rw [<- hs1] at HS1
     rw [<- hs1]
     have HSX:=Hd hs1
     clear hs1
     go_wp2_with fail
     go_loopw [11,9] (fun iv sv wr=>∃ i : Nat,iv = .int .i64 i /\ sv = .bool (s1 && smB (y.take i)) /\ i <= m' /\ Hid (w3 = wr)) (fun iv _ _=>m' - (intOf iv).toNat)
     case atStart=>exact ⟨0,rfl,by rw [HS1.out],Nat.zero_le _,Hd rfl⟩
     case round =>
      obtain ⟨i,rfl,rfl,hi,HW⟩:=hrel
      have hww:=HW.out
      subst hww
      clear HW
      by_cases hlt : i < m'
      ·obtain ⟨z,hz⟩ : ∃ z,y[i]? = some z:=⟨_,List.getElem?_eq_getElem (by rw [HXL.out.2]; exact hlt)⟩
       obtain ⟨ad,rfl,_,d1⟩:=(HY.out.below B3.out).2.2.2 i z hz
       have HN : Hid ((s1 && smB (y.take (i + 1))) = ((s1 && smB (y.take i)) && smx z)):=Hd (by rw [smB_take hz,Bool.and_assoc])
       obtain ⟨s,hs⟩ : ∃ s,s = (s1 && smB (y.take i)):=⟨_,rfl⟩
       rw [<- hs] at HN
       rw [<- hs]
       clear hs hz
       cases s with
       | false =>
         have HQ : Hid ((s1 && smB (y.take (i + 1))) = false):=Hd (by rw [HN.out]; rfl)
         go_wp2_with fail
         exact ⟨⟨i + 1,by go_num,by first | rw [HQ.out] | simp [HQ.out],hlt,Hd trivial⟩,by simp [intOf]; omega⟩
       | true =>
         by_cases g1 : -16384 <= z
         ·have t1 : decide (-16384 <= z) = true:=decide_eq_true g1
          by_cases g2 : z <= 16384
          ·have t2 : decide (z <= 16384) = true:=decide_eq_true g2
           have HQ : Hid ((s1 && smB (y.take (i + 1))) = true):=Hd (by rw [HN.out]; unfold smx; rw [t1,t2]; rfl)
           go_wp2_with fail
           exact ⟨⟨i + 1,by go_num,by first | rw [HQ.out] | simp [HQ.out],hlt,Hd trivial⟩,by simp [intOf]; omega⟩
          ·have t2 : decide (z <= 16384) = false:=decide_eq_false g2
           have HQ : Hid ((s1 && smB (y.take (i + 1))) = false):=Hd (by rw [HN.out]; unfold smx; rw [t1,t2]; rfl)
           go_wp2_with fail
           exact ⟨⟨i + 1,by go_num,by first | rw [HQ.out] | simp [HQ.out],hlt,Hd trivial⟩,by simp [intOf]; omega⟩
         ·have t1 : decide (-16384 <= z) = false:=decide_eq_false g1
          have HQ : Hid ((s1 && smB (y.take (i + 1))) = false):=Hd (by rw [HN.out]; unfold smx; rw [t1]; rfl)
          go_wp2_with fail
          exact ⟨⟨i + 1,by go_num,by first | rw [HQ.out] | simp [HQ.out],hlt,Hd trivial⟩,by simp [intOf]; omega⟩
      ·obtain rfl : m' = i:=by omega
       rw [List.take_of_length_le (by rw [HXL.out.2]; exact Nat.le_refl _)]
       have HTT : Hid ((smB x && smB y) = false -> (s1 && smB y) = false):=Hd (fun h=>by rw [HSX.out]; exact h)
       obtain ⟨T,hT⟩ : ∃ T,T = (s1 && smB y):=⟨_,rfl⟩
       rw [<- hT] at HTT
       rw [<- hT]
       clear hT
       rcases HE.out with ⟨rfl,e1,e2⟩ | ⟨e1,e2,e3⟩
       ·obtain ⟨rfl,e4⟩:=HF.out e2
        have hnn : n2 = n1:=by
         have q1:=R1'.out.1
         have q2:=R2.out.1
         rw [e1] at q1
         rw [e4] at q2
         omega
        subst hnn
        have R2':=R2.out
        rw [e4,<- e1] at R2'
        have C3:=Hd (same_longs A1 n2 c1 A2 c2 l1 w3 (by omega) R1'.out R2')
        clear R2' e1 e2 e4 HE HF
        go_wp2_with fail
        refine C3.out.mono ?_
        rintro e w4 ⟨rfl,b4⟩
        have B4:=Hd (B3.out.trans (b4.mono B3.out.size))
        clear b4 C3
        go_wp2_with fail
        go_ret
        exact ⟨rfl,B4.out⟩
       ·have hTf:=HTT.out e3
        subst hTf
        subst e2
        clear e3 HE HF
        rcases e1 with rfl | rfl
        ·go_wp2_with fail
         go_ret
         exact ⟨rfl,B3.out⟩
        ·go_wp2_with fail
         go_ret
         exact ⟨rfl,B3.out⟩
end
end Go.Proofs.YtnpanpkahbcecaaGreatDoor

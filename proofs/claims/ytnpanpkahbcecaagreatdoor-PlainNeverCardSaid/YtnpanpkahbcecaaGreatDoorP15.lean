/-
Walk: big's times.
-/
import Derived.Test.YtnpanpkahbcecaaGreatDoorP14
import Derived.Deep.QuietTactic
import Derived.BigQuiet
import Derived.Deep.RegionWith
import Derived.Lib.Hide
set_option linter.unusedVariables false
set_option linter.unusedSimpArgs false
namespace Go.Proofs.YtnpanpkahbcecaaGreatDoor
section
open Go.RowKit
set_option maxRecDepth 100000 in
set_option maxHeartbeats 4000000 in
theorem bcompare_any (A : Option Addr) (n c X : Nat) (A' : Option Addr) (n' c' Y : Nat) (w : World) (h : NU w A n c X) (h' : NU w A' n' c' Y) :
  Calls Tryz.prog 76 #[.slice A n c,.slice A' n' c'] w fun e w'=>e = .returned (.int .i64 (if X < Y then -1 else if Y < X then 1 else 0)) /\ Below w.heap.size w w':=by
 obtain ⟨i0,hi0,hz0,hz1,hz2⟩:=info_parts u64_info
 obtain ⟨hn1,hn2⟩:=h.len
 obtain ⟨hm1,hm2⟩:=h'.len
 obtain ⟨l,hl⟩ : ∃ l,l = Nt.dg 18446744073709551616 X:=⟨_,rfl⟩
 obtain ⟨m,hm⟩ : ∃ m,m = Nt.dg 18446744073709551616 Y:=⟨_,rfl⟩
 have HU1 : Hid (U w A n c l):=Hd (by rw [hl]; exact h.1)
 have HU2 : Hid (U w A' n' c' m):=Hd (by rw [hm]; exact h'.1)
 have HD1 : Hid (Nt.Dig 18446744073709551616 l):=Hd (by rw [hl]; exact Nt.dig_dg _ (by decide) _)
 have HD2 : Hid (Nt.Dig 18446744073709551616 m):=Hd (by rw [hm]; exact Nt.dig_dg _ (by decide) _)
 have HV1 : Hid (Nt.val 18446744073709551616 l = X):=Hd (by rw [hl]; exact Nt.val_dg _ (by decide) _)
 have HV2 : Hid (Nt.val 18446744073709551616 m = Y):=Hd (by rw [hm]; exact Nt.val_dg _ (by decide) _)
 have HS : Hid ((n < n' -> X < Y) /\ (n' < n -> Y < X)):=Hd ⟨fun hlt=>Nt.len_lt 18446744073709551616 (by decide) X Y (by omega),fun hlt=>Nt.len_lt 18446744073709551616 (by decide) Y X (by omega)⟩
 have HLT:=Hd (fun i x y (h1 : l[i]? = some x) (h2 : m[i]? = some y) (h : l.drop (i + 1) = m.drop (i + 1))=>(⟨fun hxy=>by have:=Nt.val_lt_of 18446744073709551616 (by decide) l m HD1.out HD2.out i x y h1 h2 h hxy; rwa [HV1.out,HV2.out] at this,fun hxy=>by have:=Nt.val_lt_of 18446744073709551616 (by decide) m l HD2.out HD1.out i y x h2 h1 h.symm hxy; rwa [HV1.out,HV2.out] at this⟩ : (x < y -> X < Y) /\ (y < x -> Y < X)))
 obtain ⟨R,hR⟩ : ∃ R : Int,R = if X < Y then -1 else if Y < X then 1 else 0:=⟨_,rfl⟩
 have HR1 : Hid (X < Y -> -1 = R):=Hd (fun h=>by rw [hR,if_pos h])
 have HR2 : Hid (Y < X -> 1 = R):=Hd (fun h=>by rw [hR,if_neg (by omega),if_pos h])
 have HR3 : Hid (X = Y -> 0 = R):=Hd (fun h=>by rw [hR,if_neg (by omega),if_neg (by omega)])
 rw [<- hR]
 clear h h' hl hm hn1 hm1 hR
 rcases Nat.lt_trichotomy n n' with h0 | h0 | h0
 ·have HQ:=Hd (HR1.out (HS.out.1 h0))
  go_enter Tryz.func76,Tryz.ntmps76
  go_wp2
  go_ret
  exact ⟨congrArg (fun z=>Ending.returned (.int .i64 z)) HQ.out,Below.refl _ _⟩
 ·subst h0
  go_enter Tryz.func76,Tryz.ntmps76
  go_wp2_with fail
  go_loopw [5] (fun iv wr=>∃ i : Nat,i <= n /\ iv = .int .i64 ((i : Int) - 1) /\ Hid (l.drop i = m.drop i) /\ Hid (Below w.heap.size w wr)) (fun iv _=>(intOf iv + 1).toNat)
  case atStart=>exact ⟨n,Nat.le_refl _,by go_num,Hd (by rw [List.drop_eq_nil_of_le (by have:=HU1.out.1; omega),List.drop_eq_nil_of_le (by have:=HU2.out.1; omega)]),Hd (Below.refl _ _)⟩
  case round =>
   obtain ⟨i,hi,rfl,HE,HB⟩:=hrel
   rcases i with _ | j
   ·have hE:=HE.out
    have hEq : l = m:=by simpa using hE
    have HQ:=Hd (HR3.out (by rw [<- HV1.out,<- HV2.out,hEq]))
    clear hE hEq
    have hs0 : decide ((0 : Int) <= ((0 : Nat) : Int) - 1) = false:=by decide
    go_wp2
    go_ret
    exact ⟨congrArg (fun z=>Ending.returned (.int .i64 z)) HQ.out,HB.out⟩
   ·obtain ⟨x,hx⟩ : ∃ x,l[j]? = some x:=⟨_,List.getElem?_eq_getElem (by have:=HU1.out.1; omega)⟩
    obtain ⟨y,hy⟩ : ∃ y,m[j]? = some y:=⟨_,List.getElem?_eq_getElem (by have:=HU2.out.1; omega)⟩
    obtain ⟨ad,rfl,_,hc1⟩:=(HU1.out.below HB.out).2.2.2 j x hx
    obtain ⟨ad',rfl,_,hc2⟩:=(HU2.out.below HB.out).2.2.2 j y hy
    have hs1 : ((j + 1 : Nat) : Int) - 1 = (j : Int):=by omega
    rw [hs1]
    have hjn : j < n:=by omega
    have hE2:=HE.out
    have HC:=Hd (HLT.out j x y hx hy hE2)
    have HEN : Hid (x = y -> l.drop j = m.drop j):=Hd (fun hxy=>by
     rw [List.drop_eq_getElem_cons (show j < l.length by have:=HU1.out.1; omega),List.drop_eq_getElem_cons (show j < m.length by have:=HU2.out.1; omega),hE2]
     rw [List.getElem?_eq_getElem (by have:=HU1.out.1; omega)] at hx
     rw [List.getElem?_eq_getElem (by have:=HU2.out.1; omega)] at hy
     rw [Option.some.inj hx,Option.some.inj hy,hxy])
    clear hE2 hx hy
    have hg0 : decide ((0 : Int) <= (j : Int)) = true:=decide_eq_true (by omega)
    go_wp2_with fail
    go_quiet (fail)
    rename_i nq
    have HD3:=Hd (HB.out.trans (show Below w.heap.size wr (wr.drewN nq) from ⟨rfl,rfl,rfl,Nat.le_refl _,fun _ _=>rfl⟩))
    rcases Int.lt_trichotomy x y with h | h | h
    ·have HQ:=Hd (HR1.out (HC.out.1 h))
     have t1 : decide (x < y) = true:=decide_eq_true h
     have t0 : (x != y) = true:=by simp; omega
     clear h
     go_wp2_with fail
     go_quiet (fail)
     go_wp2
     go_ret
     exact ⟨congrArg (fun z=>Ending.returned (.int .i64 z)) HQ.out,HD3.out.trans ⟨rfl,rfl,rfl,Nat.le_refl _,fun _ _=>rfl⟩⟩
    ·have HQ:=Hd (HEN.out h)
     have t0 : (x != y) = false:=by simpa using h
     subst h
     go_wp2
     go_roundw
     case rel=>exact ⟨j,by omega,by go_num,HQ,HD3⟩
     case measure=>simp [intOf]
    ·have HQ:=Hd (HR2.out (HC.out.2 h))
     have t1 : decide (x < y) = false:=decide_eq_false (by omega)
     have t0 : (x != y) = true:=by simp; omega
     clear h
     go_wp2_with fail
     go_quiet (fail)
     go_wp2
     go_ret
     exact ⟨congrArg (fun z=>Ending.returned (.int .i64 z)) HQ.out,HD3.out.trans ⟨rfl,rfl,rfl,Nat.le_refl _,fun _ _=>rfl⟩⟩
 ·have HQ:=Hd (HR2.out (HS.out.2 h0))
  go_enter Tryz.func76,Tryz.ntmps76
  go_wp2
  go_ret
  exact ⟨congrArg (fun z=>Ending.returned (.int .i64 z)) HQ.out,Below.refl _ _⟩
end
section
open Go.RowKit
theorem drop_set_self (o : List Int) (j : Nat) (q : Int) (h : j < o.length) : (o.set j q).drop j = q :: o.drop (j + 1):=by
 rw [List.drop_eq_getElem_cons (by simpa using h),List.getElem_set_self,List.drop_set_of_lt (by omega)]
theorem short_step (B y Q R V W x rest : Nat) (h : V * y + rest = W) (hQ : Q * y + R = rest * B + x) : (Q + B * V) * y + R = x + B * W:=by
 rw [<- h,Nat.add_mul,Nat.mul_add,Nat.mul_assoc,Nat.mul_comm B rest]
 omega
set_option maxRecDepth 100000 in
set_option maxHeartbeats 4000000 in
theorem bshort_any (A : Option Addr) (n c X y : Nat) (w : World) (h : NU w A n c X) (hy : y ≠ 0) (hy2 : y < 4294967296) :
  Calls Tryz.prog 250 #[.slice A n c,.int .u64 y] w fun e w'=>∃ A' n' c',e = .returned (.tuple #[.slice A' n' c',.int .u64 ((X % y : Nat) : Int)]) /\ NU w' A' n' c' (X / y) /\ Below w.heap.size w w':=by
 obtain ⟨i0,hi0,hz0,hz1,hz2⟩:=info_parts u64_info
 obtain ⟨hn1,hn2⟩:=h.len
 obtain ⟨l,hl⟩ : ∃ l,l = Nt.dg 18446744073709551616 X:=⟨_,rfl⟩
 have HU1 : Hid (U w A n c l):=Hd (by rw [hl]; exact h.1)
 have HD1 : Hid (Nt.Dig 18446744073709551616 l):=Hd (by rw [hl]; exact Nt.dig_dg _ (by decide) _)
 have HV1 : Hid (Nt.val 18446744073709551616 l = X):=Hd (by rw [hl]; exact Nt.val_dg _ (by decide) _)
 have HRB : Hid (X / y < BL):=Hd (Nat.lt_of_le_of_lt (Nat.div_le_self _ _) h.2)
 have HY : Hid (y ≠ 0 /\ y < 4294967296):=Hd ⟨hy,hy2⟩
 have HDV : Hid (∀ (hi lo : Nat) (w : World),hi < y -> lo < 18446744073709551616 -> Calls Tryz.prog 252 #[.int .u64 hi,.int .u64 lo,.int .u64 y] w fun e w'=>e = .returned (.tuple #[.int .u64 (((hi * 18446744073709551616 + lo) / y : Nat) : Int),.int .u64 (((hi * 18446744073709551616 + lo) % y : Nat) : Int)]) /\ Below w.heap.size w w'):=Hd (fun hi lo w h1 h2=>div64_any hi lo y w hy h1 h2 hy2)
 obtain ⟨RX,hRX⟩ : ∃ RX,RX = X % y:=⟨_,rfl⟩
 have HRX:=Hd hRX
 rw [<- hRX]
 clear h hl hn1 hy hy2 hRX
 go_enter Tryz.func250,Tryz.ntmps250
 go_wp2_with (refine wpList_make_full _ rfl (.tmp 10) (.tmp 10) 66 rfl w.heap.size 105 i0 _ 1 Tryz.underlying66 hi0 hz0 hz1 .i64 .i64 _ _ n rfl rfl (by omega) (by omega) (by rw [hz2]; omega) (by simp only [maxLen]; omega) (Nat.le_refl _) ?_; intro w1 hown1 hg1; have HB1:=Hd ((Below.refl w.heap.size w).grown hg1 (Nat.le_refl _) (fun k hk=>by cases hk)); have ROW:=Hd (Row.made hown1); clear hown1 hg1)
 go_loopw [7,8] (fun rv iv wr=>∃ (j rest : Nat) (o : List Int),iv = .int .i64 ((j : Int) - 1) /\ rv = .int .u64 rest /\ j <= n /\ Hid (rest < y) /\ Hid (Nt.val 18446744073709551616 (o.drop j) * y + rest = Nt.val 18446744073709551616 (l.drop j)) /\ Hid (RowC wr w.heap.size w.heap.size n n o) /\ Hid (Nt.Dig 18446744073709551616 o) /\ Hid (Below w.heap.size w wr)) (fun _ iv _=>(intOf iv + 1).toNat)
 case atStart=>exact ⟨n,0,List.replicate n 0,by go_num,rfl,Nat.le_refl _,Hd (Nat.pos_of_ne_zero HY.out.1),Hd (by rw [List.drop_eq_nil_of_le (by simp),List.drop_eq_nil_of_le (by have:=HU1.out.1; omega)]; simp [Nt.val]),Hd (RowC.of ROW.out),Hd (fun z hz=>by rw [(List.mem_replicate.1 hz).2]; decide),HB1⟩
 case round =>
  clear ROW HB1
  obtain ⟨j,rest,o,rfl,rfl,hj,HRT,HI,HR,HO,HB⟩:=hrel
  rcases j with _ | j
  ·have hol:=HR.out.len
   have HFI : Hid (Nt.val 18446744073709551616 o = X / y /\ rest = RX):=Hd (by
    have h1:=HI.out
    rw [List.drop_zero,List.drop_zero,HV1.out] at h1
    have h2 : X / y = Nt.val 18446744073709551616 o:=by
     rw [<- h1,Nat.mul_comm,Nat.mul_add_div (Nat.pos_of_ne_zero HY.out.1),Nat.div_eq_of_lt HRT.out,Nat.add_zero]
    refine ⟨h2.symm,?_⟩
    rw [HRX.out,<- h1,Nat.mul_comm,Nat.mul_add_mod,Nat.mod_eq_of_lt HRT.out])
   have HTO:=Hd (btrim_nu (some ⟨w.heap.size,0,none⟩) n n o (X / y) _ HR.out.u (by omega) HO.out HFI.out.1 HRB.out)
   have hs0 : decide ((0 : Int) <= ((0 : Nat) : Int) - 1) = false:=by decide
   clear hol
   go_wp2_with fail
   refine HTO.out.mono ?_
   rintro e w5 ⟨k5,rfl,hn5,rfl⟩
   have HN5:=Hd hn5
   clear hn5
   go_wp2
   go_ret2
   exact ⟨_,_,_,by rw [HFI.out.2]; rfl,HN5.out,HB.out⟩
  ·obtain ⟨x,hx⟩ : ∃ x,l[j]? = some x:=⟨_,List.getElem?_eq_getElem (by have:=HU1.out.1; omega)⟩
   obtain ⟨ad,rfl,_,hcx⟩:=(HU1.out.below HB.out).2.2.2 j x hx
   have hxb:=HD1.out x (List.mem_of_getElem? hx)
   obtain ⟨xn,rfl⟩ : ∃ xn : Nat,x = xn:=⟨x.toNat,by omega⟩
   have hxn : xn < 18446744073709551616:=by omega
   have hol:=HR.out.len
   have HC:=Hd (fun w=>HDV.out rest xn w HRT.out hxn)
   obtain ⟨Q,hQ⟩ : ∃ Q,Q = (rest * 18446744073709551616 + xn) / y:=⟨_,rfl⟩
   obtain ⟨R,hR⟩ : ∃ R,R = (rest * 18446744073709551616 + xn) % y:=⟨_,rfl⟩
   rw [<- hQ,<- hR] at HC
   have hQR : Q * y + R = rest * 18446744073709551616 + xn:=by rw [hQ,hR,Nat.mul_comm]; exact Nat.div_add_mod _ _
   have HRT2 : Hid (R < y):=Hd (by rw [hR]; exact Nat.mod_lt _ (Nat.pos_of_ne_zero HY.out.1))
   have hQb : Q < 18446744073709551616:=by
    rw [hQ]
    refine (Nat.div_lt_iff_lt_mul (Nat.pos_of_ne_zero HY.out.1)).2 ?_
    have h1:=Nat.mul_le_mul_right 18446744073709551616 (show rest + 1 <= y from HRT.out)
    rw [Nat.add_mul,Nat.one_mul,Nat.mul_comm y] at h1
    omega
   have HO2 : Hid (Nt.Dig 18446744073709551616 (o.set j (Q : Int))):=Hd (HO.out.set j Q (by omega) (by omega))
   have HI2 : Hid (Nt.val 18446744073709551616 ((o.set j (Q : Int)).drop j) * y + R = Nt.val 18446744073709551616 (l.drop j)):=Hd (by
    rw [drop_set_self o j Q (by omega),List.drop_eq_getElem_cons (show j < l.length by have:=HU1.out.1; omega)]
    have hx2 : l[j]'(by have:=HU1.out.1; omega) = (xn : Int):=by
     rw [List.getElem?_eq_getElem (by have:=HU1.out.1; omega)] at hx
     exact Option.some.inj hx
    rw [hx2]
    simp only [Nt.val,Int.toNat_natCast]
    exact short_step _ _ _ _ _ _ _ _ HI.out hQR)
   obtain ⟨v0,hv0⟩ : ∃ v0,o[j]? = some v0:=⟨_,List.getElem?_eq_getElem (by omega)⟩
   have hs1 : ((j + 1 : Nat) : Int) - 1 = (j : Int):=by omega
   rw [hs1]
   have hjn : j < n:=by omega
   have hg0 : decide ((0 : Int) <= (j : Int)) = true:=decide_eq_true (by omega)
   clear hQ hR hQR hQb hx hxn hxb hs1
   go_wp2_with fail
   refine (HC.out _).mono ?_
   rintro e w5 ⟨rfl,hb5⟩
   have HB5:=Hd (HB.out.trans (hb5.mono HB.out.size))
   have HR5 : Hid (RowC w5 w.heap.size w.heap.size n n o):=Hd (HR.out.below hb5)
   clear hb5
   have hcv:=HR5.out.cell j v0 hv0
   have hfr:=HR5.out.free j
   have HRN:=Hd (HR5.out.set j (Q : Int))
   have HBN:=Hd (HB5.out.setCell (p:=⟨w.heap.size,j,none⟩) (Nat.le_refl _) (.int .u64 (Q : Int)))
   clear hv0 hol
   go_wp2_with fail
   exact ⟨⟨j,R,_,by go_num,rfl,by omega,HRT2,HI2,HRN,HO2,HBN⟩,by simp [intOf]⟩
end
section
open Go.RowKit
theorem dg_one (y : Nat) (hy : y ≠ 0) (hy2 : y < 18446744073709551616) : Nt.dg 18446744073709551616 y = [(y : Int)]:=by
 rw [Nt.dg_pos _ _ (by decide) hy,Nat.div_eq_of_lt hy2,Nt.dg_zero,Nat.mod_eq_of_lt hy2]
theorem U_new1 (w : World) (p : Int) (t : TypeId) : U (w.alloc (.cells #[.int .u64 p] t)) (some ⟨w.heap.size,0,none⟩) 1 1 [p] :=
 ⟨rfl,Nat.le_refl _,(fun h=>by cases h),fun k x hk=>by
  have h:=(cellU1 w p t).2.1
  rcases k with _ | k
  ·refine ⟨_,rfl,by simp,?_⟩
   exact h 0 (.int .u64 p) rfl |>.trans (by simp at hk; rw [hk])
  ·simp at hk⟩
theorem own_empty (w : World) (t : TypeId) : (w.alloc (.cells #[] t)).ownsRow w.heap.size t 1 (.slice (some ⟨w.heap.size,0,none⟩) 0 0) 0 []:=by
 have h:=World.ownsRow_lit (base:=w.heap.size) (e:=t) (size:=1) w #[] 0 (Nat.le_refl _) (by simp only [maxLen]; omega) rfl
 exact h
set_option maxRecDepth 100000 in
set_option maxHeartbeats 4000000 in
theorem bover_any (A : Option Addr) (n c X : Nat) (A' : Option Addr) (n' c' y : Nat) (w : World) (h : NU w A n c X) (h' : NU w A' n' c' y) (hy : y ≠ 0) (hy2 : y < 4294967296) :
  Calls Tryz.prog 249 #[.slice A n c,.slice A' n' c'] w fun e w'=>∃ A1 n1 c1 A2 n2 c2,e = .returned (.tuple #[.slice A1 n1 c1,.slice A2 n2 c2]) /\ NU w' A1 n1 c1 (X / y) /\ NU w' A2 n2 c2 (X % y) /\ Below w.heap.size w w':=by
 obtain ⟨i0,hi0,hz0,hz1,hz2⟩:=info_parts u64_info
 obtain ⟨hn1,hn2⟩:=h.len
 have hdy:=dg_one y hy (by omega)
 have hm1:=h'.len.1
 rw [hdy] at hm1
 have hm2 : n' = 1:=hm1
 subst hm2
 have hcy:=h'.1.2.2.2 0 (y : Int) (by rw [hdy]; rfl)
 obtain ⟨ad',rfl,_,_⟩:=hcy
 have HCY : Hid (∀ x,Below w.heap.size w x -> x.cell? ad' = some (.int .u64 y)):=Hd (fun x hb=>by
  obtain ⟨ad2,e2,_,hc2⟩:=(h'.below hb).1.2.2.2 0 (y : Int) (by rw [hdy]; rfl)
  obtain rfl : ad' = ad2:=Option.some.inj e2
  rw [Addr.add_zero' ad'] at hc2
  exact hc2)
 have HC:=Hd (bcompare_any A n c X (some ad') 1 c' y w h h')
 have HN:=Hd h
 have hy3 : y < BL:=h'.2
 by_cases hlt : X < y
 ·rw [if_pos hlt] at HC
  have e1 : X / y = 0:=Nat.div_eq_of_lt hlt
  have e2 : X % y = X:=Nat.mod_eq_of_lt hlt
  rw [e1,e2]
  obtain ⟨l,hl⟩ : ∃ l,l = Nt.dg 18446744073709551616 X:=⟨_,rfl⟩
  have HU : Hid (∀ x,Below w.heap.size w x -> U x A n c l):=Hd (fun x hb=>by rw [hl]; exact (h.below hb).1)
  have HL:=Hd hl
  have HX:=Hd h.2
  clear h h' hdy hm1 e1 e2 hlt hl hy hy2 hy3 hn1
  by_cases h0 : n = 0
  ·subst h0
   have HX0 : Hid (X = 0):=Hd (HN.out.zero.1 rfl)
   have HA : Hid (A = none -> c = 0):=Hd (fun h=>HN.out.1.2.2.1 h)
   go_enter Tryz.func249,Tryz.ntmps249
   go_wp2_with fail
   refine HC.out.mono ?_
   rintro e w1 ⟨rfl,hb⟩
   have HB:=Hd hb
   have OWN:=Hd (own_empty w1 105)
   have HB1:=Hd (HB.out.alloc HB.out.size (.cells #[] 105))
   clear hb
   go_wp2_with (at_builtin; go_loud (refine wpList_append_fits_any _ rfl (.tmp 19) (.tmp 20) 66 rfl w1.heap.size 105 i0 1 Tryz.underlying66 hi0 hz1 w1.heap.size 0 0 [] rfl OWN.out A 0 c [] rfl rfl (fun h=>⟨rfl,HA.out h⟩) (by intro ad _ j u hu; simp at hu) (by intro u hu; simp at hu) (Nat.le_refl _) ?_; intro w2 hown2 hg2; have HB2:=Hd (HB1.out.grown hg2 HB1.out.size (fun k hk=>by cases hk; exact HB.out.size)); clear hown2 hg2))
   go_ret2
   exact ⟨_,_,_,_,_,_,rfl,NU.none _ 0,by rw [HX0.out]; exact ⟨by rw [Nt.dg_zero]; exact ⟨rfl,Nat.le_refl _,(fun h=>by cases h),fun k x hk=>by simp at hk⟩,by rw [BL_eq]; exact Nat.pow_pos (by decide)⟩,HB2.out⟩
  ·obtain ⟨ad,hA⟩ : ∃ ad,A = some ad:=by
    cases A with
    | some ad=>exact ⟨ad,rfl⟩
    | none=>exact absurd (by have h1:=HN.out.1.2.2.1 rfl; have h2:=HN.out.1.2.1; omega) h0
   subst hA
   have HNW : Hid (∀ x,Below w.heap.size w x -> ((l.map (Value.int .u64)).length = n * 1 /\ (∀ j u,(l.map (Value.int .u64))[j]? = some u -> x.cell? (ad.add j) = some u) /\ (∀ u ∈ l.map (Value.int .u64),u.oneCell' = true))):=Hd (fun x hb=>by
    have h:=U.news (HU.out x hb) n (Nat.le_refl _)
    rw [List.take_of_length_le (by rw [(HU.out x hb).1]; exact Nat.le_refl _)] at h
    exact h)
   have HLN : Hid (l.length = n):=Hd (HU.out w (Below.refl _ _)).1
   go_enter Tryz.func249,Tryz.ntmps249
   go_wp2_with fail
   refine HC.out.mono ?_
   rintro e w1 ⟨rfl,hb⟩
   have HB:=Hd hb
   have OWN:=Hd (own_empty w1 105)
   have HB1:=Hd (HB.out.alloc HB.out.size (.cells #[] 105))
   have HNW1:=Hd (HNW.out _ HB1.out)
   clear hb
   go_wp2_with (at_builtin; refine wpList_append_own _ rfl (.tmp 19) (.tmp 20) 66 rfl w1.heap.size 105 i0 (.int .u64 0) 1 8 Tryz.underlying66 hi0 hz0 hz1 hz2 rfl (by omega) (.slice (some ⟨w1.heap.size,0,none⟩) 0 0) 0 [] rfl OWN.out ad n c (l.map (Value.int .u64)) rfl HNW1.out.1 HNW1.out.2.1 HNW1.out.2.2 (by simp only [maxLen]; omega) (by omega) (by simp) ?_; intro v2 w2 hown2 hg2 _; rw [Nat.zero_add,List.nil_append] at hown2; have HOWN2:=Hd (U.of_own hown2); have HB2:=Hd (HB1.out.grown hg2 HB1.out.size (fun k hk=>by simp [Value.ownBlock] at hk; rw [<- hk]; exact HB.out.size)); clear hown2 hg2)
   go_ret2
   obtain ⟨A2,c2,rfl,hu2⟩:=HOWN2.out
   exact ⟨_,_,_,_,_,_,rfl,NU.none _ 0,⟨by rw [<- HL.out]; exact hu2,HX.out⟩,HB2.out⟩
 ·have hC0 : ¬ (if X < y then (-1 : Int) else if y < X then 1 else 0) < 0:=by
   rw [if_neg hlt]; split <;> omega
  have HS:=Hd (fun x (hb : Below w.heap.size w x)=>bshort_any A n c X y x (h.below hb) hy hy2)
  have HTR:=Hd (fun x (r : Nat) (hr : r < y)=>btrim_nu (some ⟨x.heap.size,0,none⟩) 1 1 [(r : Int)] r (x.alloc (.cells #[.int .u64 (r : Int)] 105)) (U_new1 x r 105) (by decide) (fun z hz=>by rw [List.mem_singleton.1 hz]; omega) (by simp [Nt.val]) (by omega))
  obtain ⟨C,hC⟩ : ∃ C,C = (if X < y then (-1 : Int) else if y < X then 1 else 0):=⟨_,rfl⟩
  rw [<- hC] at HC hC0
  have hC1 : decide (C < 0) = false:=decide_eq_false hC0
  have HR : Hid (X % y < y):=Hd (Nat.mod_lt _ (Nat.pos_of_ne_zero hy))
  obtain ⟨R,hR⟩ : ∃ R,R = X % y:=⟨_,rfl⟩
  rw [<- hR] at HR HS ⊢
  clear h h' hdy hm1 hlt hy hy2 hy3 hn1 hC HN hR
  go_enter Tryz.func249,Tryz.ntmps249
  go_wp2_with fail
  refine HC.out.mono ?_
  rintro e w1 ⟨rfl,hb⟩
  have HB:=Hd hb
  have hcl:=HCY.out _ hb
  clear hb
  go_wp2_with fail
  refine (HS.out _ HB.out).mono ?_
  rintro e w2 ⟨A2,n2,c2,rfl,hn2,hb⟩
  have HN2:=Hd hn2
  have HB2:=Hd (HB.out.trans (hb.mono HB.out.size))
  clear hb hn2 hcl
  go_wp2_with fail
  refine (HTR.out _ R HR.out).mono ?_
  rintro e w3 ⟨m3,rfl,hn3,rfl⟩
  have HN3:=Hd hn3
  have HB3:=Hd (HB2.out.alloc HB2.out.size (.cells #[.int .u64 (R : Int)] 105))
  have HN4:=Hd (HN2.out.below ((Below.refl _ _).alloc (Nat.le_refl _) (.cells #[.int .u64 (R : Int)] 105)))
  clear hn3
  go_wp2
  go_ret2
  exact ⟨_,_,_,_,_,_,rfl,HN4.out,HN3.out,HB3.out⟩
end
section
open Go.RowKit
theorem below_drew {B : Nat} {w w' : World} (h : Below B w w') : Below B w w'.drew:=h.trans ⟨rfl,rfl,rfl,Nat.le_refl _,fun _ _=>rfl⟩
def sgnI (s : Bool) (N : Nat) : Int:=if s then -(N : Int) else (N : Int)
theorem sgnI_abs (s : Bool) (N : Nat) : (sgnI s N).natAbs = N:=by unfold sgnI; cases s <;> simp
theorem sgnI_lt (s : Bool) (N : Nat) : decide (sgnI s N < 0) = (s && decide (0 < N)):=by
 unfold sgnI
 cases s
 ·simp
 ·simp
theorem sgnI_self (z : Int) : sgnI (decide (z < 0)) z.natAbs = z:=by
 unfold sgnI
 by_cases h : z < 0
 ·simp [h]; omega
 ·simp [h]; omega
def RPost (g : Nat) (z : Int) (w : World) (e : Ending) (w' : World) : Prop:=e = .returned (.pointer (some ⟨g,0,none⟩)) /\ BI w' g z /\ Tr [g] w w'
def PPost (z : Int) (w : World) (e : Ending) (w' : World) : Prop:=∃ g,e = .returned (.pointer (some ⟨g,0,none⟩)) /\ BI w' g z /\ w.heap.size <= g /\ Below w.heap.size w w'
theorem bput_u (g : Nat) (z0 : Int) (s : Bool) (A : Option Addr) (n c : Nat) (l : List Int) (N : Nat) (w : World) (hg : BI w g z0) (hu : U w A n c l) (hn : n <= 1000000000) (hd : Nt.Dig 18446744073709551616 l) (hv : Nt.val 18446744073709551616 l = N) (hN : N < BL) :
  Calls Tryz.prog 74 #[.pointer (some ⟨g,0,none⟩),.bool s,.slice A n c] w (RPost g (sgnI s N) w):=by
 have HT:=Hd (btrim_nu A n c l N w hu hn hd hv hN)
 have HG:=Hd hg
 obtain ⟨A0,n0,c0,⟨h1,h2⟩,⟨h3,h4⟩,_,h6⟩:=id hg
 clear hg hu hd hv hn hN
 obtain ⟨B,hB⟩ : ∃ B,B = decide (sgnI s N < 0):=⟨_,rfl⟩
 have HB:=Hd hB
 clear hB
 cases s
 ·have hs : Hid (B = false):=Hd (by rw [HB.out,sgnI_lt]; rfl)
  go_enter Tryz.func74,Tryz.ntmps74
  go_wp2_with fail
  refine HT.out.mono ?_
  rintro e w1 ⟨m,rfl,hn1,rfl⟩
  have HP:=Hd (BI.put (z:=sgnI false N) HG.out (by rw [sgnI_abs]; exact hn1))
  clear hn1
  go_wp2
  go_ret
  have h:=HP.out
  rw [<- HB.out,hs.out] at h
  exact ⟨rfl,h.1,h.2⟩
 ·go_enter Tryz.func74,Tryz.ntmps74
  go_wp2_with fail
  refine HT.out.mono ?_
  rintro e w1 ⟨m,rfl,hn1,rfl⟩
  have HP:=Hd (BI.put (z:=sgnI true N) HG.out (by rw [sgnI_abs]; exact hn1))
  by_cases h0 : m = 0
  ·have hs : Hid (B = false):=Hd (by rw [HB.out,sgnI_lt,hn1.zero.1 h0]; rfl)
   subst h0
   clear hn1
   go_wp2
   go_ret
   have h:=HP.out
   rw [<- HB.out,hs.out] at h
   exact ⟨rfl,h.1,h.2⟩
  ·have hs : Hid (B = true):=Hd (by
    rw [HB.out,sgnI_lt]
    have : N ≠ 0:=fun e=>h0 (hn1.zero.2 e)
    simp; omega)
   have hm : decide (0 < m) = true:=decide_eq_true (by omega)
   clear hn1
   go_wp2
   go_ret
   have h:=HP.out
   rw [<- HB.out,hs.out] at h
   exact ⟨rfl,h.1,h.2⟩
theorem bput_any (g : Nat) (z0 : Int) (s : Bool) (A : Option Addr) (n c N : Nat) (w : World) (hg : BI w g z0) (hu : NU w A n c N) :
  Calls Tryz.prog 74 #[.pointer (some ⟨g,0,none⟩),.bool s,.slice A n c] w (RPost g (sgnI s N) w) :=
 bput_u g z0 s A n c _ N w hg hu.1 (by have:=hu.len.2; omega) (Nt.dig_dg _ (by decide) _) (Nt.val_dg _ (by decide) _) hu.2
theorem RPost.after {g : Nat} {z : Int} {w w1 : World} (hb : Below w.heap.size w w1) {e : Ending} {w' : World} (h : RPost g z w1 e w') : RPost g z w e w' :=
 ⟨h.1,h.2.1,(Tr.of_below hb [g]).trans h.2.2⟩
theorem PPost.of {g : Nat} {z : Int} {w w1 : World} {B : Nat} (hg : B <= g) (hz : B = w.heap.size) (hb : Below w.heap.size w w1) (hg1 : g < w1.heap.size) {e : Ending} {w' : World} (h : RPost g z w1 e w') : PPost z w e w':=by
 subst hz
 exact ⟨g,h.1,h.2.1,hg,hb.trans (h.2.2.below _ hb.size (fun k hk=>by rw [List.mem_singleton.1 hk]; exact hg))⟩
theorem bset64_any (g : Nat) (z0 n : Int) (w : World) (h1 : -9223372036854775808 <= n) (h2 : n <= 9223372036854775807) (hg : BI w g z0) :
  Calls Tryz.prog 49 #[.pointer (some ⟨g,0,none⟩),.int .i64 n] w (RPost g n w):=by
 obtain ⟨N,hN⟩ : ∃ N,N = n.natAbs:=⟨_,rfl⟩
 have hb:=(Below.refl w.heap.size w).alloc (Nat.le_refl _) (.cells #[.int .u64 (N : Int)] 105)
 have HB:=Hd hb
 have hN64 : N < 18446744073709551616:=by omega
 have hBL : N < BL:=Nat.lt_of_lt_of_le hN64 BL_big
 by_cases h0 : n < 0
 ·have HP:=Hd (bput_u g z0 true (some ⟨w.heap.size,0,none⟩) 1 1 [(N : Int)] N _ (hg.below hb) (U_new1 w N 105) (by decide) (fun z hz=>by rw [List.mem_singleton.1 hz]; omega) (by simp [Nt.val]) hBL)
  have HE : Hid (sgnI true N = n):=Hd (by simp only [sgnI,if_true]; omega)
  obtain ⟨M,hM⟩ : ∃ M,M = IntKind.u64.wrap n:=⟨_,rfl⟩
  have e1 : IntKind.u64.wrap n = M:=hM.symm
  have e2 : IntKind.u64.wrap (-M) = (N : Int):=by rw [hM,IntKind.wrap_u64,IntKind.wrap_u64]; omega
  have d1 : decide (n < 0) = true:=decide_eq_true h0
  clear hM hN hb hg h1 h2 h0 hN64 hBL
  go_enter Tryz.func49,Tryz.ntmps49
  go_wp2_with fail
  refine HP.out.mono ?_
  rintro e w1 hr
  have HR:=Hd (RPost.after HB.out hr)
  obtain ⟨rfl,_,_⟩:=hr
  go_wp2
  go_ret
  have h:=HR.out
  rw [HE.out] at h
  exact h
 ·have HP:=Hd (bput_u g z0 false (some ⟨w.heap.size,0,none⟩) 1 1 [(N : Int)] N _ (hg.below hb) (U_new1 w N 105) (by decide) (fun z hz=>by rw [List.mem_singleton.1 hz]; omega) (by simp [Nt.val]) hBL)
  have HE : Hid (sgnI false N = n):=Hd (by simp only [sgnI]; simp; omega)
  have e1 : IntKind.u64.wrap n = (N : Int):=by rw [IntKind.wrap_u64]; omega
  have d1 : decide (n < 0) = false:=decide_eq_false h0
  clear hN hb hg h1 h2 h0 hN64 hBL
  go_enter Tryz.func49,Tryz.ntmps49
  go_wp2_with fail
  refine HP.out.mono ?_
  rintro e w1 hr
  have HR:=Hd (RPost.after HB.out hr)
  obtain ⟨rfl,_,_⟩:=hr
  go_wp2
  go_ret
  have h:=HR.out
  rw [HE.out] at h
  exact h
theorem bnew_any (n : Int) (w : World) (h1 : -9223372036854775808 <= n) (h2 : n <= 9223372036854775807) :
  Calls Tryz.prog 218 #[.int .i64 n] w (PPost n w):=by
 obtain ⟨b1,b2⟩:=BI.new w 68
 have HC:=Hd (bset64_any w.heap.size 0 n _ h1 h2 b1)
 have HB:=Hd b2
 clear b1 b2 h1 h2
 go_enter Tryz.func218,Tryz.ntmps218
 go_wp2_with fail
 refine HC.out.mono ?_
 rintro e w1 hr
 have HR:=Hd (PPost.of (Nat.le_refl _) rfl HB.out (by simp) hr)
 obtain ⟨rfl,_,_⟩:=hr
 go_wp2
 go_ret
 exact HR.out
theorem bsign_any (g : Nat) (z : Int) (w : World) (hg : BI w g z) :
  Calls Tryz.prog 237 #[.pointer (some ⟨g,0,none⟩)] w fun e w'=>e = .returned (.int .i64 z.sign) /\ w = w':=by
 obtain ⟨A,n,c,⟨h1,h2⟩,_,h5,h6⟩:=hg
 have hz:=h5.zero
 rcases Int.lt_trichotomy z 0 with h0 | h0 | h0
 ·have HS : Hid (-1 = z.sign):=Hd (Int.sign_eq_neg_one_of_neg h0).symm
  have hn : ((n : Int) == 0) = false:=by simp; omega
  have d1 : decide (z < 0) = true:=decide_eq_true h0
  rw [d1] at h1
  clear h5 hz h0 d1
  go_enter Tryz.func237,Tryz.ntmps237
  go_wp2
  go_ret
  rw [<- HS.out]
  exact ⟨rfl,rfl⟩
 ·subst h0
  have hn : n = 0:=hz.2 rfl
  subst hn
  clear h5 hz
  go_enter Tryz.func237,Tryz.ntmps237
  go_wp2
  go_ret
  exact ⟨rfl,rfl⟩
 ·have HS : Hid (1 = z.sign):=Hd (Int.sign_eq_one_of_pos h0).symm
  have hn : ((n : Int) == 0) = false:=by simp; omega
  have d1 : decide (z < 0) = false:=decide_eq_false (by omega)
  rw [d1] at h1
  clear h5 hz h0 d1
  go_enter Tryz.func237,Tryz.ntmps237
  go_wp2
  go_ret
  rw [<- HS.out]
  exact ⟨rfl,rfl⟩
end
section
open Go.RowKit
namespace Nt
theorem tm_step (B : Nat) (y o o1 : List Int) (i k cy a b u S C : Nat) (hb : y[k]? = some (b : Int)) (hu : o1[i + k]? = some (u : Int)) (hdy : Dig B y) (hS : S + B * C = a * b + u + cy)
  (hv : val B o1 + B ^ (i + k) * cy = val B o + a * B ^ i * val B (y.take k)) : val B (o1.set (i + k) (S : Int)) + B ^ (i + (k + 1)) * C = val B o + a * B ^ i * val B (y.take (k + 1)):=by
 have h1:=val_set B o1 (i + k) (S : Int) u hu
 rw [val_take_succ _ y k hdy,hb]
 simp only [Option.getD_some,Int.toNat_natCast] at h1 ⊢
 rw [<- Nat.add_assoc,Nat.pow_succ,Nat.mul_assoc]
 have e : B ^ (i + k) = B ^ i * B ^ k:=Nat.pow_add _ _ _
 have e2 : B ^ (i + k) * (S + B * C) = B ^ (i + k) * (a * b + u + cy):=by rw [hS]
 have e3 : a * B ^ i * (val B (y.take k) + B ^ k * b) = a * B ^ i * val B (y.take k) + B ^ (i + k) * (a * b):=by
  rw [e]; grind
 rw [e3]
 generalize B ^ (i + k) = P at *
 simp only [Nat.mul_add] at e2
 generalize P * (B * C) = q1 at *
 generalize P * (a * b) = q2 at *
 generalize a * B ^ i * val B (y.take k) = q3 at *
 omega
theorem two_div {B s t : Nat} (hs : s < B) (ht : t < B) : (s + t + 0) / B <= 1:=by
 have:=Nat.div_lt_of_lt_mul (show s + t + 0 < B * 2 by omega)
 omega
theorem tm_sums' (B P a b u cy hi lo s1 c1 s2 c2 : Nat) (ha : a < B) (hb : b < B) (hu : u < B) (hc : cy < B) (h1 : B * hi + lo = a * b) (h2 : B * c1 + s1 = lo + u + 0) (h3 : B * c2 + s2 = s1 + cy + 0) :
  s2 + B * (hi + c1 + c2) = a * b + u + cy /\ hi + c1 + c2 < B:=by
 have e : s2 + B * (hi + c1 + c2) = a * b + u + cy:=by rw [Nat.mul_add,Nat.mul_add]; omega
 refine ⟨e,?_⟩
 have hle : a * b <= (B - 1) * (B - 1):=Nat.mul_le_mul (by omega) (by omega)
 obtain ⟨d,rfl⟩ : ∃ d,B = d + 1:=⟨B - 1,by omega⟩
 rw [Nat.add_sub_cancel] at hle
 refine Nat.lt_of_mul_lt_mul_left (a:=d + 1) ?_
 have e1 : (d + 1) * (d + 1) = d * d + 2 * d + 1:=by rw [Nat.add_mul,Nat.mul_add]; omega
 rw [e1]
 generalize (d + 1) * (hi + c1 + c2) = q at *
 omega
theorem tm_sums (B a b u cy : Nat) (ha : a < B) (hb : b < B) (hu : u < B) (hc : cy < B) :
  (a * b % B + u + 0) / B <= 1 /\ (((a * b % B + u + 0) % B) + cy + 0) / B <= 1 /\ ((a * b % B + u + 0) % B + cy + 0) % B + B * (a * b / B + (a * b % B + u + 0) / B + ((a * b % B + u + 0) % B + cy + 0) / B) = a * b + u + cy /\ a * b / B + (a * b % B + u + 0) / B + ((a * b % B + u + 0) % B + cy + 0) / B < B:=by
 have hB : 0 < B:=by omega
 have h:=tm_sums' B 0 a b u cy _ _ _ _ _ _ ha hb hu hc (Nat.div_add_mod (a * b) B) (Nat.div_add_mod (a * b % B + u + 0) B) (Nat.div_add_mod ((a * b % B + u + 0) % B + cy + 0) B)
 exact ⟨two_div (Nat.mod_lt _ hB) hu,two_div (Nat.mod_lt _ hB) hc,h.1,h.2⟩
end Nt
theorem run_add64_zero (x y : Nat) (w : World) : (callFunc 114 #[.int .u64 (x : Int),.int .u64 (y : Int),.int .u64 0]).run Tryz.prog w = .ok (.value (.tuple #[.int .u64 (((x + y + 0) % 18446744073709551616 : Nat) : Int),.int .u64 (((x + y + 0) / 18446744073709551616 : Nat) : Int)])) w :=
 run_add64 (x : Int) (y : Int) 0 (by decide) w
set_option maxRecDepth 400000 in
set_option maxHeartbeats 4000000 in
theorem btimes_pos (A : Option Addr) (n c X : Nat) (A' : Option Addr) (n' c' Y : Nat) (w : World) (h : NU w A n c X) (h' : NU w A' n' c' Y) (hb : X * Y < BL) (hn0 : n ≠ 0) (hn0' : n' ≠ 0) :
  Calls Tryz.prog 78 #[.slice A n c,.slice A' n' c'] w (NatP (X * Y) w):=by
 obtain ⟨i0,hi0,hz0,hz1,hz2⟩:=info_parts u64_info
 obtain ⟨hn1,hn2⟩:=h.len
 obtain ⟨hm1,hm2⟩:=h'.len
 obtain ⟨x,hl⟩ : ∃ l,l = Nt.dg 18446744073709551616 X:=⟨_,rfl⟩
 obtain ⟨y,hm⟩ : ∃ m,m = Nt.dg 18446744073709551616 Y:=⟨_,rfl⟩
 have HX : Hid (U w A n c x):=Hd (by rw [hl]; exact h.1)
 have HY : Hid (U w A' n' c' y):=Hd (by rw [hm]; exact h'.1)
 have HDX : Hid (Nt.Dig 18446744073709551616 x):=Hd (by rw [hl]; exact Nt.dig_dg _ (by decide) _)
 have HDY : Hid (Nt.Dig 18446744073709551616 y):=Hd (by rw [hm]; exact Nt.dig_dg _ (by decide) _)
 have HV1 : Hid (Nt.val 18446744073709551616 x = X):=Hd (by rw [hl]; exact Nt.val_dg _ (by decide) _)
 have HV2 : Hid (Nt.val 18446744073709551616 y = Y):=Hd (by rw [hm]; exact Nt.val_dg _ (by decide) _)
 have HRB:=Hd hb
 have HP:=Hd HX.out.1
 have HQ:=Hd HY.out.1
 have z1 : ((n : Int) == 0) = false:=by simp; omega
 have z2 : ((n' : Int) == 0) = false:=by simp; omega
 clear h h' hl hm hn1 hm1 hb
 go_enter Tryz.func78,Tryz.ntmps78
 go_wp2_with (refine wpList_make_full _ rfl (.tmp 27) (.tmp 27) 66 rfl w.heap.size 105 i0 _ 1 Tryz.underlying66 hi0 hz0 hz1 .i64 .i64 _ _ (n + n') rfl rfl (by omega) (by omega) (by rw [hz2]; omega) (by simp only [maxLen]; omega) (Nat.le_refl _) ?_; intro w1 hown1 hg1; have HB:=Hd ((Below.refl w.heap.size w).grown hg1 (Nat.le_refl _) (fun k hk=>by cases hk)); have ROW:=Hd (Row.made hown1); clear hown1 hg1)
 go_loopw [31] (fun t wr=>∃ (i : Nat) (o : List Int),t = .int .i64 i /\ i <= n /\ Hid (RowC wr w.heap.size w.heap.size (n + n') (n + n') o) /\ Hid (Nt.Dig 18446744073709551616 o) /\ Hid (Nt.val 18446744073709551616 o = Nt.val 18446744073709551616 (x.take i) * Nt.val 18446744073709551616 y) /\ Hid (∀ j u,i + n' <= j -> o[j]? = some u -> u = 0) /\ Hid (Below w.heap.size w wr)) (fun t _=>n - (intOf t).toNat)
 case atStart=>exact ⟨0,List.replicate (n + n') 0,rfl,Nat.zero_le _,Hd (RowC.of ROW.out),Hd (fun z hz=>by rw [(List.mem_replicate.1 hz).2]; decide),Hd (by rw [Nt.val_zeros _ _ (fun z hz=>(List.mem_replicate.1 hz).2)]; simp [Nt.val]),Hd (fun j u _ hu=>(List.mem_replicate.1 (List.mem_of_getElem? hu)).2),HB⟩
 case round =>
  clear ROW HB
  obtain ⟨i,o,rfl,him,ROW,HDO,HVAL,HZ,HB⟩:=hrel
  obtain ⟨wo,rfl⟩ : ∃ wo : World,wo = wr:=⟨_,rfl⟩
  by_cases hlt : i < n
  ·obtain ⟨a0,ha⟩ : ∃ a,x[i]? = some a:=⟨_,List.getElem?_eq_getElem (by have:=HP.out; omega)⟩
   have ra:=HDX.out a0 (List.mem_of_getElem? ha)
   obtain ⟨a,rfl⟩ : ∃ a : Nat,a0 = a:=⟨a0.toNat,by omega⟩
   obtain ⟨ad1,rfl,_,hc1⟩:=(HX.out.below HB.out).2.2.2 i a ha
   have HA:=Hd ha
   have HRA : Hid (a < 18446744073709551616):=Hd (by omega)
   clear ha ra
   go_wp2_with fail
   go_loopw [8,38] (fun cv kv wr=>∃ (k cy : Nat) (o1 : List Int),kv = .int .i64 k /\ cv = .int .u64 cy /\ k <= n' /\ Hid (cy < 18446744073709551616) /\ Hid (RowC wr w.heap.size w.heap.size (n + n') (n + n') o1) /\ Hid (Nt.Dig 18446744073709551616 o1) /\ Hid (Nt.val 18446744073709551616 o1 + 18446744073709551616 ^ (i + k) * cy = Nt.val 18446744073709551616 o + a * 18446744073709551616 ^ i * Nt.val 18446744073709551616 (y.take k)) /\ Hid (∀ j u,i + n' <= j -> o1[j]? = some u -> o[j]? = some u) /\ Hid (Below w.heap.size w wr)) (fun _ kv _=>n' - (intOf kv).toNat)
   case atStart=>exact ⟨0,0,o,rfl,rfl,Nat.zero_le _,Hd (by decide),ROW,HDO,Hd (by simp [Nt.val]),Hd (fun j u _ hu=>hu),HB⟩
   case round =>
    clear hc1
    obtain ⟨k,cy,o1,rfl,rfl,hkm,HCY,ROW1,HDO1,HVAL1,HZ1,HB1⟩:=hrel
    by_cases hk : k < n'
    ·obtain ⟨b0,hb⟩ : ∃ b,y[k]? = some b:=⟨_,List.getElem?_eq_getElem (by have:=HQ.out; omega)⟩
     have rb:=HDY.out b0 (List.mem_of_getElem? hb)
     obtain ⟨b,rfl⟩ : ∃ b : Nat,b0 = b:=⟨b0.toNat,by omega⟩
     obtain ⟨u0,hu⟩ : ∃ u,o1[i + k]? = some u:=⟨_,List.getElem?_eq_getElem (by have:=ROW1.out.len; omega)⟩
     have ru:=HDO1.out u0 (List.mem_of_getElem? hu)
     obtain ⟨u,rfl⟩ : ∃ u : Nat,u0 = u:=⟨u0.toNat,by omega⟩
     obtain ⟨ad2,rfl,_,hc2⟩:=(HY.out.below HB1.out).2.2.2 k b hb
     have hc3:=ROW1.out.cell (i + k) u hu
     have hfr:=ROW1.out.free (i + k)
     have hrb : b < 18446744073709551616:=by omega
     have hru : u < 18446744073709551616:=by omega
     obtain ⟨q1,q2,q3,q4⟩:=Nt.tm_sums 18446744073709551616 a b u cy HRA.out hrb hru HCY.out
     have HM:=Hd (fun w=>mul64_any a b HRA.out hrb w)
     have r1:=run_add64_zero (a * b % 18446744073709551616) u
     have r2:=run_add64_zero ((a * b % 18446744073709551616 + u + 0) % 18446744073709551616) cy
     have hst:=fun S C h=>Nt.tm_step 18446744073709551616 y o o1 i k cy a b u S C hb hu HDY.out h HVAL1.out
     have hst:=hst _ _ q3
     obtain ⟨hi,hhi⟩ : ∃ v,v = a * b / 18446744073709551616:=⟨_,rfl⟩
     obtain ⟨lo,hlo⟩ : ∃ v,v = a * b % 18446744073709551616:=⟨_,rfl⟩
     rw [<- hhi] at q3 q4 hst HM
     rw [<- hlo] at q1 q2 q3 q4 hst r1 r2 HM
     obtain ⟨s1,hs1⟩ : ∃ v,v = (lo + u + 0) % 18446744073709551616:=⟨_,rfl⟩
     obtain ⟨c1,hc1'⟩ : ∃ v,v = (lo + u + 0) / 18446744073709551616:=⟨_,rfl⟩
     rw [<- hs1] at q2 q3 q4 hst r1 r2
     rw [<- hc1'] at q1 q3 q4 hst r1
     obtain ⟨s2,hs2⟩ : ∃ v,v = (s1 + cy + 0) % 18446744073709551616:=⟨_,rfl⟩
     obtain ⟨c2,hc2'⟩ : ∃ v,v = (s1 + cy + 0) / 18446744073709551616:=⟨_,rfl⟩
     have hs2b : s2 < 18446744073709551616:=by rw [hs2]; exact Nat.mod_lt _ (by decide)
     rw [<- hs2] at q3 hst r2
     rw [<- hc2'] at q2 q3 q4 hst r2
     obtain ⟨C,hC⟩ : ∃ v,v = hi + c1 + c2:=⟨_,rfl⟩
     obtain ⟨h1,hh1⟩ : ∃ v,v = hi + c1:=⟨_,rfl⟩
     have w1 : IntKind.u64.wrap ((hi : Int) + (c1 : Int)) = (h1 : Int):=by rw [IntKind.wrap_u64]; omega
     have w2 : IntKind.u64.wrap ((h1 : Int) + (c2 : Int)) = (C : Int):=by rw [IntKind.wrap_u64]; omega
     rw [<- hC] at hst q4
     have HST:=Hd hst
     have HC:=Hd q4
     have HS2 : Hid (Nt.Dig 18446744073709551616 (o1.set (i + k) (s2 : Int))):=Hd (HDO1.out.set _ _ (by omega) (by omega))
     have HR2:=Hd (ROW1.out.set (i + k) (s2 : Int))
     have HB2:=Hd (HB1.out.setCell (p:=⟨w.heap.size,i + k,none⟩) (Nat.le_refl _) (Value.int IntKind.u64 (s2 : Int)))
     have HZ2 : Hid (∀ j u,i + n' <= j -> (o1.set (i + k) (s2 : Int))[j]? = some u -> o[j]? = some u):=Hd (fun j u hj hu=>by
      rw [List.getElem?_set_ne (by omega)] at hu
      exact HZ1.out j u hj hu)
     clear hst q1 q2 q3 q4 hhi hlo hs1 hc1' hs2 hc2' hs2b hC hh1 hrb hru hb hu rb ru
     go_wp2_with fail
     refine (HM.out _).mono ?_
     rintro e w5 ⟨rfl,rfl⟩
     go_wp2_with fail
     exact ⟨⟨k + 1,C,_,by go_num,rfl,hk,HC,HR2,HS2,HST,HZ2,HB2⟩,by simp [intOf]; omega⟩
    ·obtain rfl : n' = k:=by omega
     obtain ⟨u,hu⟩ : ∃ u,o1[i + n']? = some u:=⟨_,List.getElem?_eq_getElem (by have:=ROW1.out.len; omega)⟩
     have hu0 : u = 0:=HZ.out (i + n') u (Nat.le_refl _) (HZ1.out _ _ (Nat.le_refl _) hu)
     subst hu0
     have hc3:=ROW1.out.cell (i + n') 0 hu
     have hfr:=ROW1.out.free (i + n')
     have HFIN : Hid (Nt.val 18446744073709551616 (o1.set (i + n') (cy : Int)) = Nt.val 18446744073709551616 (x.take (i + 1)) * Nt.val 18446744073709551616 y):=Hd (by
      have h1:=Nt.val_set 18446744073709551616 o1 (i + n') (cy : Int) 0 hu
      have h2:=HVAL1.out
      rw [List.take_of_length_le (by have:=HQ.out; omega)] at h2
      rw [Nt.val_take_succ _ x i HDX.out,HA.out,Nat.add_mul,<- HVAL.out]
      simp only [Option.getD_some]
      rw [Int.toNat_natCast,Int.toNat_zero,Nat.mul_zero,Nat.add_zero] at h1
      rw [h1,h2,Int.toNat_natCast,Nat.mul_comm a])
     have HR2:=Hd (ROW1.out.set (i + n') (cy : Int))
     have HB2:=Hd (HB1.out.setCell (p:=⟨w.heap.size,i + n',none⟩) (Nat.le_refl _) (Value.int IntKind.u64 (cy : Int)))
     have HD2 : Hid (Nt.Dig 18446744073709551616 (o1.set (i + n') (cy : Int))):=Hd (HDO1.out.set _ _ (by omega) (by have:=HCY.out; omega))
     have HZ2 : Hid (∀ j u,i + 1 + n' <= j -> (o1.set (i + n') (cy : Int))[j]? = some u -> u = 0):=Hd (fun j u hj hu=>by
      rw [List.getElem?_set_ne (by omega)] at hu
      exact HZ.out j u (by omega) (HZ1.out j u (by omega) hu))
     clear hu
     go_wp2_with fail
     exact ⟨⟨i + 1,o1.set (i + n') (cy : Int),by go_num,hlt,HR2,HD2,HFIN,HZ2,HB2⟩,by simp [intOf]; omega⟩
  ·obtain rfl : n = i:=by omega
   have HV : Hid (Nt.val 18446744073709551616 o = X * Y):=Hd (by
    have hv:=HVAL.out
    rw [List.take_of_length_le (Nat.le_of_eq HP.out),HV1.out,HV2.out] at hv
    exact hv)
   have HTO:=Hd (btrim_nu (some ⟨w.heap.size,0,none⟩) (n + n') (n + n') o (X * Y) _ ROW.out.u (by omega) HDO.out HV.out HRB.out)
   go_wp2_with fail
   refine HTO.out.mono ?_
   rintro e w5 ⟨k5,rfl,hn5,rfl⟩
   have HN5:=Hd hn5
   clear hn5
   go_wp2
   go_ret
   exact ⟨_,_,_,rfl,HN5.out,HB.out⟩
theorem btimes_any (A : Option Addr) (n c X : Nat) (A' : Option Addr) (n' c' Y : Nat) (w : World) (h : NU w A n c X) (h' : NU w A' n' c' Y) (hb : X * Y < BL) :
  Calls Tryz.prog 78 #[.slice A n c,.slice A' n' c'] w (NatP (X * Y) w):=by
 by_cases h0 : n = 0
 ·have hX:=h.zero.1 h0
  subst hX
  subst h0
  rw [Nat.zero_mul]
  clear h h' hb
  go_enter Tryz.func78,Tryz.ntmps78
  go_wp2
  go_ret
  exact ⟨none,0,0,rfl,NU.none _ 0,Below.refl _ _⟩
 ·by_cases h1 : n' = 0
  ·have hY:=h'.zero.1 h1
   subst hY
   subst h1
   rw [Nat.mul_zero]
   have z1 : ((n : Int) == 0) = false:=by simp; omega
   clear h h' hb
   go_enter Tryz.func78,Tryz.ntmps78
   go_wp2
   go_ret
   exact ⟨none,0,0,rfl,NU.none _ 0,Below.refl _ _⟩
  ·exact btimes_pos A n c X A' n' c' Y w h h' hb h0 h1
end
end Go.Proofs.YtnpanpkahbcecaaGreatDoor

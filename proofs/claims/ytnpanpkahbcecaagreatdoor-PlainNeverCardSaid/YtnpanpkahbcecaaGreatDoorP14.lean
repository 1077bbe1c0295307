/-
Walks: big's left, size.
-/
import Derived.Test.YtnpanpkahbcecaaGreatDoorP6
import Derived.Test.YtnpanpkahbcecaaGreatDoorP7
import Derived.Test.YtnpanpkahbcecaaGreatDoorP8
import Derived.Deep.QuietTactic
import Derived.BigQuiet
import Derived.Lib.Hide
set_option linter.unusedVariables false
set_option linter.unusedSimpArgs false
namespace Go.Proofs.YtnpanpkahbcecaaGreatDoor
section
theorem val_snoc (B : Nat) (l : List Int) (i : Nat) (x : Int) (h : l[i]? = some x) : Nt.val B (l.take (i + 1)) = Nt.val B (l.take i) + B ^ i * x.toNat:=by
 have hi:=(List.getElem?_eq_some_iff.1 h).1
 rw [List.take_add_one,h,Option.toList_some,Nt.val_append,List.length_take,Nat.min_eq_left (by omega)]
 simp [Nt.val]
theorem val_over (B : Nat) (l : List Int) (i : Nat) (h : l[i]? = none) : Nt.val B (l.take (i + 1)) = Nt.val B (l.take i):=by
 have hi:=List.getElem?_eq_none_iff.1 h
 rw [List.take_of_length_le (by omega),List.take_of_length_le (by omega)]
theorem val_next (B : Nat) (l : List Int) (i : Nat) : Nt.val B (l.take (i + 1)) = Nt.val B (l.take i) + B ^ i * ((l[i]?).getD 0).toNat:=by
 cases h : l[i]? with
 | none=>rw [val_over B l i h]; simp
 | some x=>rw [val_snoc B l i x h]; rfl
theorem add_next {B i x y c V A C : Nat} (hB : 0 < B) (h : V + B ^ i * c = A + C) : (V + B ^ i * ((x + y + c) % B)) + B ^ (i + 1) * ((x + y + c) / B) = (A + B ^ i * x) + (C + B ^ i * y):=by
 rw [Nat.pow_succ,Nat.mul_assoc]
 have h1:=Nat.mod_add_div (x + y + c) B
 have h2 : B ^ i * ((x + y + c) % B) + B ^ i * (B * ((x + y + c) / B)) = B ^ i * (x + y + c):=by rw [<- Nat.mul_add,h1]
 rw [Nat.mul_add,Nat.mul_add] at h2
 omega
theorem sub_next {B i x y c V A C : Nat} (hx : x < B) (hy : y < B) (hc : c <= 1) (h : V + C = A + B ^ i * c) : (V + B ^ i * ((x + B - y - c) % B)) + (C + B ^ i * y) = (A + B ^ i * x) + B ^ (i + 1) * (if x < y + c then 1 else 0):=by
 have e : (x + B - y - c) % B + y + c = x + B * (if x < y + c then 1 else 0):=by
  split
  ·rename_i hlt
   rw [Nat.mod_eq_of_lt (by omega)]
   omega
  ·rename_i hge
   rw [show x + B - y - c = (x - y - c) + B by omega,Nat.add_mod_right,Nat.mod_eq_of_lt (by omega)]
   omega
 rw [Nat.pow_succ,Nat.mul_assoc]
 have h2:=congrArg (B ^ i * ·) e
 rw [Nat.mul_add,Nat.mul_add,Nat.mul_add] at h2
 omega
end
section
open Go.RowKit
def AInv (m : Bool) (a b : List Int) (i c : Nat) (o : List Int) : Prop :=
 if m = true then Nt.val 18446744073709551616 (o.take i) + 18446744073709551616 ^ i * c = Nt.val 18446744073709551616 (a.take i) + Nt.val 18446744073709551616 (b.take i)
 else Nt.val 18446744073709551616 (o.take i) + Nt.val 18446744073709551616 (b.take i) = Nt.val 18446744073709551616 (a.take i) + 18446744073709551616 ^ i * c
theorem AInv.start (m : Bool) (a b o : List Int) : AInv m a b 0 0 o:=by unfold AInv; split <;> simp [Nt.val]
def stZ (m : Bool) (x y : Int) (c : Nat) : Nat:=if m = true then (x.toNat + y.toNat + c) % 18446744073709551616 else (x.toNat + 18446744073709551616 - y.toNat - c) % 18446744073709551616
def stC (m : Bool) (x y : Int) (c : Nat) : Nat:=if m = true then (x.toNat + y.toNat + c) / 18446744073709551616 else (if x.toNat < y.toNat + c then 1 else 0 : Nat)
theorem stZ_f (x y : Int) (c : Nat) : stZ false x y c = (x.toNat + 18446744073709551616 - y.toNat - c) % 18446744073709551616:=by unfold stZ; rw [if_neg (by decide)]
theorem stZ_t (x y : Int) (c : Nat) : stZ true x y c = (x.toNat + y.toNat + c) % 18446744073709551616:=by unfold stZ; rw [if_pos rfl]
theorem stC_f (x y : Int) (c : Nat) : stC false x y c = (if x.toNat < y.toNat + c then 1 else 0 : Nat):=by unfold stC; rw [if_neg (by decide)]
theorem stC_t (x y : Int) (c : Nat) : stC true x y c = (x.toNat + y.toNat + c) / 18446744073709551616:=by unfold stC; rw [if_pos rfl]
theorem stZ_lt (m : Bool) (x y : Int) (c : Nat) : stZ m x y c < 18446744073709551616:=by unfold stZ; split <;> exact Nat.mod_lt _ (by decide)
theorem stC_le (m : Bool) (x y : Int) (c : Nat) (hx : x < 18446744073709551616) (hy : y < 18446744073709551616) (hc : c <= 1) : stC m x y c <= 1:=by
 unfold stC
 split
 ·omega
 ·split <;> omega
theorem AInv.step {m : Bool} {a b o : List Int} {i c : Nat} {x : Int} (h : AInv m a b i c o) (hx : a[i]? = some x) (hl : i < o.length) (hxb : 0 <= x /\ x < 18446744073709551616) (hyb : 0 <= (b[i]?).getD 0 /\ (b[i]?).getD 0 < 18446744073709551616) (hc : c <= 1) :
  AInv m a b (i + 1) (stC m x ((b[i]?).getD 0) c) (o.set i ((stZ m x ((b[i]?).getD 0) c : Nat) : Int)):=by
 have e1 : (o.set i ((stZ m x ((b[i]?).getD 0) c : Nat) : Int))[i]? = some ((stZ m x ((b[i]?).getD 0) c : Nat) : Int):=by
  rw [List.getElem?_set_self hl]
 have e2 : (o.set i ((stZ m x ((b[i]?).getD 0) c : Nat) : Int)).take i = o.take i:=by rw [List.take_set_of_le (Nat.le_refl _)]
 unfold AInv at *
 rw [val_next _ a i,val_next _ b i,val_next _ (o.set i _) i,e1,e2,hx]
 simp only [Option.getD_some,Int.toNat_natCast]
 cases m
 ·simp only [stZ,stC,if_neg (show ¬ (false = true) by decide)] at *
  exact sub_next (by omega) (by omega) hc h
 ·simp only [stZ,stC,if_true] at *
  exact add_next (by decide) h
end
section
open Go.RowKit
theorem BL_big : 18446744073709551616 <= BL:=by rw [BL_eq]; decide
theorem AInv.less {a b o : List Int} {n c : Nat} (h : AInv false a b n c o) (ha : a.length = n) (hb : b.length <= n) (ho : o.length = n) (hd : Nt.Dig 18446744073709551616 o) (hle : Nt.val 18446744073709551616 b <= Nt.val 18446744073709551616 a) :
  Nt.val 18446744073709551616 o = Nt.val 18446744073709551616 a - Nt.val 18446744073709551616 b:=by
 unfold AInv at h
 simp only [if_neg (show ¬ (false = true) by decide)] at h
 rw [List.take_of_length_le (show a.length <= n by omega),List.take_of_length_le hb,List.take_of_length_le (show o.length <= n by omega)] at h
 have hlt:=Nt.val_lt 18446744073709551616 (by decide) o hd
 rw [ho] at hlt
 have hc : c = 0:=by
  rcases Nat.eq_zero_or_pos c with h0 | h0
  ·exact h0
  ·have:=Nat.mul_le_mul_left (18446744073709551616 ^ n) h0
   generalize 18446744073709551616 ^ n * c = Q at *
   generalize 18446744073709551616 ^ n = Q2 at *
   omega
 subst hc
 omega
set_option maxRecDepth 100000 in
set_option maxHeartbeats 2000000 in
theorem bplus_ge (A : Option Addr) (n c X : Nat) (A' : Option Addr) (n' c' Y : Nat) (w : World) (h : NU w A n c X) (h' : NU w A' n' c' Y) (hb : X + Y < BL) (hle : n' <= n) :
  Calls Tryz.prog 75 #[.slice A n c,.slice A' n' c'] w (NatP (X + Y) w):=by
 obtain ⟨i0,hi0,hz0,hz1,hz2⟩:=info_parts u64_info
 obtain ⟨hn1,hn2⟩:=h.len
 obtain ⟨hm1,hm2⟩:=h'.len
 obtain ⟨l,hl⟩ : ∃ l,l = Nt.dg 18446744073709551616 X:=⟨_,rfl⟩
 obtain ⟨m,hm⟩ : ∃ m,m = Nt.dg 18446744073709551616 Y:=⟨_,rfl⟩
 have HU1 : Hid (U w A n c l):=Hd (by rw [hl]; exact h.1)
 have HU2 : Hid (U w A' n' c' m):=Hd (by rw [hm]; exact h'.1)
 have HD1 : Hid (Nt.Dig 18446744073709551616 l):=Hd (by rw [hl]; exact Nt.dig_dg _ (by decide) _)
 have HD2 : Hid (Nt.Dig 18446744073709551616 m):=Hd (by rw [hm]; exact Nt.dig_dg _ (by decide) _)
 have HV1 : Hid (Nt.val 18446744073709551616 l = X):=Hd (by rw [hl]; exact Nt.val_dg _ (by decide) _)
 have HV2 : Hid (Nt.val 18446744073709551616 m = Y):=Hd (by rw [hm]; exact Nt.val_dg _ (by decide) _)
 have HRB:=Hd hb
 clear h h' hl hm hn1 hm1 hb
 go_enter Tryz.func75,Tryz.ntmps75
 go_wp2_with (refine wpList_make_full _ rfl (.tmp 19) (.tmp 19) 66 rfl w.heap.size 105 i0 _ 1 Tryz.underlying66 hi0 hz0 hz1 .i64 .i64 _ _ (n + 1) rfl rfl (by omega) (by omega) (by rw [hz2]; omega) (by simp only [maxLen]; omega) (Nat.le_refl _) ?_; intro w1 hown1 hg1; have HB1:=Hd ((Below.refl w.heap.size w).grown hg1 (Nat.le_refl _) (fun k hk=>by cases hk)); have ROW:=Hd (Row.made hown1); clear hown1 hg1)
 go_loopw [6,23] (fun cv iv wr=>∃ (i cy : Nat) (o : List Int),iv = .int .i64 i /\ cv = .int .u64 cy /\ i <= n /\ Hid (cy <= 1) /\ Hid (AInv true l m i cy o) /\ Hid (RowC wr w.heap.size w.heap.size (n + 1) (n + 1) o) /\ Hid (Nt.Dig 18446744073709551616 o) /\ Hid (Below w.heap.size w wr)) (fun _ iv _=>n - (intOf iv).toNat)
 case atStart=>exact ⟨0,0,List.replicate (n + 1) 0,rfl,rfl,Nat.zero_le _,Hd (by omega),Hd (AInv.start _ _ _ _),Hd (RowC.of ROW.out),Hd (fun z hz=>by rw [(List.mem_replicate.1 hz).2]; decide),HB1⟩
 case round =>
  clear ROW HB1
  obtain ⟨i,cy,o,rfl,rfl,hi,HC,HI,HR,HO,HB⟩:=hrel
  by_cases hlt : i < n
  ·obtain ⟨x,hx⟩ : ∃ x,l[i]? = some x:=⟨_,List.getElem?_eq_getElem (by have:=HU1.out.1; omega)⟩
   obtain ⟨ad,rfl,_,hcx⟩:=(HU1.out.below HB.out).2.2.2 i x hx
   have HXB:=Hd (HD1.out x (List.mem_of_getElem? hx))
   have hol:=HR.out.len
   obtain ⟨v0,hv0⟩ : ∃ v0,o[i]? = some v0:=⟨_,List.getElem?_eq_getElem (by omega)⟩
   have hcv:=HR.out.cell i v0 hv0
   have hfr:=HR.out.free i
   by_cases hlt2 : i < n'
   ·obtain ⟨y,hy⟩ : ∃ y,m[i]? = some y:=⟨_,List.getElem?_eq_getElem (by have:=HU2.out.1; omega)⟩
    obtain ⟨ad',rfl,_,hcy⟩:=(HU2.out.below HB.out).2.2.2 i y hy
    have HYB:=Hd (HD2.out y (List.mem_of_getElem? hy))
    have hy0 : (m[i]?).getD 0 = y:=by rw [hy]; rfl
    obtain ⟨Z,hZ⟩ : ∃ Z,Z = stZ true x y cy:=⟨_,rfl⟩
    obtain ⟨C,hC⟩ : ∃ C,C = stC true x y cy:=⟨_,rfl⟩
    have HNX : Hid (AInv true l m (i + 1) C (o.set i (Z : Int))):=Hd (by
     have h:=AInv.step HI.out hx (by omega) HXB.out (by rw [hy0]; exact HYB.out) HC.out
     rw [hy0,<- hZ,<- hC] at h
     exact h)
    have HCN : Hid (C <= 1):=Hd (by rw [hC]; exact stC_le true x y cy HXB.out.2 HYB.out.2 HC.out)
    have HZN : Hid (Nt.Dig 18446744073709551616 (o.set i (Z : Int))):=Hd (HO.out.set i Z (by omega) (by rw [hZ]; have:=stZ_lt true x y cy; omega))
    have HRN:=Hd (HR.out.set i (Z : Int))
    have HBN:=Hd (HB.out.setCell (p:=⟨w.heap.size,i,none⟩) (Nat.le_refl _) (.int .u64 (Z : Int)))
    have hrun:=run_add64 x y cy HC.out
    rw [<- stZ_t,<- stC_t,<- hZ,<- hC] at hrun
    clear hZ hC hv0 hx hol hy0 hy
    go_wp2_with fail
    exact ⟨⟨i + 1,C,_,by go_num,rfl,hlt,HCN,HNX,HRN,HZN,HBN⟩,by simp [intOf]; omega⟩
   ·obtain ⟨y,hyz⟩ : ∃ y : Int,0 = y:=⟨_,rfl⟩
    have hy0 : (m[i]?).getD 0 = y:=by rw [List.getElem?_eq_none (by have:=HU2.out.1; omega)]; exact hyz
    have HYB : Hid (0 <= y /\ y < 18446744073709551616):=Hd (by rw [<- hyz]; decide)
    obtain ⟨Z,hZ⟩ : ∃ Z,Z = stZ true x y cy:=⟨_,rfl⟩
    obtain ⟨C,hC⟩ : ∃ C,C = stC true x y cy:=⟨_,rfl⟩
    have HNX : Hid (AInv true l m (i + 1) C (o.set i (Z : Int))):=Hd (by
     have h:=AInv.step HI.out hx (by omega) HXB.out (by rw [hy0]; exact HYB.out) HC.out
     rw [hy0,<- hZ,<- hC] at h
     exact h)
    have HCN : Hid (C <= 1):=Hd (by rw [hC]; exact stC_le true x y cy HXB.out.2 HYB.out.2 HC.out)
    have HZN : Hid (Nt.Dig 18446744073709551616 (o.set i (Z : Int))):=Hd (HO.out.set i Z (by omega) (by rw [hZ]; have:=stZ_lt true x y cy; omega))
    have HRN:=Hd (HR.out.set i (Z : Int))
    have HBN:=Hd (HB.out.setCell (p:=⟨w.heap.size,i,none⟩) (Nat.le_refl _) (.int .u64 (Z : Int)))
    have hrun:=run_add64 x y cy HC.out
    rw [<- stZ_t,<- stC_t,<- hZ,<- hC] at hrun
    subst hyz
    clear hZ hC hv0 hx hol hy0
    go_wp2_with fail
    exact ⟨⟨i + 1,C,_,by go_num,rfl,hlt,HCN,HNX,HRN,HZN,HBN⟩,by simp [intOf]; omega⟩
  ·obtain rfl : n = i:=by omega
   have hol:=HR.out.len
   obtain ⟨v0,hv0⟩ : ∃ v0,o[n]? = some v0:=⟨_,List.getElem?_eq_getElem (by omega)⟩
   have hcv:=HR.out.cell n v0 hv0
   have hfr:=HR.out.free n
   have HRN:=Hd (HR.out.set n (cy : Int))
   have HBN:=Hd (HB.out.setCell (p:=⟨w.heap.size,n,none⟩) (Nat.le_refl _) (.int .u64 (cy : Int)))
   have HZN : Hid (Nt.Dig 18446744073709551616 (o.set n (cy : Int))):=Hd (HO.out.set n cy (by omega) (by have:=HC.out; omega))
   have HFI : Hid (Nt.val 18446744073709551616 (o.set n (cy : Int)) = X + Y):=Hd (by
    have h1:=HI.out
    have e1 : (o.set n (cy : Int)).take (n + 1) = o.set n (cy : Int):=List.take_of_length_le (by simp; omega)
    have e2:=val_next 18446744073709551616 (o.set n (cy : Int)) n
    rw [e1,List.getElem?_set_self (by omega),List.take_set_of_le (Nat.le_refl _)] at e2
    simp only [Option.getD_some,Int.toNat_natCast] at e2
    unfold AInv at h1
    simp only [if_true] at h1
    rw [List.take_of_length_le (show l.length <= n by have:=HU1.out.1; omega),List.take_of_length_le (show m.length <= n by have:=HU2.out.1; omega),HV1.out,HV2.out] at h1
    rw [e2]
    exact h1)
   have HTO:=Hd (btrim_nu (some ⟨w.heap.size,0,none⟩) (n + 1) (n + 1) (o.set n (cy : Int)) (X + Y) _ HRN.out.u (by omega) HZN.out HFI.out HRB.out)
   clear hol hv0
   go_wp2_with fail
   refine HTO.out.mono ?_
   rintro e w5 ⟨k5,rfl,hn5,rfl⟩
   have HN5:=Hd hn5
   clear hn5
   go_wp2
   go_ret
   exact ⟨_,_,_,rfl,HN5.out,HBN.out⟩
set_option maxRecDepth 100000 in
set_option maxHeartbeats 2000000 in
theorem bplus_lt (A : Option Addr) (n c X : Nat) (A' : Option Addr) (n' c' Y : Nat) (w : World) (h : NU w A n c X) (h' : NU w A' n' c' Y) (hb : X + Y < BL) (hle : n' < n) :
  Calls Tryz.prog 75 #[.slice A' n' c',.slice A n c] w (NatP (X + Y) w):=by
 obtain ⟨i0,hi0,hz0,hz1,hz2⟩:=info_parts u64_info
 obtain ⟨hn1,hn2⟩:=h.len
 obtain ⟨hm1,hm2⟩:=h'.len
 obtain ⟨l,hl⟩ : ∃ l,l = Nt.dg 18446744073709551616 X:=⟨_,rfl⟩
 obtain ⟨m,hm⟩ : ∃ m,m = Nt.dg 18446744073709551616 Y:=⟨_,rfl⟩
 have HU1 : Hid (U w A n c l):=Hd (by rw [hl]; exact h.1)
 have HU2 : Hid (U w A' n' c' m):=Hd (by rw [hm]; exact h'.1)
 have HD1 : Hid (Nt.Dig 18446744073709551616 l):=Hd (by rw [hl]; exact Nt.dig_dg _ (by decide) _)
 have HD2 : Hid (Nt.Dig 18446744073709551616 m):=Hd (by rw [hm]; exact Nt.dig_dg _ (by decide) _)
 have HV1 : Hid (Nt.val 18446744073709551616 l = X):=Hd (by rw [hl]; exact Nt.val_dg _ (by decide) _)
 have HV2 : Hid (Nt.val 18446744073709551616 m = Y):=Hd (by rw [hm]; exact Nt.val_dg _ (by decide) _)
 have HRB:=Hd hb
 clear h h' hl hm hn1 hm1 hb
 go_enter Tryz.func75,Tryz.ntmps75
 go_wp2_with (refine wpList_make_full _ rfl (.tmp 19) (.tmp 19) 66 rfl w.heap.size 105 i0 _ 1 Tryz.underlying66 hi0 hz0 hz1 .i64 .i64 _ _ (n + 1) rfl rfl (by omega) (by omega) (by rw [hz2]; omega) (by simp only [maxLen]; omega) (Nat.le_refl _) ?_; intro w1 hown1 hg1; have HB1:=Hd ((Below.refl w.heap.size w).grown hg1 (Nat.le_refl _) (fun k hk=>by cases hk)); have ROW:=Hd (Row.made hown1); clear hown1 hg1)
 go_loopw [6,23] (fun cv iv wr=>∃ (i cy : Nat) (o : List Int),iv = .int .i64 i /\ cv = .int .u64 cy /\ i <= n /\ Hid (cy <= 1) /\ Hid (AInv true l m i cy o) /\ Hid (RowC wr w.heap.size w.heap.size (n + 1) (n + 1) o) /\ Hid (Nt.Dig 18446744073709551616 o) /\ Hid (Below w.heap.size w wr)) (fun _ iv _=>n - (intOf iv).toNat)
 case atStart=>exact ⟨0,0,List.replicate (n + 1) 0,rfl,rfl,Nat.zero_le _,Hd (by omega),Hd (AInv.start _ _ _ _),Hd (RowC.of ROW.out),Hd (fun z hz=>by rw [(List.mem_replicate.1 hz).2]; decide),HB1⟩
 case round =>
  clear ROW HB1
  obtain ⟨i,cy,o,rfl,rfl,hi,HC,HI,HR,HO,HB⟩:=hrel
  by_cases hlt : i < n
  ·obtain ⟨x,hx⟩ : ∃ x,l[i]? = some x:=⟨_,List.getElem?_eq_getElem (by have:=HU1.out.1; omega)⟩
   obtain ⟨ad,rfl,_,hcx⟩:=(HU1.out.below HB.out).2.2.2 i x hx
   have HXB:=Hd (HD1.out x (List.mem_of_getElem? hx))
   have hol:=HR.out.len
   obtain ⟨v0,hv0⟩ : ∃ v0,o[i]? = some v0:=⟨_,List.getElem?_eq_getElem (by omega)⟩
   have hcv:=HR.out.cell i v0 hv0
   have hfr:=HR.out.free i
   by_cases hlt2 : i < n'
   ·obtain ⟨y,hy⟩ : ∃ y,m[i]? = some y:=⟨_,List.getElem?_eq_getElem (by have:=HU2.out.1; omega)⟩
    obtain ⟨ad',rfl,_,hcy⟩:=(HU2.out.below HB.out).2.2.2 i y hy
    have HYB:=Hd (HD2.out y (List.mem_of_getElem? hy))
    have hy0 : (m[i]?).getD 0 = y:=by rw [hy]; rfl
    obtain ⟨Z,hZ⟩ : ∃ Z,Z = stZ true x y cy:=⟨_,rfl⟩
    obtain ⟨C,hC⟩ : ∃ C,C = stC true x y cy:=⟨_,rfl⟩
    have HNX : Hid (AInv true l m (i + 1) C (o.set i (Z : Int))):=Hd (by
     have h:=AInv.step HI.out hx (by omega) HXB.out (by rw [hy0]; exact HYB.out) HC.out
     rw [hy0,<- hZ,<- hC] at h
     exact h)
    have HCN : Hid (C <= 1):=Hd (by rw [hC]; exact stC_le true x y cy HXB.out.2 HYB.out.2 HC.out)
    have HZN : Hid (Nt.Dig 18446744073709551616 (o.set i (Z : Int))):=Hd (HO.out.set i Z (by omega) (by rw [hZ]; have:=stZ_lt true x y cy; omega))
    have HRN:=Hd (HR.out.set i (Z : Int))
    have HBN:=Hd (HB.out.setCell (p:=⟨w.heap.size,i,none⟩) (Nat.le_refl _) (.int .u64 (Z : Int)))
    have hrun:=run_add64 x y cy HC.out
    rw [<- stZ_t,<- stC_t,<- hZ,<- hC] at hrun
    clear hZ hC hv0 hx hol hy0 hy
    go_wp2_with fail
    exact ⟨⟨i + 1,C,_,by go_num,rfl,hlt,HCN,HNX,HRN,HZN,HBN⟩,by simp [intOf]; omega⟩
   ·obtain ⟨y,hyz⟩ : ∃ y : Int,0 = y:=⟨_,rfl⟩
    have hy0 : (m[i]?).getD 0 = y:=by rw [List.getElem?_eq_none (by have:=HU2.out.1; omega)]; exact hyz
    have HYB : Hid (0 <= y /\ y < 18446744073709551616):=Hd (by rw [<- hyz]; decide)
    obtain ⟨Z,hZ⟩ : ∃ Z,Z = stZ true x y cy:=⟨_,rfl⟩
    obtain ⟨C,hC⟩ : ∃ C,C = stC true x y cy:=⟨_,rfl⟩
    have HNX : Hid (AInv true l m (i + 1) C (o.set i (Z : Int))):=Hd (by
     have h:=AInv.step HI.out hx (by omega) HXB.out (by rw [hy0]; exact HYB.out) HC.out
     rw [hy0,<- hZ,<- hC] at h
     exact h)
    have HCN : Hid (C <= 1):=Hd (by rw [hC]; exact stC_le true x y cy HXB.out.2 HYB.out.2 HC.out)
    have HZN : Hid (Nt.Dig 18446744073709551616 (o.set i (Z : Int))):=Hd (HO.out.set i Z (by omega) (by rw [hZ]; have:=stZ_lt true x y cy; omega))
    have HRN:=Hd (HR.out.set i (Z : Int))
    have HBN:=Hd (HB.out.setCell (p:=⟨w.heap.size,i,none⟩) (Nat.le_refl _) (.int .u64 (Z : Int)))
    have hrun:=run_add64 x y cy HC.out
    rw [<- stZ_t,<- stC_t,<- hZ,<- hC] at hrun
    subst hyz
    clear hZ hC hv0 hx hol hy0
    go_wp2_with fail
    exact ⟨⟨i + 1,C,_,by go_num,rfl,hlt,HCN,HNX,HRN,HZN,HBN⟩,by simp [intOf]; omega⟩
  ·obtain rfl : n = i:=by omega
   have hol:=HR.out.len
   obtain ⟨v0,hv0⟩ : ∃ v0,o[n]? = some v0:=⟨_,List.getElem?_eq_getElem (by omega)⟩
   have hcv:=HR.out.cell n v0 hv0
   have hfr:=HR.out.free n
   have HRN:=Hd (HR.out.set n (cy : Int))
   have HBN:=Hd (HB.out.setCell (p:=⟨w.heap.size,n,none⟩) (Nat.le_refl _) (.int .u64 (cy : Int)))
   have HZN : Hid (Nt.Dig 18446744073709551616 (o.set n (cy : Int))):=Hd (HO.out.set n cy (by omega) (by have:=HC.out; omega))
   have HFI : Hid (Nt.val 18446744073709551616 (o.set n (cy : Int)) = X + Y):=Hd (by
    have h1:=HI.out
    have e1 : (o.set n (cy : Int)).take (n + 1) = o.set n (cy : Int):=List.take_of_length_le (by simp; omega)
    have e2:=val_next 18446744073709551616 (o.set n (cy : Int)) n
    rw [e1,List.getElem?_set_self (by omega),List.take_set_of_le (Nat.le_refl _)] at e2
    simp only [Option.getD_some,Int.toNat_natCast] at e2
    unfold AInv at h1
    simp only [if_true] at h1
    rw [List.take_of_length_le (show l.length <= n by have:=HU1.out.1; omega),List.take_of_length_le (show m.length <= n by have:=HU2.out.1; omega),HV1.out,HV2.out] at h1
    rw [e2]
    exact h1)
   have HTO:=Hd (btrim_nu (some ⟨w.heap.size,0,none⟩) (n + 1) (n + 1) (o.set n (cy : Int)) (X + Y) _ HRN.out.u (by omega) HZN.out HFI.out HRB.out)
   clear hol hv0
   go_wp2_with fail
   refine HTO.out.mono ?_
   rintro e w5 ⟨k5,rfl,hn5,rfl⟩
   have HN5:=Hd hn5
   clear hn5
   go_wp2
   go_ret
   exact ⟨_,_,_,rfl,HN5.out,HBN.out⟩
theorem bplus_any (A : Option Addr) (n c X : Nat) (A' : Option Addr) (n' c' Y : Nat) (w : World) (h : NU w A n c X) (h' : NU w A' n' c' Y) (hb : X + Y < BL) :
  Calls Tryz.prog 75 #[.slice A n c,.slice A' n' c'] w (NatP (X + Y) w):=by
 rcases Nat.lt_or_ge n n' with h0 | h0
 ·rw [Nat.add_comm]
  exact bplus_lt A' n' c' Y A n c X w h' h (by omega) h0
 ·exact bplus_ge A n c X A' n' c' Y w h h' hb h0
set_option maxRecDepth 100000 in
set_option maxHeartbeats 2000000 in
theorem bless_any (A : Option Addr) (n c X : Nat) (A' : Option Addr) (n' c' Y : Nat) (w : World) (h : NU w A n c X) (h' : NU w A' n' c' Y) (hb : Y <= X)  :
  Calls Tryz.prog 77 #[.slice A n c,.slice A' n' c'] w (NatP (X - Y) w):=by
 obtain ⟨i0,hi0,hz0,hz1,hz2⟩:=info_parts u64_info
 obtain ⟨hn1,hn2⟩:=h.len
 obtain ⟨hm1,hm2⟩:=h'.len
 obtain ⟨l,hl⟩ : ∃ l,l = Nt.dg 18446744073709551616 X:=⟨_,rfl⟩
 obtain ⟨m,hm⟩ : ∃ m,m = Nt.dg 18446744073709551616 Y:=⟨_,rfl⟩
 have HU1 : Hid (U w A n c l):=Hd (by rw [hl]; exact h.1)
 have HU2 : Hid (U w A' n' c' m):=Hd (by rw [hm]; exact h'.1)
 have HD1 : Hid (Nt.Dig 18446744073709551616 l):=Hd (by rw [hl]; exact Nt.dig_dg _ (by decide) _)
 have HD2 : Hid (Nt.Dig 18446744073709551616 m):=Hd (by rw [hm]; exact Nt.dig_dg _ (by decide) _)
 have HV1 : Hid (Nt.val 18446744073709551616 l = X):=Hd (by rw [hl]; exact Nt.val_dg _ (by decide) _)
 have HV2 : Hid (Nt.val 18446744073709551616 m = Y):=Hd (by rw [hm]; exact Nt.val_dg _ (by decide) _)
 have hle : n' <= n:=by
  rw [hn1,hm1]
  exact Nat.le_of_not_lt (fun hlt=>by have:=Nt.len_lt 18446744073709551616 (by decide) X Y hlt; omega)
 have HRB : Hid (X - Y < BL):=Hd (by have:=h.2; omega)
 have HYX : Hid (Y <= X):=Hd hb
 clear h h' hl hm hn1 hm1 hb
 go_enter Tryz.func77,Tryz.ntmps77
 go_wp2_with (refine wpList_make_full _ rfl (.tmp 11) (.tmp 11) 66 rfl w.heap.size 105 i0 _ 1 Tryz.underlying66 hi0 hz0 hz1 .i64 .i64 _ _ n rfl rfl (by omega) (by omega) (by rw [hz2]; omega) (by simp only [maxLen]; omega) (Nat.le_refl _) ?_; intro w1 hown1 hg1; have HB1:=Hd ((Below.refl w.heap.size w).grown hg1 (Nat.le_refl _) (fun k hk=>by cases hk)); have ROW:=Hd (Row.made hown1); clear hown1 hg1)
 go_loopw [6,15] (fun cv iv wr=>∃ (i cy : Nat) (o : List Int),iv = .int .i64 i /\ cv = .int .u64 cy /\ i <= n /\ Hid (cy <= 1) /\ Hid (AInv false l m i cy o) /\ Hid (RowC wr w.heap.size w.heap.size n n o) /\ Hid (Nt.Dig 18446744073709551616 o) /\ Hid (Below w.heap.size w wr)) (fun _ iv _=>n - (intOf iv).toNat)
 case atStart=>exact ⟨0,0,List.replicate n 0,rfl,rfl,Nat.zero_le _,Hd (by omega),Hd (AInv.start _ _ _ _),Hd (RowC.of ROW.out),Hd (fun z hz=>by rw [(List.mem_replicate.1 hz).2]; decide),HB1⟩
 case round =>
  clear ROW HB1
  obtain ⟨i,cy,o,rfl,rfl,hi,HC,HI,HR,HO,HB⟩:=hrel
  by_cases hlt : i < n
  ·obtain ⟨x,hx⟩ : ∃ x,l[i]? = some x:=⟨_,List.getElem?_eq_getElem (by have:=HU1.out.1; omega)⟩
   obtain ⟨ad,rfl,_,hcx⟩:=(HU1.out.below HB.out).2.2.2 i x hx
   have HXB:=Hd (HD1.out x (List.mem_of_getElem? hx))
   have hol:=HR.out.len
   obtain ⟨v0,hv0⟩ : ∃ v0,o[i]? = some v0:=⟨_,List.getElem?_eq_getElem (by omega)⟩
   have hcv:=HR.out.cell i v0 hv0
   have hfr:=HR.out.free i
   by_cases hlt2 : i < n'
   ·obtain ⟨y,hy⟩ : ∃ y,m[i]? = some y:=⟨_,List.getElem?_eq_getElem (by have:=HU2.out.1; omega)⟩
    obtain ⟨ad',rfl,_,hcy⟩:=(HU2.out.below HB.out).2.2.2 i y hy
    have HYB:=Hd (HD2.out y (List.mem_of_getElem? hy))
    have hy0 : (m[i]?).getD 0 = y:=by rw [hy]; rfl
    obtain ⟨Z,hZ⟩ : ∃ Z,Z = stZ false x y cy:=⟨_,rfl⟩
    obtain ⟨C,hC⟩ : ∃ C,C = stC false x y cy:=⟨_,rfl⟩
    have HNX : Hid (AInv false l m (i + 1) C (o.set i (Z : Int))):=Hd (by
     have h:=AInv.step HI.out hx (by omega) HXB.out (by rw [hy0]; exact HYB.out) HC.out
     rw [hy0,<- hZ,<- hC] at h
     exact h)
    have HCN : Hid (C <= 1):=Hd (by rw [hC]; exact stC_le false x y cy HXB.out.2 HYB.out.2 HC.out)
    have HZN : Hid (Nt.Dig 18446744073709551616 (o.set i (Z : Int))):=Hd (HO.out.set i Z (by omega) (by rw [hZ]; have:=stZ_lt false x y cy; omega))
    have HRN:=Hd (HR.out.set i (Z : Int))
    have HBN:=Hd (HB.out.setCell (p:=⟨w.heap.size,i,none⟩) (Nat.le_refl _) (.int .u64 (Z : Int)))
    have hrun:=run_sub64 x y cy HC.out
    rw [<- stZ_f,<- stC_f,<- hZ,<- hC] at hrun
    clear hZ hC hv0 hx hol hy0 hy
    go_wp2_with fail
    exact ⟨⟨i + 1,C,_,by go_num,rfl,hlt,HCN,HNX,HRN,HZN,HBN⟩,by simp [intOf]; omega⟩
   ·obtain ⟨y,hyz⟩ : ∃ y : Int,0 = y:=⟨_,rfl⟩
    have hy0 : (m[i]?).getD 0 = y:=by rw [List.getElem?_eq_none (by have:=HU2.out.1; omega)]; exact hyz
    have HYB : Hid (0 <= y /\ y < 18446744073709551616):=Hd (by rw [<- hyz]; decide)
    obtain ⟨Z,hZ⟩ : ∃ Z,Z = stZ false x y cy:=⟨_,rfl⟩
    obtain ⟨C,hC⟩ : ∃ C,C = stC false x y cy:=⟨_,rfl⟩
    have HNX : Hid (AInv false l m (i + 1) C (o.set i (Z : Int))):=Hd (by
     have h:=AInv.step HI.out hx (by omega) HXB.out (by rw [hy0]; exact HYB.out) HC.out
     rw [hy0,<- hZ,<- hC] at h
     exact h)
    have HCN : Hid (C <= 1):=Hd (by rw [hC]; exact stC_le false x y cy HXB.out.2 HYB.out.2 HC.out)
    have HZN : Hid (Nt.Dig 18446744073709551616 (o.set i (Z : Int))):=Hd (HO.out.set i Z (by omega) (by rw [hZ]; have:=stZ_lt false x y cy; omega))
    have HRN:=Hd (HR.out.set i (Z : Int))
    have HBN:=Hd (HB.out.setCell (p:=⟨w.heap.size,i,none⟩) (Nat.le_refl _) (.int .u64 (Z : Int)))
    have hrun:=run_sub64 x y cy HC.out
    rw [<- stZ_f,<- stC_f,<- hZ,<- hC] at hrun
    subst hyz
    clear hZ hC hv0 hx hol hy0
    go_wp2_with fail
    exact ⟨⟨i + 1,C,_,by go_num,rfl,hlt,HCN,HNX,HRN,HZN,HBN⟩,by simp [intOf]; omega⟩
  ·obtain rfl : n = i:=by omega
   have hol:=HR.out.len
   have HFI : Hid (Nt.val 18446744073709551616 o = X - Y):=Hd (by
    rw [AInv.less HI.out HU1.out.1 (by have:=HU2.out.1; omega) hol HO.out (by rw [HV1.out,HV2.out]; exact HYX.out),HV1.out,HV2.out])
   have HTO:=Hd (btrim_nu (some ⟨w.heap.size,0,none⟩) n n o (X - Y) _ HR.out.u (by omega) HO.out HFI.out HRB.out)
   clear hol
   go_wp2_with fail
   refine HTO.out.mono ?_
   rintro e w5 ⟨k5,rfl,hn5,rfl⟩
   have HN5:=Hd hn5
   clear hn5
   go_wp2
   go_ret
   exact ⟨_,_,_,rfl,HN5.out,HB.out⟩
end
section
open Go.RowKit
theorem cellU1 (w : World) (p : Int) (t : TypeId) : ([Value.int .u64 p] : List Value).length = 1 * 1 /\ (∀ j u,([Value.int .u64 p] : List Value)[j]? = some u -> (w.alloc (.cells #[Value.int .u64 p] t)).cell? ((⟨w.heap.size,0,none⟩ : Addr).add j) = some u) /\ (∀ u ∈ ([Value.int .u64 p] : List Value),u.oneCell' = true):=by
 refine ⟨rfl,fun j u hu=>?_,fun u hu=>?_⟩
 ·rw [cell_new]
  rcases j with _ | j
  ·simpa using hu
  ·simp at hu
 ·simp at hu
  subst hu; rfl
theorem run_make_part (w : World) (base m n : Nat) (hm : m <= n) (hb : base <= w.heap.size) (hn : n <= 1000000) (kl kc : IntKind) :
  ∃ w',(Instr.makeSlice 66 (.int kl (m : Int)) (.int kc (n : Int))).run Tryz.prog w = .ok (.slice (some ⟨w.heap.size,0,none⟩) m n) w' /\ RowC w' base w.heap.size m n (List.replicate m 0) /\ w.grownBy w' none:=by
 obtain ⟨i0,hi0,hz0,hz1,hz2⟩:=info_parts u64_info
 have hr:=run_make (P:=Tryz.prog) w 66 105 i0 _ Tryz.underlying66 hi0 hz0 kl kc m n (by omega) (by omega) (by rw [hz2]; omega) (by omega)
 simp only [Int.toNat_natCast] at hr
 rw [hz1] at hr
 have h1:=World.ownsRow_lit (base:=base) (e:=105) (size:=1) w (madeCells (Value.int .u64 0).cells (n * 1)) n hb (by simp only [maxLen]; omega) (size_madeCells _ _)
 have h2 : RowC _ base w.heap.size n n (List.replicate n 0):=RowC.of (Row.made h1)
 have h3:=h2.cut m hm
 rw [List.take_replicate,Nat.min_eq_left hm] at h3
 exact ⟨_,hr,h3,World.grownBy_alloc w _ none⟩
theorem wpList_make_part (w : World) {ops : Array Oper} {rest : List Oper} {o : Oper} {a : Act} {Q : Exit -> Act -> World -> Prop}
  (hg : o.guard = none) (l c : Operand) (hop : o.op = Op.makeSlice 66 l c) (base : Nat)
  (kl kc : IntKind) (L C : Int) (m n : Nat) (hl : a.eval l = .int kl L) (hc : a.eval c = .int kc C) (hL : L = (m : Int)) (hC : C = (n : Int)) (hm : m <= n) (hn : n <= 1000000) (hb : base <= w.heap.size)
  (hK : ∀ w',RowC w' base w.heap.size m n (List.replicate m 0) -> w.grownBy w' none -> wpList Tryz.prog ops Q rest (a.put o.dst (.slice (some ⟨w.heap.size,0,none⟩) m n)) w') :
  wpList Tryz.prog ops Q (o :: rest) a w:=by
 refine wpList_plain hg fun K hK'=>?_
 obtain ⟨w',hrun,r1,r2⟩:=run_make_part w base m n hm hb hn kl kc
 subst hL
 subst hC
 unfold Oper.wp
 simp [execOp,hop,hl,hc,hrun,Result.andThen]
 exact hK' _ _ (hK w' r1 r2)
theorem val_zeros_app (k : Nat) (o : List Int) : Nt.val 18446744073709551616 (List.replicate k 0 ++ o) = 18446744073709551616 ^ k * Nt.val 18446744073709551616 o:=by
 rw [Nt.val_append,Nt.val_zeros _ _ (fun z hz=>(List.mem_replicate.1 hz).2),List.length_replicate,Nat.zero_add]
theorem left_step {b i x low V A : Nat} (hb : b < 64) (hx : x < 18446744073709551616) (h : V + 18446744073709551616 ^ i * low = 2 ^ b * A) :
  (V + 18446744073709551616 ^ i * ((x * 2 ^ b) % 18446744073709551616 + low)) + 18446744073709551616 ^ (i + 1) * (x / 2 ^ (64 - b)) = 2 ^ b * (A + 18446744073709551616 ^ i * x):=by
 have e : (x * 2 ^ b) % 18446744073709551616 + 18446744073709551616 * (x / 2 ^ (64 - b)) = x * 2 ^ b:=by
  have h1 : (18446744073709551616 : Nat) = 2 ^ (64 - b) * 2 ^ b:=by rw [<- Nat.pow_add,show 64 - b + b = 64 by omega]
  have h2 : x * 2 ^ b / 18446744073709551616 = x / 2 ^ (64 - b):=by
   rw [h1,Nat.mul_div_mul_right _ _ (Nat.two_pow_pos _)]
  rw [<- h2]
  exact Nat.mod_add_div _ _
 generalize (x * 2 ^ b) % 18446744073709551616 = M at *
 generalize x / 2 ^ (64 - b) = Q at *
 have h3:=congrArg (18446744073709551616 ^ i * ·) e
 simp only [Nat.mul_add] at h3 ⊢
 rw [Nat.pow_succ,Nat.mul_assoc,<- h]
 have h4 : 18446744073709551616 ^ i * (x * 2 ^ b) = 2 ^ b * (18446744073709551616 ^ i * x):=by rw [Nat.mul_comm x,Nat.mul_left_comm]
 omega
theorem left_bounds {b x low : Nat} (hb : b < 64) (hx : x < 18446744073709551616) (hl : low < 2 ^ b) : (x * 2 ^ b) % 18446744073709551616 + low < 18446744073709551616 /\ x / 2 ^ (64 - b) < 2 ^ b:=by
 have h1 : (18446744073709551616 : Nat) = 2 ^ (64 - b) * 2 ^ b:=by rw [<- Nat.pow_add,show 64 - b + b = 64 by omega]
 constructor
 ·rw [h1,Nat.mul_mod_mul_right]
  have h2 : x % 2 ^ (64 - b) < 2 ^ (64 - b):=Nat.mod_lt _ (Nat.two_pow_pos _)
  have h3:=Nat.mul_le_mul_right (2 ^ b) (show x % 2 ^ (64 - b) + 1 <= 2 ^ (64 - b) from h2)
  rw [Nat.add_mul] at h3
  omega
 ·refine Nat.div_lt_of_lt_mul ?_
  rw [<- h1]; exact hx
set_option maxRecDepth 400000 in
set_option maxHeartbeats 4000000 in
theorem bleft_any (A : Option Addr) (n c X N : Nat) (w : World) (h : NU w A n c X) (hN : N <= 100000) (hb : 2 ^ N * X < BL) :
  Calls Tryz.prog 242 #[.slice A n c,.int .u64 N] w (NatP (2 ^ N * X) w):=by
 obtain ⟨i0,hi0,hz0,hz1,hz2⟩:=info_parts u64_info
 obtain ⟨hn1,hn2⟩:=h.len
 by_cases h0 : n = 0
 ·have hX:=h.zero.1 h0
  subst hX
  subst h0
  rw [Nat.mul_zero]
  clear h hn1 hn2 hb
  go_enter Tryz.func242,Tryz.ntmps242
  go_wp2
  go_ret
  exact ⟨none,0,0,rfl,NU.none _ 0,Below.refl _ _⟩
 ·obtain ⟨l,hl⟩ : ∃ l,l = Nt.dg 18446744073709551616 X:=⟨_,rfl⟩
  have HU : Hid (U w A n c l):=Hd (by rw [hl]; exact h.1)
  have HD : Hid (Nt.Dig 18446744073709551616 l):=Hd (by rw [hl]; exact Nt.dig_dg _ (by decide) _)
  have HV1 : Hid (Nt.val 18446744073709551616 l = X):=Hd (by rw [hl]; exact Nt.val_dg _ (by decide) _)
  have HRB:=Hd hb
  obtain ⟨k,hk⟩ : ∃ k,k = N / 64:=⟨_,rfl⟩
  obtain ⟨b,hbb⟩ : ∃ b,b = N % 64:=⟨_,rfl⟩
  have hb64 : b < 64:=by omega
  have hkb : k <= 2000:=by omega
  have HNK : Hid (N = 64 * k + b):=Hd (by omega)
  have q1 : (N : Int).tdiv 64 = (k : Int):=by rw [Int.tdiv_eq_ediv_of_nonneg (by omega)]; omega
  have q2 : (N : Int).tmod 64 = (b : Int):=by rw [Int.tmod_eq_emod_of_nonneg (by omega)]; omega
  have q3 : (N : Int) / 64 = (k : Int):=by omega
  have q4 : (N : Int) % 64 = (b : Int):=by omega
  have q5 : IntKind.u64.wrap (k : Int) = (k : Int):=M6.wrapN _ (by omega)
  have q6 : IntKind.i64.wrap (k : Int) = (k : Int):=by rw [IntKind.wrap_i64]; omega
  have q7 : (64 : Int) - (b : Int) = ((64 - b : Nat) : Int):=by omega
  have q7' : IntKind.u64.wrap ((64 : Int) - (b : Int)) = ((64 - b : Nat) : Int):=by rw [q7]; exact M6.wrapN _ (by omega)
  have hz : ((n : Int) == 0) = false:=by simp; omega
  clear h hl hn1 hb hk hbb hN
  go_enter Tryz.func242,Tryz.ntmps242
  go_wp2_with (refine wpList_make_part _ rfl (.tmp 13) (.tmp 20) rfl w.heap.size .u64 .i64 _ _ k (k + n + 1) rfl rfl (by first | rfl | omega) (by first | rfl | omega | (simp; done)) (by omega) (by omega) (Nat.le_refl _) ?_; intro w1 hown1 hg1; have HB1:=Hd ((Below.refl w.heap.size w).grown hg1 (Nat.le_refl _) (fun k hk=>by cases hk)); have HOWN1:=Hd hown1; clear hown1 hg1)
  go_loopw [5,6,24] (fun ov lv iv wr=>∃ (i low : Nat) (o : List Int),iv = .int .i64 i /\ lv = .int .u64 low /\ ov = .slice (some ⟨w.heap.size,0,none⟩) (k + i) (k + n + 1) /\ i <= n /\ Hid (low < 2 ^ b) /\ Hid (RowC wr w.heap.size w.heap.size (k + i) (k + n + 1) (List.replicate k 0 ++ o)) /\ Hid (o.length = i) /\ Hid (Nt.Dig 18446744073709551616 o) /\ Hid (Nt.val 18446744073709551616 o + 18446744073709551616 ^ i * low = 2 ^ b * Nt.val 18446744073709551616 (l.take i)) /\ Hid (Below w.heap.size w wr)) (fun _ _ iv _=>n - (intOf iv).toNat)
  case atStart=>exact ⟨0,0,[],rfl,rfl,rfl,Nat.zero_le _,Hd (Nat.two_pow_pos _),Hd (by simpa using HOWN1.out),Hd rfl,Hd (fun z hz=>by cases hz),Hd (by simp [Nt.val]),HB1⟩
  case round =>
   clear HOWN1 HB1
   obtain ⟨i,low,o,rfl,rfl,rfl,hi,HL,HOWN,HOL,HO,HV,HB⟩:=hrel
   by_cases hlt : i < n
   ·obtain ⟨x,hx⟩ : ∃ x,l[i]? = some x:=⟨_,List.getElem?_eq_getElem (by have:=HU.out.1; omega)⟩
    obtain ⟨ad,rfl,_,hcx⟩:=(HU.out.below HB.out).2.2.2 i x hx
    have hxb:=HD.out x (List.mem_of_getElem? hx)
    obtain ⟨xn,rfl⟩ : ∃ xn : Nat,x = xn:=⟨x.toNat,by omega⟩
    have hxn : xn < 18446744073709551616:=by omega
    obtain ⟨M,hM⟩ : ∃ M : Nat,M = xn * 2 ^ b % 18446744073709551616:=⟨_,rfl⟩
    have hshl : IntKind.u64.wrap ((xn : Int) * 2 ^ b) = (M : Int):=by
     rw [hM,show (xn : Int) * 2 ^ b = ((xn * 2 ^ b : Nat) : Int) by simp,IntKind.wrap_u64]; omega
    have hMb : M < 18446744073709551616:=by rw [hM]; exact Nat.mod_lt _ (by decide)
    have HUB:=left_bounds hb64 hxn HL.out
    rw [<- hM] at HUB
    have hlb : low < 18446744073709551616:=by omega
    have hor : bits BinOp.or IntKind.u64 (M : Int) (low : Int) = ((M + low : Nat) : Int):=by
     rw [u64_or_nat M low hMb hlb,Nat.or_comm,hM,or_low low xn b HL.out (by omega),Nat.add_comm]
    have HST:=left_step hb64 hxn HV.out
    rw [<- hM] at HST
    obtain ⟨z,hz⟩ : ∃ z,z = M + low:=⟨_,rfl⟩
    obtain ⟨q,hq⟩ : ∃ q,q = xn / 2 ^ (64 - b):=⟨_,rfl⟩
    rw [<- hz] at hor HUB HST
    rw [<- hq] at HUB HST
    have hs8 : (xn : Int) / 2 ^ (64 - b) = (q : Int):=by
     rw [hq]; simp
    have OWN2 : Hid (World.ownsRow (wr.alloc (.cells #[.int .u64 (z : Int)] 105)) w.heap.size 105 1 (.slice (some ⟨w.heap.size,0,none⟩) (k + i) (k + n + 1)) (k + i) ((List.replicate k 0 ++ o).map (Value.int .u64))):=Hd (World.ownsRow.alloc HOWN.out _)
    have CELLS2:=Hd (cellU1 wr (z : Int) 105)
    have HBA:=Hd (HB.out.alloc HB.out.size (.cells #[.int .u64 (z : Int)] 105))
    have HON : Hid (Nt.Dig 18446744073709551616 (o ++ [(z : Int)])):=Hd (fun y hy=>by
     rcases List.mem_append.1 hy with h | h
     ·exact HO.out y h
     ·have : y = z:=by simpa using h
      subst this
      have:=HUB.1; omega)
    have HVN : Hid (Nt.val 18446744073709551616 (o ++ [(z : Int)]) + 18446744073709551616 ^ (i + 1) * q = 2 ^ b * Nt.val 18446744073709551616 (l.take (i + 1))):=Hd (by
     rw [Nt.val_append,HOL.out,val_snoc _ l i xn hx]
     have h9:=HST
     simp only [Nt.val,Int.toNat_natCast,Nat.mul_zero,Nat.add_zero] at h9 ⊢
     exact h9)
    have HQN : Hid (q < 2 ^ b):=Hd HUB.2
    clear hM hMb hxn HUB hlb HST hz hq hx hxb
    go_wp2_with (at_builtin; refine wpList_append_fits _ rfl (.tmp 28) (.tmp 35) 66 rfl w.heap.size 105 i0 1 Tryz.underlying66 hi0 hz1 w.heap.size (k + i) (k + n + 1) ((List.replicate k 0 ++ o).map (Value.int .u64)) rfl OWN2.out ⟨wr.heap.size,0,none⟩ 1 1 [Value.int .u64 (z : Int)] rfl CELLS2.out.1 CELLS2.out.2.1 CELLS2.out.2.2 (by omega) ?_; intro w3 hown3 hg3; have HOWN3:=Hd hown3; have HB3:=Hd (HBA.out.grown hg3 HBA.out.size (fun k hk=>by cases hk; exact Nat.le_refl _)); clear hown3 hg3)
    exact ⟨⟨i + 1,q,o ++ [(z : Int)],by go_num,rfl,by rw [Nat.add_assoc],hlt,HQN,Hd (by have h:=HOWN3.out; rw [show [Value.int .u64 (z : Int)] = [(z : Int)].map (Value.int .u64) from rfl,<- List.map_append,List.append_assoc] at h; exact h),Hd (by rw [List.length_append,HOL.out]; rfl),HON,HVN,HB3⟩,by simp [intOf]; omega⟩
   ·obtain rfl : n = i:=by omega
    have OWN2 : Hid (World.ownsRow (wr.alloc (.cells #[.int .u64 (low : Int)] 105)) w.heap.size 105 1 (.slice (some ⟨w.heap.size,0,none⟩) (k + n) (k + n + 1)) (k + n) ((List.replicate k 0 ++ o).map (Value.int .u64))):=Hd (World.ownsRow.alloc HOWN.out _)
    have CELLS2:=Hd (cellU1 wr (low : Int) 105)
    have HBA:=Hd (HB.out.alloc HB.out.size (.cells #[.int .u64 (low : Int)] 105))
    have HON : Hid (Nt.Dig 18446744073709551616 ((List.replicate k 0 ++ o) ++ [(low : Int)])):=Hd (fun y hy=>by
     rcases List.mem_append.1 hy with h | h
     ·rcases List.mem_append.1 h with h | h
      ·rw [(List.mem_replicate.1 h).2]; decide
      ·exact HO.out y h
     ·have : y = low:=by simpa using h
      subst this
      have h1:=HL.out
      have h2 : (2 : Nat) ^ b <= 2 ^ 63:=Nat.pow_le_pow_right (by decide) (by omega)
      omega)
    have HVN : Hid (Nt.val 18446744073709551616 ((List.replicate k 0 ++ o) ++ [(low : Int)]) = 2 ^ N * X):=Hd (by
     have h1:=HV.out
     rw [List.take_of_length_le (by have:=HU.out.1; omega),HV1.out] at h1
     have h2 : Nt.val 18446744073709551616 (o ++ [(low : Int)]) = 2 ^ b * X:=by
      rw [Nt.val_append,HOL.out,<- h1]
      simp [Nt.val]
     rw [List.append_assoc,val_zeros_app,h2,HNK.out,Nat.pow_add,Nat.pow_mul,<- Nat.mul_assoc])
    go_wp2_with (at_builtin; refine wpList_append_fits _ rfl (.tmp 43) (.tmp 45) 66 rfl w.heap.size 105 i0 1 Tryz.underlying66 hi0 hz1 w.heap.size (k + n) (k + n + 1) ((List.replicate k 0 ++ o).map (Value.int .u64)) rfl OWN2.out ⟨wr.heap.size,0,none⟩ 1 1 [Value.int .u64 (low : Int)] rfl CELLS2.out.1 CELLS2.out.2.1 CELLS2.out.2.2 (by omega) ?_; intro w3 hown3 hg3; have HOWN3:=Hd hown3; have HB3:=Hd (HBA.out.grown hg3 HBA.out.size (fun k hk=>by cases hk; exact Nat.le_refl _)); clear hown3 hg3)
    have HR3 : Hid (RowC w3 w.heap.size w.heap.size (k + n + 1) (k + n + 1) ((List.replicate k 0 ++ o) ++ [(low : Int)])):=Hd (by
     have h:=HOWN3.out
     rw [show [Value.int .u64 (low : Int)] = [(low : Int)].map (Value.int .u64) from rfl,<- List.map_append] at h
     exact h)
    have HTO:=Hd (btrim_nu (some ⟨w.heap.size,0,none⟩) (k + n + 1) (k + n + 1) ((List.replicate k 0 ++ o) ++ [(low : Int)]) (2 ^ N * X) _ HR3.out.u (by omega) HON.out HVN.out HRB.out)
    refine HTO.out.mono ?_
    rintro e w5 ⟨k5,rfl,hn5,rfl⟩
    have HN5:=Hd hn5
    clear hn5
    go_wp2
    go_ret
    exact ⟨_,_,_,rfl,HN5.out,HB3.out⟩
set_option maxRecDepth 100000 in
theorem bsize_any (A : Option Addr) (n c X : Nat) (w : World) (h : NU w A n c X) :
  Calls Tryz.prog 241 #[.slice A n c] w fun e w'=>e = .returned (.int .i64 (bitsN X)) /\ w = w':=by
 obtain ⟨hn1,hn2⟩:=h.len
 by_cases h0 : X = 0
 ·have hn:=h.zero.2 h0
  subst h0
  subst hn
  clear h hn1 hn2
  go_enter Tryz.func241,Tryz.ntmps241
  go_wp2
  go_ret
  exact ⟨rfl,rfl⟩
 ·obtain ⟨t,m,t1,t2,t3,t4,t5,t6⟩:=dg_top 18446744073709551616 (by decide) X h0
  rw [t1] at hn1
  subst hn1
  obtain ⟨ad,rfl,_,hc⟩:=h.1.2.2.2 m t t2
  have hbt:=bits_top X t m t3 t5 t6
  have hZ:=fun w=>zeros64_len t w t4
  have hb1 : Lib.bitLen t = bitsN t:=by
   have g1:=bitLen_lt 64 t (by decide) (by omega)
   have g2:=bitLen_ge t (by omega) (by omega)
   have g4 : 1 <= Lib.bitLen t:=by
    rcases Nat.eq_zero_or_pos (Lib.bitLen t) with h | h
    ·rw [h] at g1; omega
    ·exact h
   have g3 : t.log2 = Lib.bitLen t - 1:=by
    rw [Nat.log2_eq_iff (by omega)]
    refine ⟨g2,?_⟩
    rw [show Lib.bitLen t - 1 + 1 = Lib.bitLen t by omega]
    exact g1
   unfold bitsN
   rw [if_neg (by omega),g3]
   omega
  have hb2:=bitsN_le t t4
  rw [hb1] at hZ
  obtain ⟨T,hT⟩ : ∃ T,T = bitsN t:=⟨_,rfl⟩
  rw [<- hT] at hZ hb2 hbt
  rw [hbt]
  have HZ:=Hd hZ
  have hs1 : ((m + 1 : Nat) : Int) - 1 = (m : Int):=by omega
  have hs2 : IntKind.i64.wrap (((m + 1 : Nat) : Int) - 1) = (m : Int):=by rw [IntKind.wrap_i64]; omega
  have hs3 : IntKind.i64.wrap ((64 : Int) * ((m + 1 : Nat) : Int)) = ((64 * (m + 1) : Nat) : Int):=by rw [IntKind.wrap_i64]; omega
  have hs4 : wrap64 ((64 : Int) * ((m : Int) + 1) - ((64 - T : Nat) : Int)) = ((64 * m + T : Nat) : Int):=by unfold wrap64; omega
  have hs5 : (64 : Int) * ((m : Int) + 1) - ((64 - T : Nat) : Int) = ((64 * m + T : Nat) : Int):=by omega
  have hmm : m < 30:=by omega
  clear hZ hb1 hbt t1 t2 t3 t4 t5 t6 h hT h0
  have hs6 : wrap64 ((64 * m + T : Nat) : Int) = ((64 * m + T : Nat) : Int):=by unfold wrap64; omega
  obtain ⟨T2,hT2⟩ : ∃ T2 : Int,T2 = ((64 - T : Nat) : Int):=⟨_,rfl⟩
  obtain ⟨T3,hT3⟩ : ∃ T3 : Int,T3 = ((64 * m + T : Nat) : Int):=⟨_,rfl⟩
  rw [<- hT2,<- hT3] at hs4 hs5
  rw [<- hT3] at hs6
  rw [<- hT2] at HZ
  rw [<- hT3]
  clear hT2 hT3
  go_enter Tryz.func241,Tryz.ntmps241
  go_wp2_with (refine (HZ.out _).mono ?_; rintro e w1 ⟨rfl,rfl⟩)
  go_ret
  exact ⟨congrArg (fun z=>Ending.returned (.int .i64 z)) (by first | exact hs4 | exact hs6 | rfl),rfl⟩
end
end Go.Proofs.YtnpanpkahbcecaaGreatDoor

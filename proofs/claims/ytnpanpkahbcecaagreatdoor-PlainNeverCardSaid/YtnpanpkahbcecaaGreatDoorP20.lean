/-
Walks: big's Int64, IsInt64.
-/
import Derived.Test.YtnpanpkahbcecaaGreatDoorP19
import Derived.Lib.Hide
set_option linter.unusedVariables false
set_option linter.unusedSimpArgs false
namespace Go.Proofs.YtnpanpkahbcecaaGreatDoor
section
open Go.RowKit
def RiPost (X N : Nat) (w : World) (e : Ending) (w' : World) : Prop:=∃ A n c,e = .returned (.tuple #[.slice A n c,.bool (decide (X % 2 ^ N ≠ 0))]) /\ NU w' A n c (X / 2 ^ N) /\ Below w.heap.size w w'
namespace Nt
theorem ri_step {b i x y R V L : Nat} (hb : b < 64) (h : V * 2 ^ b + R = L + 18446744073709551616 ^ i * (x % 2 ^ b)) :
  (V + 18446744073709551616 ^ i * (x / 2 ^ b + (y * 2 ^ (64 - b)) % 18446744073709551616)) * 2 ^ b + R = (L + 18446744073709551616 ^ i * x) + 18446744073709551616 ^ (i + 1) * (y % 2 ^ b):=by
 have h1 : (18446744073709551616 : Nat) = 2 ^ b * 2 ^ (64 - b):=by rw [<- Nat.pow_add,show b + (64 - b) = 64 by omega]
 have h2 : (y * 2 ^ (64 - b)) % 18446744073709551616 * 2 ^ b = 18446744073709551616 * (y % 2 ^ b):=by
  conv=>lhs; rw [h1,Nat.mul_mod_mul_right]
  conv=>rhs; rw [h1]
  rw [Nat.mul_assoc,Nat.mul_comm (2 ^ (64 - b)),Nat.mul_comm]
 have h3:=Nat.div_add_mod x (2 ^ b)
 generalize (y * 2 ^ (64 - b)) % 18446744073709551616 = M at *
 rw [Nat.pow_succ,Nat.mul_assoc (18446744073709551616 ^ i),<- h2]
 generalize 18446744073709551616 ^ i = P at *
 generalize 2 ^ b = e at *
 generalize x / e = q at *
 generalize x % e = r at *
 subst h3
 grind
theorem ri_end {N k b X A L V r : Nat} (hN : N = 64 * k + b) (hX : X = A + 18446744073709551616 ^ k * L) (hA : A < 18446744073709551616 ^ k) (hV : V * 2 ^ b + r = L) (hr : r < 2 ^ b) :
  X / 2 ^ N = V /\ X % 2 ^ N = A + 18446744073709551616 ^ k * r:=by
 have e : 2 ^ N = 18446744073709551616 ^ k * 2 ^ b:=by rw [hN,Nat.pow_add,Nat.pow_mul]
 have e2 : X = 2 ^ N * V + (A + 18446744073709551616 ^ k * r):=by
  rw [hX,e,<- hV,Nat.mul_add,Nat.mul_assoc,Nat.mul_comm V]; omega
 have hlt : A + 18446744073709551616 ^ k * r < 2 ^ N:=by
  rw [e]
  have:=Nat.mul_le_mul_left (18446744073709551616 ^ k) (show r + 1 <= 2 ^ b from hr)
  rw [Nat.mul_add] at this
  omega
 rw [e2]
 constructor
 ·rw [Nat.mul_add_div (Nat.two_pow_pos _),Nat.div_eq_of_lt hlt,Nat.add_zero]
 ·rw [Nat.mul_add_mod,Nat.mod_eq_of_lt hlt]
end Nt
set_option maxRecDepth 400000 in
set_option maxHeartbeats 4000000 in
theorem bright_some (ad : Addr) (n c X N : Nat) (w : World) (h : NU w (some ad) n c X) (hN : N <= 100000) :
  Calls Tryz.prog 246 #[.slice (some ad) n c,.int .u64 N] w (RiPost X N w):=by
 obtain ⟨i0,hi0,hz0,hz1,hz2⟩:=info_parts u64_info
 obtain ⟨hn1,hn2⟩:=h.len
 obtain ⟨l,hl⟩ : ∃ l,l = Nt.dg 18446744073709551616 X:=⟨_,rfl⟩
 have HU : Hid (U w (some ad) n c l):=Hd (by rw [hl]; exact h.1)
 have HD : Hid (Nt.Dig 18446744073709551616 l):=Hd (by rw [hl]; exact Nt.dig_dg _ (by decide) _)
 have HV1 : Hid (Nt.val 18446744073709551616 l = X):=Hd (by rw [hl]; exact Nt.val_dg _ (by decide) _)
 have hnc : n <= c:=h.1.2.1
 have HBX:=Hd h.2
 obtain ⟨k0,hk0⟩ : ∃ k,k = N / 64:=⟨_,rfl⟩
 obtain ⟨b,hbb⟩ : ∃ b,b = N % 64:=⟨_,rfl⟩
 obtain ⟨k,hk⟩ : ∃ k,k = min k0 n:=⟨_,rfl⟩
 have hkn : k <= n:=by omega
 have hb64 : b < 64:=by omega
 have q1 : (N : Int).tdiv 64 = (k0 : Int):=by rw [Int.tdiv_eq_ediv_of_nonneg (by omega)]; omega
 have q2 : (N : Int).tmod 64 = (b : Int):=by rw [Int.tmod_eq_emod_of_nonneg (by omega)]; omega
 have q3 : (N : Int) / 64 = (k0 : Int):=by omega
 have q4 : (N : Int) % 64 = (b : Int):=by omega
 have q5 : IntKind.u64.wrap (k0 : Int) = (k0 : Int):=M6.wrapN _ (by omega)
 have q6 : IntKind.u64.wrap (n : Int) = (n : Int):=M6.wrapN _ (by omega)
 have q7 : (64 : Int) - (b : Int) = ((64 - b : Nat) : Int):=by omega
 have q7' : IntKind.u64.wrap ((64 : Int) - (b : Int)) = ((64 - b : Nat) : Int):=by rw [q7]; exact M6.wrapN _ (by omega)
 have q8 : IntKind.i64.wrap (k : Int) = (k : Int):=by rw [IntKind.wrap_i64]; omega
 have q9 : min (k0 : Int) (n : Int) = (k : Int):=by omega
 have HNK : Hid (N = 64 * k0 + b):=Hd (by omega)
 have HK:=Hd hk
 clear h hl hn1 hk0 hbb hk
 go_enter Tryz.func246,Tryz.ntmps246
 go_wp2_with fail
 go_loop [7,24] (fun lv iv=>∃ (i : Nat) (B : Bool),i <= k /\ lv = .bool B /\ iv = .int .i64 i /\ Hid (B = decide (Nt.val 18446744073709551616 (l.take i) ≠ 0))) (fun _ iv=>k - (intOf iv).toNat)
 case atStart=>exact ⟨0,false,Nat.zero_le _,rfl,rfl,Hd (by simp [Nt.val])⟩
 case round =>
  obtain ⟨i,B,hi,rfl,rfl,HB⟩:=hrel
  by_cases hlt : i < k
  ·obtain ⟨x,hx⟩ : ∃ x,l[i]? = some x:=⟨_,List.getElem?_eq_getElem (by have:=HU.out.1; omega)⟩
   obtain ⟨ad2,e2,_,hcx⟩:=HU.out.2.2.2 i x hx
   obtain rfl:=Option.some.inj e2
   have hxd:=HD.out x (List.mem_of_getElem? hx)
   have HS : Hid (Nt.val 18446744073709551616 (l.take (i + 1)) = Nt.val 18446744073709551616 (l.take i) + 18446744073709551616 ^ i * x.toNat):=Hd (by rw [Nt.val_take_succ _ l i HD.out,hx]; rfl)
   have HP : Hid (0 < 18446744073709551616 ^ i):=Hd (Nat.pow_pos (by decide))
   clear hx e2
   cases B
   ·by_cases h0 : x = 0
    ·have hxb : (x != 0) = false:=by simpa using h0
     have HN : Hid (false = decide (Nt.val 18446744073709551616 (l.take (i + 1)) ≠ 0)):=Hd (by rw [HS.out,h0,HB.out]; simp)
     clear h0 hxd
     go_wp2
     go_round
     case rel=>exact ⟨i + 1,false,hlt,rfl,by go_num,HN⟩
     case measure=>simp [intOf]; omega
    ·have hxb : (x != 0) = true:=by simpa using h0
     have HN : Hid (true = decide (Nt.val 18446744073709551616 (l.take (i + 1)) ≠ 0)):=Hd (by
      have h1 : 0 < x.toNat:=by omega
      have:=Nat.mul_pos HP.out h1
      rw [HS.out]; symm; rw [decide_eq_true_eq]; omega)
     clear h0 hxd
     go_wp2
     go_round
     case rel=>exact ⟨i + 1,true,hlt,rfl,by go_num,HN⟩
     case measure=>simp [intOf]; omega
   ·have HN : Hid (true = decide (Nt.val 18446744073709551616 (l.take (i + 1)) ≠ 0)):=Hd (by
     have h1:=HB.out.symm
     rw [decide_eq_true_eq] at h1
     rw [HS.out]; symm; rw [decide_eq_true_eq]; omega)
    clear hxd
    go_wp2
    go_round
    case rel=>exact ⟨i + 1,true,hlt,rfl,by go_num,HN⟩
    case measure=>simp [intOf]; omega
  ·obtain rfl : k = i:=by omega
   have HA : Hid (Nt.val 18446744073709551616 (l.take k) < 18446744073709551616 ^ k):=Hd (by
    have h:=Nt.val_lt 18446744073709551616 (by decide) (l.take k) (HD.out.take k)
    rw [List.length_take,Nat.min_eq_left (by have:=HU.out.1; omega)] at h
    exact h)
   by_cases hkn2 : k = n
   ·have HE : Hid (B = decide (X % 2 ^ N ≠ 0) /\ X / 2 ^ N = 0):=Hd (by
     have h1:=HA.out
     have h2:=HB.out
     rw [List.take_of_length_le (by have:=HU.out.1; omega),HV1.out] at h1 h2
     have h3 : X < 2 ^ N:=by
      refine Nat.lt_of_lt_of_le h1 ?_
      have h4:=HK.out
      rw [show (18446744073709551616 : Nat) = 2 ^ 64 by decide,<- Nat.pow_mul]
      exact Nat.pow_le_pow_right (by decide) (by have:=HNK.out; omega)
     rw [Nat.mod_eq_of_lt h3,Nat.div_eq_of_lt h3]
     exact ⟨h2,rfl⟩)
    subst hkn2
    have hm : k - k = 0:=by omega
    by_cases hc2 : k < c
    ·have hc3 : decide (k < c) = true:=decide_eq_true hc2
     go_wp2_with fail
     go_ret2
     exact ⟨none,0,0,by rw [HE.out.1]; rfl,by rw [HE.out.2]; exact NU.none _ 0,Below.refl _ _⟩
    ·obtain rfl : k = c:=by omega
     go_wp2_with fail
     go_ret2
     exact ⟨none,0,0,by rw [HE.out.1]; rfl,by rw [HE.out.2]; exact NU.none _ 0,Below.refl _ _⟩
   ·obtain ⟨m,hm0⟩ : ∃ m,m = n - k:=⟨_,rfl⟩
    have hkc : k < c:=by omega
    have hc3 : decide (k < c) = true:=decide_eq_true hkc
    have hm : n - k = m:=hm0.symm
    have hm1 : 1 <= m:=by omega
    have hm2 : m <= 30:=by omega
    have hmz : ((m : Int) == 0) = false:=by simp; omega
    have HKK : Hid (k = k0):=Hd (by have:=HK.out; omega)
    obtain ⟨l2,hl2⟩ : ∃ l2,l2 = l.drop k:=⟨_,rfl⟩
    have HU2 : Hid (U w (some (ad.add k)) m (c - k) l2):=Hd (by rw [hl2,hm0]; exact HU.out.drop k hkn)
    have HD2 : Hid (Nt.Dig 18446744073709551616 l2):=Hd (fun z hz=>HD.out z (List.mem_of_mem_drop (by rw [<- hl2]; exact hz)))
    have HXX : Hid (X = Nt.val 18446744073709551616 (l.take k) + 18446744073709551616 ^ k * Nt.val 18446744073709551616 l2):=Hd (by
     have h:=Nt.val_append 18446744073709551616 (l.take k) l2
     rw [hl2,List.take_append_drop,HV1.out,List.length_take,Nat.min_eq_left (by have:=HU.out.1; omega)] at h
     rw [hl2]; exact h)
    obtain ⟨y0,hy0⟩ : ∃ y,l2[0]? = some y:=⟨_,List.getElem?_eq_getElem (by have:=HU2.out.1; omega)⟩
    obtain ⟨ad2,e2,_,hcy⟩:=HU2.out.2.2.2 0 y0 hy0
    obtain rfl:=Option.some.inj e2
    rw [Addr.add_zero' (ad.add k)] at hcy
    have hyd:=HD2.out y0 (List.mem_of_getElem? hy0)
    obtain ⟨yn,rfl⟩ : ∃ yn : Nat,y0 = yn:=⟨y0.toNat,by omega⟩
    obtain ⟨M0,hM0⟩ : ∃ M : Nat,M = yn * 2 ^ (64 - b) % 18446744073709551616:=⟨_,rfl⟩
    have hshl : IntKind.u64.wrap ((yn : Int) * 2 ^ (64 - b)) = (M0 : Int):=by
     rw [hM0,show (yn : Int) * 2 ^ (64 - b) = ((yn * 2 ^ (64 - b) : Nat) : Int) by simp,IntKind.wrap_u64]; omega
    have HY0 : Hid (l2[0]? = some (yn : Int)):=Hd hy0
    clear e2 hyd hy0 hl2 hm0 hkn2
    have HM1 : Hid (M0 = 0 ↔ yn % 2 ^ b = 0):=Hd (by
     have h1 : (18446744073709551616 : Nat) = 2 ^ b * 2 ^ (64 - b):=by rw [<- Nat.pow_add,show b + (64 - b) = 64 by omega]
     rw [hM0,h1,Nat.mul_mod_mul_right]
     have:=Nat.two_pow_pos (64 - b)
     constructor
     ·intro h
      rcases Nat.mul_eq_zero.1 h with h | h
      ·exact h
      ·omega
     ·intro h; rw [h,Nat.zero_mul])
    clear hM0
    have hL : ∃ L : Bool,(B = true /\ L = true \/ (B = false /\ M0 = 0 /\ L = false) \/ (B = false /\ M0 ≠ 0 /\ L = true)):=by
     cases B
     ·by_cases h : M0 = 0
      ·exact ⟨false,.inr (.inl ⟨rfl,h,rfl⟩)⟩
      ·exact ⟨true,.inr (.inr ⟨rfl,h,rfl⟩)⟩
     ·exact ⟨true,.inl ⟨rfl,rfl⟩⟩
    obtain ⟨L,hL⟩:=hL
    have HLL:=Hd hL
    rcases hL with ⟨rfl,rfl⟩ | ⟨rfl,h0,rfl⟩ | ⟨rfl,h0,rfl⟩
    ·go_wp2_with
     (refine wpList_make_full _ rfl (.tmp 53) (.tmp 53) 66 rfl w.heap.size 105 i0 _ 1 Tryz.underlying66 hi0 hz0 hz1 .i64 .i64 _ _ m rfl rfl (by omega) (by omega) (by rw [hz2]; omega) (by simp only [maxLen]; omega) (Nat.le_refl _) ?_; intro w1 hown1 hg1; have HB1:=Hd ((Below.refl w.heap.size w).grown hg1 (Nat.le_refl _) (fun k hk=>by cases hk)); have ROW:=Hd (Row.made hown1); clear hown1 hg1)
     go_loopw [57] (fun iv wr=>∃ (i : Nat) (o : List Int),iv = .int .i64 i /\ i <= m /\ Hid (Nt.val 18446744073709551616 (o.take i) * 2 ^ b + yn % 2 ^ b = Nt.val 18446744073709551616 (l2.take i) + 18446744073709551616 ^ i * ((l2[i]?.getD 0).toNat % 2 ^ b)) /\ Hid (RowC wr w.heap.size w.heap.size m m o) /\ Hid (Nt.Dig 18446744073709551616 o) /\ Hid (Below w.heap.size w wr)) (fun iv _=>m - (intOf iv).toNat)
     case atStart=>exact ⟨0,List.replicate m 0,rfl,Nat.zero_le _,Hd (by rw [HY0.out]; simp [Nt.val]),Hd (RowC.of ROW.out),Hd (fun z hz=>by rw [(List.mem_replicate.1 hz).2]; decide),HB1⟩
     case round =>
      clear ROW HB1 hcy
      obtain ⟨i,o,rfl,hi,HI,HR,HO,HB3⟩:=hrel
      by_cases hlt : i < m
      ·obtain ⟨x0,hx⟩ : ∃ x,l2[i]? = some x:=⟨_,List.getElem?_eq_getElem (by have:=HU2.out.1; omega)⟩
       obtain ⟨ad3,e3,_,hcx⟩:=(HU2.out.below HB3.out).2.2.2 i x0 hx
       obtain rfl:=Option.some.inj e3
       have hxd:=HD2.out x0 (List.mem_of_getElem? hx)
       obtain ⟨x,rfl⟩ : ∃ x : Nat,x0 = x:=⟨x0.toNat,by omega⟩
       obtain ⟨v0,hv0⟩ : ∃ v0,o[i]? = some v0:=⟨_,List.getElem?_eq_getElem (by have:=HR.out.len; omega)⟩
       have hcv:=HR.out.cell i v0 hv0
       have hfr:=HR.out.free i
       obtain ⟨q,hq⟩ : ∃ q,q = x / 2 ^ b:=⟨_,rfl⟩
       have hshr : (x : Int) / 2 ^ b = (q : Int):=by rw [hq]; simp
       have hqb : q < 2 ^ (64 - b):=by
        rw [hq]
        refine Nat.div_lt_of_lt_mul ?_
        rw [<- Nat.pow_add,show b + (64 - b) = 64 by omega]
        omega
       have HQB:=Hd hqb
       have hq64 : q < 18446744073709551616:=by
        have : (2 : Nat) ^ (64 - b) <= 2 ^ 64:=Nat.pow_le_pow_right (by decide) (by omega)
        omega
       have HIX : Hid (Nt.val 18446744073709551616 (o.take i) * 2 ^ b + yn % 2 ^ b = Nt.val 18446744073709551616 (l2.take i) + 18446744073709551616 ^ i * (x % 2 ^ b)):=Hd (by have h:=HI.out; rw [hx] at h; exact h)
       have HQ:=Hd hq
       have HX:=Hd hx
       by_cases hlt2 : i + 1 < m
       ·obtain ⟨y1,hy1⟩ : ∃ y,l2[i + 1]? = some y:=⟨_,List.getElem?_eq_getElem (by have:=HU2.out.1; omega)⟩
        have hyd1:=HD2.out y1 (List.mem_of_getElem? hy1)
        obtain ⟨y,rfl⟩ : ∃ y : Nat,y1 = y:=⟨y1.toNat,by omega⟩
        obtain ⟨W1,hW1⟩ : ∃ W1,W1 = wr.setCell ⟨w.heap.size,i,none⟩ (.int .u64 (q : Int)):=⟨_,rfl⟩
        have HR1 : Hid (RowC W1 w.heap.size w.heap.size m m (o.set i (q : Int))):=Hd (by rw [hW1]; exact HR.out.set i (q : Int))
        have HB4 : Hid (Below w.heap.size w W1):=Hd (by rw [hW1]; exact HB3.out.setCell (p:=⟨w.heap.size,i,none⟩) (Nat.le_refl _) (.int .u64 (q : Int)))
        obtain ⟨ad4,e4,_,hcy4⟩:=(HU2.out.below HB4.out).2.2.2 (i + 1) y hy1
        obtain rfl:=Option.some.inj e4
        have hcv4:=HR1.out.cell i (q : Int) (List.getElem?_set_self (by have:=HR.out.len; omega))
        have hfr4:=HR1.out.free i
        obtain ⟨M,hM⟩ : ∃ M : Nat,M = y * 2 ^ (64 - b) % 18446744073709551616:=⟨_,rfl⟩
        have hMb4 : M < 18446744073709551616:=by rw [hM]; exact Nat.mod_lt _ (by decide)
        have hshl4 : IntKind.u64.wrap ((y : Int) * 2 ^ (64 - b)) = (M : Int):=by
         rw [hM,show (y : Int) * 2 ^ (64 - b) = ((y * 2 ^ (64 - b) : Nat) : Int) by simp,IntKind.wrap_u64]; omega
        obtain ⟨z,hz⟩ : ∃ z,z = q + M:=⟨_,rfl⟩
        have hor : bits BinOp.or IntKind.u64 (q : Int) (M : Int) = (z : Int):=by
         rw [u64_or_nat q M hq64 hMb4,hM,or_low q y (64 - b) hqb (by omega),hz,hM]
        have hz64 : z < 18446744073709551616:=by
         have h1 : (18446744073709551616 : Nat) = 2 ^ b * 2 ^ (64 - b):=by rw [<- Nat.pow_add,show b + (64 - b) = 64 by omega]
         rw [hz,hM,h1,Nat.mul_mod_mul_right]
         have h2 : y % 2 ^ b < 2 ^ b:=Nat.mod_lt _ (Nat.two_pow_pos _)
         have h3:=Nat.mul_le_mul_right (2 ^ (64 - b)) (show y % 2 ^ b + 1 <= 2 ^ b from h2)
         rw [Nat.add_mul] at h3
         omega
        have HN : Hid (Nt.val 18446744073709551616 (((o.set i (q : Int)).set i (z : Int)).take (i + 1)) * 2 ^ b + yn % 2 ^ b = Nt.val 18446744073709551616 (l2.take (i + 1)) + 18446744073709551616 ^ (i + 1) * ((l2[i + 1]?.getD 0).toNat % 2 ^ b)):=Hd (by
         have hol:=HR.out.len
         rw [Nt.take_set_succ _ i _ (by simp; omega),List.take_set_of_le (Nat.le_refl i),Nt.val_snoc,List.length_take,Nat.min_eq_left (by omega),_root_.Go.Proofs.YtnpanpkahbcecaaGreatDoor.val_snoc _ l2 i x hx,hy1]
         simp only [Option.getD_some,Int.toNat_natCast]
         rw [hz,hq,hM]
         exact Nt.ri_step hb64 HIX.out)
        have HRN:=Hd (HR1.out.set i (z : Int))
        have HBN:=Hd (HB4.out.setCell (p:=⟨w.heap.size,i,none⟩) (Nat.le_refl _) (.int .u64 (z : Int)))
        have HON : Hid (Nt.Dig 18446744073709551616 ((o.set i (q : Int)).set i (z : Int))):=Hd ((HO.out.set i q (by omega) (by omega)).set i z (by omega) (by omega))
        clear hv0 hxd hx hq hqb hyd1 hy1 hM hMb4 hz hz64
        go_wp2_with fail
        rw [<- hW1]
        clear hW1 hcv hfr hcx
        have s0 : (ad.add k).add (i + 1) = ⟨(ad.add k).block,(ad.add k).off + (i + 1),none⟩:=by rw [Addr.add,if_neg (by omega)]
        rw [s0] at hcy4
        clear s0
        have s1 : IntKind.i64.wrap ((i : Int) + 1) = (i : Int) + 1:=by rw [IntKind.wrap_i64]; omega
        have s2 : (0 : Int) <= (i : Int) + 1:=by omega
        have s3 : ((i : Int) + 1).toNat = i + 1:=by omega
        have s4 : (i : Int) + 1 < (m : Int):=by omega
        have HRN2 : Hid (RowC (W1.setCell ⟨w.heap.size,i,none⟩ (.int .u64 (z : Int))).drew w.heap.size w.heap.size m m ((o.set i (q : Int)).set i (z : Int))):=Hd (HRN.out.drewN 1)
        have HBN2:=Hd (below_drew HBN.out)
        go_region
        clear s1 s2 s3 s4 hcy4
        go_wp2_with fail
        exact ⟨⟨i + 1,_,by go_num,hlt,HN,HRN2,HON,HBN2⟩,by simp [intOf]; omega⟩
       ·have HN : Hid (Nt.val 18446744073709551616 ((o.set i (q : Int)).take (i + 1)) * 2 ^ b + yn % 2 ^ b = Nt.val 18446744073709551616 (l2.take (i + 1)) + 18446744073709551616 ^ (i + 1) * ((l2[i + 1]?.getD 0).toNat % 2 ^ b)):=Hd (by
         have hol:=HR.out.len
         rw [Nt.take_set_succ _ i _ (by omega),Nt.val_snoc,List.length_take,Nat.min_eq_left (by omega),_root_.Go.Proofs.YtnpanpkahbcecaaGreatDoor.val_snoc _ l2 i x hx,List.getElem?_eq_none (by have:=HU2.out.1; omega)]
         simp only [Option.getD_none,Int.toNat_natCast,Int.toNat_zero]
         rw [hq]
         have h:=Nt.ri_step (y:=0) hb64 HIX.out
         rw [Nat.zero_mul,Nat.zero_mod,Nat.add_zero] at h
         exact h)
        have HRN:=Hd (HR.out.set i (q : Int))
        have HBN:=Hd (HB3.out.setCell (p:=⟨w.heap.size,i,none⟩) (Nat.le_refl _) (.int .u64 (q : Int)))
        have HON : Hid (Nt.Dig 18446744073709551616 (o.set i (q : Int))):=Hd (HO.out.set i q (by omega) (by omega))
        clear hv0 hxd hx hq hqb hq64
        go_wp2_with fail
        exact ⟨⟨i + 1,_,by go_num,hlt,HN,HRN,HON,HBN⟩,by simp [intOf]; omega⟩
      ·obtain rfl : m = i:=by omega
       have HFI : Hid (X / 2 ^ N = Nt.val 18446744073709551616 o /\ true = decide (X % 2 ^ N ≠ 0)):=Hd (by
        have h1:=HI.out
        have hol:=HR.out.len
        rw [List.take_of_length_le (by omega),List.take_of_length_le (by have:=HU2.out.1; omega),List.getElem?_eq_none (by have:=HU2.out.1; omega)] at h1
        simp only [Option.getD_none,Int.toNat_zero,Nat.zero_mod,Nat.mul_zero,Nat.add_zero] at h1
        have h2:=Nt.ri_end (N:=N) (b:=b) (by rw [HKK.out]; exact HNK.out) HXX.out HA.out h1 (Nat.mod_lt _ (Nat.two_pow_pos _))
        refine ⟨h2.1,?_⟩
        rw [h2.2]
        have h3:=HLL.out
        have h4:=HB.out
        have h5:=HM1.out
        have hp : 0 < 18446744073709551616 ^ k:=Nat.pow_pos (by decide)
        have h6 : 18446744073709551616 ^ k * (yn % 2 ^ b) = 0 ↔ yn % 2 ^ b = 0:=by
         rw [Nat.mul_eq_zero]; constructor
         ·intro h; rcases h with h | h
          ·omega
          ·exact h
         ·exact fun h=>.inr h
        generalize 18446744073709551616 ^ k * (yn % 2 ^ b) = Z at *
        generalize Nt.val 18446744073709551616 (l.take k) = V at *
        symm
        simp at h3 h4
        simp
        omega)
       have HXB : Hid (X / 2 ^ N < BL):=Hd (Nat.lt_of_le_of_lt (Nat.div_le_self _ _) HBX.out)
       have HTO:=Hd (btrim_nu (some ⟨w.heap.size,0,none⟩) m m o (X / 2 ^ N) _ HR.out.u (by omega) HO.out HFI.out.1.symm HXB.out)
       go_wp2_with fail
       refine HTO.out.mono ?_
       rintro e w5 ⟨k5,rfl,hn5,rfl⟩
       have HN5:=Hd hn5
       clear hn5
       go_wp2
       go_ret2
       exact ⟨_,_,_,by rw [<- HFI.out.2]; rfl,HN5.out,HB3.out⟩
    ·have hMb : ((M0 : Int) != 0) = false:=by simp; omega
     clear h0
     go_wp2_with
     (refine wpList_make_full _ rfl (.tmp 53) (.tmp 53) 66 rfl w.heap.size 105 i0 _ 1 Tryz.underlying66 hi0 hz0 hz1 .i64 .i64 _ _ m rfl rfl (by omega) (by omega) (by rw [hz2]; omega) (by simp only [maxLen]; omega) (Nat.le_refl _) ?_; intro w1 hown1 hg1; have HB1:=Hd ((Below.refl w.heap.size w).grown hg1 (Nat.le_refl _) (fun k hk=>by cases hk)); have ROW:=Hd (Row.made hown1); clear hown1 hg1)
     go_loopw [57] (fun iv wr=>∃ (i : Nat) (o : List Int),iv = .int .i64 i /\ i <= m /\ Hid (Nt.val 18446744073709551616 (o.take i) * 2 ^ b + yn % 2 ^ b = Nt.val 18446744073709551616 (l2.take i) + 18446744073709551616 ^ i * ((l2[i]?.getD 0).toNat % 2 ^ b)) /\ Hid (RowC wr w.heap.size w.heap.size m m o) /\ Hid (Nt.Dig 18446744073709551616 o) /\ Hid (Below w.heap.size w wr)) (fun iv _=>m - (intOf iv).toNat)
     case atStart=>exact ⟨0,List.replicate m 0,rfl,Nat.zero_le _,Hd (by rw [HY0.out]; simp [Nt.val]),Hd (RowC.of ROW.out),Hd (fun z hz=>by rw [(List.mem_replicate.1 hz).2]; decide),HB1⟩
     case round =>
      clear ROW HB1 hcy
      obtain ⟨i,o,rfl,hi,HI,HR,HO,HB3⟩:=hrel
      by_cases hlt : i < m
      ·obtain ⟨x0,hx⟩ : ∃ x,l2[i]? = some x:=⟨_,List.getElem?_eq_getElem (by have:=HU2.out.1; omega)⟩
       obtain ⟨ad3,e3,_,hcx⟩:=(HU2.out.below HB3.out).2.2.2 i x0 hx
       obtain rfl:=Option.some.inj e3
       have hxd:=HD2.out x0 (List.mem_of_getElem? hx)
       obtain ⟨x,rfl⟩ : ∃ x : Nat,x0 = x:=⟨x0.toNat,by omega⟩
       obtain ⟨v0,hv0⟩ : ∃ v0,o[i]? = some v0:=⟨_,List.getElem?_eq_getElem (by have:=HR.out.len; omega)⟩
       have hcv:=HR.out.cell i v0 hv0
       have hfr:=HR.out.free i
       obtain ⟨q,hq⟩ : ∃ q,q = x / 2 ^ b:=⟨_,rfl⟩
       have hshr : (x : Int) / 2 ^ b = (q : Int):=by rw [hq]; simp
       have hqb : q < 2 ^ (64 - b):=by
        rw [hq]
        refine Nat.div_lt_of_lt_mul ?_
        rw [<- Nat.pow_add,show b + (64 - b) = 64 by omega]
        omega
       have HQB:=Hd hqb
       have hq64 : q < 18446744073709551616:=by
        have : (2 : Nat) ^ (64 - b) <= 2 ^ 64:=Nat.pow_le_pow_right (by decide) (by omega)
        omega
       have HIX : Hid (Nt.val 18446744073709551616 (o.take i) * 2 ^ b + yn % 2 ^ b = Nt.val 18446744073709551616 (l2.take i) + 18446744073709551616 ^ i * (x % 2 ^ b)):=Hd (by have h:=HI.out; rw [hx] at h; exact h)
       have HQ:=Hd hq
       have HX:=Hd hx
       by_cases hlt2 : i + 1 < m
       ·obtain ⟨y1,hy1⟩ : ∃ y,l2[i + 1]? = some y:=⟨_,List.getElem?_eq_getElem (by have:=HU2.out.1; omega)⟩
        have hyd1:=HD2.out y1 (List.mem_of_getElem? hy1)
        obtain ⟨y,rfl⟩ : ∃ y : Nat,y1 = y:=⟨y1.toNat,by omega⟩
        obtain ⟨W1,hW1⟩ : ∃ W1,W1 = wr.setCell ⟨w.heap.size,i,none⟩ (.int .u64 (q : Int)):=⟨_,rfl⟩
        have HR1 : Hid (RowC W1 w.heap.size w.heap.size m m (o.set i (q : Int))):=Hd (by rw [hW1]; exact HR.out.set i (q : Int))
        have HB4 : Hid (Below w.heap.size w W1):=Hd (by rw [hW1]; exact HB3.out.setCell (p:=⟨w.heap.size,i,none⟩) (Nat.le_refl _) (.int .u64 (q : Int)))
        obtain ⟨ad4,e4,_,hcy4⟩:=(HU2.out.below HB4.out).2.2.2 (i + 1) y hy1
        obtain rfl:=Option.some.inj e4
        have hcv4:=HR1.out.cell i (q : Int) (List.getElem?_set_self (by have:=HR.out.len; omega))
        have hfr4:=HR1.out.free i
        obtain ⟨M,hM⟩ : ∃ M : Nat,M = y * 2 ^ (64 - b) % 18446744073709551616:=⟨_,rfl⟩
        have hMb4 : M < 18446744073709551616:=by rw [hM]; exact Nat.mod_lt _ (by decide)
        have hshl4 : IntKind.u64.wrap ((y : Int) * 2 ^ (64 - b)) = (M : Int):=by
         rw [hM,show (y : Int) * 2 ^ (64 - b) = ((y * 2 ^ (64 - b) : Nat) : Int) by simp,IntKind.wrap_u64]; omega
        obtain ⟨z,hz⟩ : ∃ z,z = q + M:=⟨_,rfl⟩
        have hor : bits BinOp.or IntKind.u64 (q : Int) (M : Int) = (z : Int):=by
         rw [u64_or_nat q M hq64 hMb4,hM,or_low q y (64 - b) hqb (by omega),hz,hM]
        have hz64 : z < 18446744073709551616:=by
         have h1 : (18446744073709551616 : Nat) = 2 ^ b * 2 ^ (64 - b):=by rw [<- Nat.pow_add,show b + (64 - b) = 64 by omega]
         rw [hz,hM,h1,Nat.mul_mod_mul_right]
         have h2 : y % 2 ^ b < 2 ^ b:=Nat.mod_lt _ (Nat.two_pow_pos _)
         have h3:=Nat.mul_le_mul_right (2 ^ (64 - b)) (show y % 2 ^ b + 1 <= 2 ^ b from h2)
         rw [Nat.add_mul] at h3
         omega
        have HN : Hid (Nt.val 18446744073709551616 (((o.set i (q : Int)).set i (z : Int)).take (i + 1)) * 2 ^ b + yn % 2 ^ b = Nt.val 18446744073709551616 (l2.take (i + 1)) + 18446744073709551616 ^ (i + 1) * ((l2[i + 1]?.getD 0).toNat % 2 ^ b)):=Hd (by
         have hol:=HR.out.len
         rw [Nt.take_set_succ _ i _ (by simp; omega),List.take_set_of_le (Nat.le_refl i),Nt.val_snoc,List.length_take,Nat.min_eq_left (by omega),_root_.Go.Proofs.YtnpanpkahbcecaaGreatDoor.val_snoc _ l2 i x hx,hy1]
         simp only [Option.getD_some,Int.toNat_natCast]
         rw [hz,hq,hM]
         exact Nt.ri_step hb64 HIX.out)
        have HRN:=Hd (HR1.out.set i (z : Int))
        have HBN:=Hd (HB4.out.setCell (p:=⟨w.heap.size,i,none⟩) (Nat.le_refl _) (.int .u64 (z : Int)))
        have HON : Hid (Nt.Dig 18446744073709551616 ((o.set i (q : Int)).set i (z : Int))):=Hd ((HO.out.set i q (by omega) (by omega)).set i z (by omega) (by omega))
        clear hv0 hxd hx hq hqb hyd1 hy1 hM hMb4 hz hz64
        go_wp2_with fail
        rw [<- hW1]
        clear hW1 hcv hfr hcx
        have s0 : (ad.add k).add (i + 1) = ⟨(ad.add k).block,(ad.add k).off + (i + 1),none⟩:=by rw [Addr.add,if_neg (by omega)]
        rw [s0] at hcy4
        clear s0
        have s1 : IntKind.i64.wrap ((i : Int) + 1) = (i : Int) + 1:=by rw [IntKind.wrap_i64]; omega
        have s2 : (0 : Int) <= (i : Int) + 1:=by omega
        have s3 : ((i : Int) + 1).toNat = i + 1:=by omega
        have s4 : (i : Int) + 1 < (m : Int):=by omega
        have HRN2 : Hid (RowC (W1.setCell ⟨w.heap.size,i,none⟩ (.int .u64 (z : Int))).drew w.heap.size w.heap.size m m ((o.set i (q : Int)).set i (z : Int))):=Hd (HRN.out.drewN 1)
        have HBN2:=Hd (below_drew HBN.out)
        go_region
        clear s1 s2 s3 s4 hcy4
        go_wp2_with fail
        exact ⟨⟨i + 1,_,by go_num,hlt,HN,HRN2,HON,HBN2⟩,by simp [intOf]; omega⟩
       ·have HN : Hid (Nt.val 18446744073709551616 ((o.set i (q : Int)).take (i + 1)) * 2 ^ b + yn % 2 ^ b = Nt.val 18446744073709551616 (l2.take (i + 1)) + 18446744073709551616 ^ (i + 1) * ((l2[i + 1]?.getD 0).toNat % 2 ^ b)):=Hd (by
         have hol:=HR.out.len
         rw [Nt.take_set_succ _ i _ (by omega),Nt.val_snoc,List.length_take,Nat.min_eq_left (by omega),_root_.Go.Proofs.YtnpanpkahbcecaaGreatDoor.val_snoc _ l2 i x hx,List.getElem?_eq_none (by have:=HU2.out.1; omega)]
         simp only [Option.getD_none,Int.toNat_natCast,Int.toNat_zero]
         rw [hq]
         have h:=Nt.ri_step (y:=0) hb64 HIX.out
         rw [Nat.zero_mul,Nat.zero_mod,Nat.add_zero] at h
         exact h)
        have HRN:=Hd (HR.out.set i (q : Int))
        have HBN:=Hd (HB3.out.setCell (p:=⟨w.heap.size,i,none⟩) (Nat.le_refl _) (.int .u64 (q : Int)))
        have HON : Hid (Nt.Dig 18446744073709551616 (o.set i (q : Int))):=Hd (HO.out.set i q (by omega) (by omega))
        clear hv0 hxd hx hq hqb hq64
        go_wp2_with fail
        exact ⟨⟨i + 1,_,by go_num,hlt,HN,HRN,HON,HBN⟩,by simp [intOf]; omega⟩
      ·obtain rfl : m = i:=by omega
       have HFI : Hid (X / 2 ^ N = Nt.val 18446744073709551616 o /\ false = decide (X % 2 ^ N ≠ 0)):=Hd (by
        have h1:=HI.out
        have hol:=HR.out.len
        rw [List.take_of_length_le (by omega),List.take_of_length_le (by have:=HU2.out.1; omega),List.getElem?_eq_none (by have:=HU2.out.1; omega)] at h1
        simp only [Option.getD_none,Int.toNat_zero,Nat.zero_mod,Nat.mul_zero,Nat.add_zero] at h1
        have h2:=Nt.ri_end (N:=N) (b:=b) (by rw [HKK.out]; exact HNK.out) HXX.out HA.out h1 (Nat.mod_lt _ (Nat.two_pow_pos _))
        refine ⟨h2.1,?_⟩
        rw [h2.2]
        have h3:=HLL.out
        have h4:=HB.out
        have h5:=HM1.out
        have hp : 0 < 18446744073709551616 ^ k:=Nat.pow_pos (by decide)
        have h6 : 18446744073709551616 ^ k * (yn % 2 ^ b) = 0 ↔ yn % 2 ^ b = 0:=by
         rw [Nat.mul_eq_zero]; constructor
         ·intro h; rcases h with h | h
          ·omega
          ·exact h
         ·exact fun h=>.inr h
        generalize 18446744073709551616 ^ k * (yn % 2 ^ b) = Z at *
        generalize Nt.val 18446744073709551616 (l.take k) = V at *
        symm
        simp at h3 h4
        simp
        omega)
       have HXB : Hid (X / 2 ^ N < BL):=Hd (Nat.lt_of_le_of_lt (Nat.div_le_self _ _) HBX.out)
       have HTO:=Hd (btrim_nu (some ⟨w.heap.size,0,none⟩) m m o (X / 2 ^ N) _ HR.out.u (by omega) HO.out HFI.out.1.symm HXB.out)
       go_wp2_with fail
       refine HTO.out.mono ?_
       rintro e w5 ⟨k5,rfl,hn5,rfl⟩
       have HN5:=Hd hn5
       clear hn5
       go_wp2
       go_ret2
       exact ⟨_,_,_,by rw [<- HFI.out.2]; rfl,HN5.out,HB3.out⟩
    ·have hMb : ((M0 : Int) != 0) = true:=by simp; omega
     clear h0
     go_wp2_with
     (refine wpList_make_full _ rfl (.tmp 53) (.tmp 53) 66 rfl w.heap.size 105 i0 _ 1 Tryz.underlying66 hi0 hz0 hz1 .i64 .i64 _ _ m rfl rfl (by omega) (by omega) (by rw [hz2]; omega) (by simp only [maxLen]; omega) (Nat.le_refl _) ?_; intro w1 hown1 hg1; have HB1:=Hd ((Below.refl w.heap.size w).grown hg1 (Nat.le_refl _) (fun k hk=>by cases hk)); have ROW:=Hd (Row.made hown1); clear hown1 hg1)
     go_loopw [57] (fun iv wr=>∃ (i : Nat) (o : List Int),iv = .int .i64 i /\ i <= m /\ Hid (Nt.val 18446744073709551616 (o.take i) * 2 ^ b + yn % 2 ^ b = Nt.val 18446744073709551616 (l2.take i) + 18446744073709551616 ^ i * ((l2[i]?.getD 0).toNat % 2 ^ b)) /\ Hid (RowC wr w.heap.size w.heap.size m m o) /\ Hid (Nt.Dig 18446744073709551616 o) /\ Hid (Below w.heap.size w wr)) (fun iv _=>m - (intOf iv).toNat)
     case atStart=>exact ⟨0,List.replicate m 0,rfl,Nat.zero_le _,Hd (by rw [HY0.out]; simp [Nt.val]),Hd (RowC.of ROW.out),Hd (fun z hz=>by rw [(List.mem_replicate.1 hz).2]; decide),HB1⟩
     case round =>
      clear ROW HB1 hcy
      obtain ⟨i,o,rfl,hi,HI,HR,HO,HB3⟩:=hrel
      by_cases hlt : i < m
      ·obtain ⟨x0,hx⟩ : ∃ x,l2[i]? = some x:=⟨_,List.getElem?_eq_getElem (by have:=HU2.out.1; omega)⟩
       obtain ⟨ad3,e3,_,hcx⟩:=(HU2.out.below HB3.out).2.2.2 i x0 hx
       obtain rfl:=Option.some.inj e3
       have hxd:=HD2.out x0 (List.mem_of_getElem? hx)
       obtain ⟨x,rfl⟩ : ∃ x : Nat,x0 = x:=⟨x0.toNat,by omega⟩
       obtain ⟨v0,hv0⟩ : ∃ v0,o[i]? = some v0:=⟨_,List.getElem?_eq_getElem (by have:=HR.out.len; omega)⟩
       have hcv:=HR.out.cell i v0 hv0
       have hfr:=HR.out.free i
       obtain ⟨q,hq⟩ : ∃ q,q = x / 2 ^ b:=⟨_,rfl⟩
       have hshr : (x : Int) / 2 ^ b = (q : Int):=by rw [hq]; simp
       have hqb : q < 2 ^ (64 - b):=by
        rw [hq]
        refine Nat.div_lt_of_lt_mul ?_
        rw [<- Nat.pow_add,show b + (64 - b) = 64 by omega]
        omega
       have HQB:=Hd hqb
       have hq64 : q < 18446744073709551616:=by
        have : (2 : Nat) ^ (64 - b) <= 2 ^ 64:=Nat.pow_le_pow_right (by decide) (by omega)
        omega
       have HIX : Hid (Nt.val 18446744073709551616 (o.take i) * 2 ^ b + yn % 2 ^ b = Nt.val 18446744073709551616 (l2.take i) + 18446744073709551616 ^ i * (x % 2 ^ b)):=Hd (by have h:=HI.out; rw [hx] at h; exact h)
       have HQ:=Hd hq
       have HX:=Hd hx
       by_cases hlt2 : i + 1 < m
       ·obtain ⟨y1,hy1⟩ : ∃ y,l2[i + 1]? = some y:=⟨_,List.getElem?_eq_getElem (by have:=HU2.out.1; omega)⟩
        have hyd1:=HD2.out y1 (List.mem_of_getElem? hy1)
        obtain ⟨y,rfl⟩ : ∃ y : Nat,y1 = y:=⟨y1.toNat,by omega⟩
        obtain ⟨W1,hW1⟩ : ∃ W1,W1 = wr.setCell ⟨w.heap.size,i,none⟩ (.int .u64 (q : Int)):=⟨_,rfl⟩
        have HR1 : Hid (RowC W1 w.heap.size w.heap.size m m (o.set i (q : Int))):=Hd (by rw [hW1]; exact HR.out.set i (q : Int))
        have HB4 : Hid (Below w.heap.size w W1):=Hd (by rw [hW1]; exact HB3.out.setCell (p:=⟨w.heap.size,i,none⟩) (Nat.le_refl _) (.int .u64 (q : Int)))
        obtain ⟨ad4,e4,_,hcy4⟩:=(HU2.out.below HB4.out).2.2.2 (i + 1) y hy1
        obtain rfl:=Option.some.inj e4
        have hcv4:=HR1.out.cell i (q : Int) (List.getElem?_set_self (by have:=HR.out.len; omega))
        have hfr4:=HR1.out.free i
        obtain ⟨M,hM⟩ : ∃ M : Nat,M = y * 2 ^ (64 - b) % 18446744073709551616:=⟨_,rfl⟩
        have hMb4 : M < 18446744073709551616:=by rw [hM]; exact Nat.mod_lt _ (by decide)
        have hshl4 : IntKind.u64.wrap ((y : Int) * 2 ^ (64 - b)) = (M : Int):=by
         rw [hM,show (y : Int) * 2 ^ (64 - b) = ((y * 2 ^ (64 - b) : Nat) : Int) by simp,IntKind.wrap_u64]; omega
        obtain ⟨z,hz⟩ : ∃ z,z = q + M:=⟨_,rfl⟩
        have hor : bits BinOp.or IntKind.u64 (q : Int) (M : Int) = (z : Int):=by
         rw [u64_or_nat q M hq64 hMb4,hM,or_low q y (64 - b) hqb (by omega),hz,hM]
        have hz64 : z < 18446744073709551616:=by
         have h1 : (18446744073709551616 : Nat) = 2 ^ b * 2 ^ (64 - b):=by rw [<- Nat.pow_add,show b + (64 - b) = 64 by omega]
         rw [hz,hM,h1,Nat.mul_mod_mul_right]
         have h2 : y % 2 ^ b < 2 ^ b:=Nat.mod_lt _ (Nat.two_pow_pos _)
         have h3:=Nat.mul_le_mul_right (2 ^ (64 - b)) (show y % 2 ^ b + 1 <= 2 ^ b from h2)
         rw [Nat.add_mul] at h3
         omega
        have HN : Hid (Nt.val 18446744073709551616 (((o.set i (q : Int)).set i (z : Int)).take (i + 1)) * 2 ^ b + yn % 2 ^ b = Nt.val 18446744073709551616 (l2.take (i + 1)) + 18446744073709551616 ^ (i + 1) * ((l2[i + 1]?.getD 0).toNat % 2 ^ b)):=Hd (by
         have hol:=HR.out.len
         rw [Nt.take_set_succ _ i _ (by simp; omega),List.take_set_of_le (Nat.le_refl i),Nt.val_snoc,List.length_take,Nat.min_eq_left (by omega),_root_.Go.Proofs.YtnpanpkahbcecaaGreatDoor.val_snoc _ l2 i x hx,hy1]
         simp only [Option.getD_some,Int.toNat_natCast]
         rw [hz,hq,hM]
         exact Nt.ri_step hb64 HIX.out)
        have HRN:=Hd (HR1.out.set i (z : Int))
        have HBN:=Hd (HB4.out.setCell (p:=⟨w.heap.size,i,none⟩) (Nat.le_refl _) (.int .u64 (z : Int)))
        have HON : Hid (Nt.Dig 18446744073709551616 ((o.set i (q : Int)).set i (z : Int))):=Hd ((HO.out.set i q (by omega) (by omega)).set i z (by omega) (by omega))
        clear hv0 hxd hx hq hqb hyd1 hy1 hM hMb4 hz hz64
        go_wp2_with fail
        rw [<- hW1]
        clear hW1 hcv hfr hcx
        have s0 : (ad.add k).add (i + 1) = ⟨(ad.add k).block,(ad.add k).off + (i + 1),none⟩:=by rw [Addr.add,if_neg (by omega)]
        rw [s0] at hcy4
        clear s0
        have s1 : IntKind.i64.wrap ((i : Int) + 1) = (i : Int) + 1:=by rw [IntKind.wrap_i64]; omega
        have s2 : (0 : Int) <= (i : Int) + 1:=by omega
        have s3 : ((i : Int) + 1).toNat = i + 1:=by omega
        have s4 : (i : Int) + 1 < (m : Int):=by omega
        have HRN2 : Hid (RowC (W1.setCell ⟨w.heap.size,i,none⟩ (.int .u64 (z : Int))).drew w.heap.size w.heap.size m m ((o.set i (q : Int)).set i (z : Int))):=Hd (HRN.out.drewN 1)
        have HBN2:=Hd (below_drew HBN.out)
        go_region
        clear s1 s2 s3 s4 hcy4
        go_wp2_with fail
        exact ⟨⟨i + 1,_,by go_num,hlt,HN,HRN2,HON,HBN2⟩,by simp [intOf]; omega⟩
       ·have HN : Hid (Nt.val 18446744073709551616 ((o.set i (q : Int)).take (i + 1)) * 2 ^ b + yn % 2 ^ b = Nt.val 18446744073709551616 (l2.take (i + 1)) + 18446744073709551616 ^ (i + 1) * ((l2[i + 1]?.getD 0).toNat % 2 ^ b)):=Hd (by
         have hol:=HR.out.len
         rw [Nt.take_set_succ _ i _ (by omega),Nt.val_snoc,List.length_take,Nat.min_eq_left (by omega),_root_.Go.Proofs.YtnpanpkahbcecaaGreatDoor.val_snoc _ l2 i x hx,List.getElem?_eq_none (by have:=HU2.out.1; omega)]
         simp only [Option.getD_none,Int.toNat_natCast,Int.toNat_zero]
         rw [hq]
         have h:=Nt.ri_step (y:=0) hb64 HIX.out
         rw [Nat.zero_mul,Nat.zero_mod,Nat.add_zero] at h
         exact h)
        have HRN:=Hd (HR.out.set i (q : Int))
        have HBN:=Hd (HB3.out.setCell (p:=⟨w.heap.size,i,none⟩) (Nat.le_refl _) (.int .u64 (q : Int)))
        have HON : Hid (Nt.Dig 18446744073709551616 (o.set i (q : Int))):=Hd (HO.out.set i q (by omega) (by omega))
        clear hv0 hxd hx hq hqb hq64
        go_wp2_with fail
        exact ⟨⟨i + 1,_,by go_num,hlt,HN,HRN,HON,HBN⟩,by simp [intOf]; omega⟩
      ·obtain rfl : m = i:=by omega
       have HFI : Hid (X / 2 ^ N = Nt.val 18446744073709551616 o /\ true = decide (X % 2 ^ N ≠ 0)):=Hd (by
        have h1:=HI.out
        have hol:=HR.out.len
        rw [List.take_of_length_le (by omega),List.take_of_length_le (by have:=HU2.out.1; omega),List.getElem?_eq_none (by have:=HU2.out.1; omega)] at h1
        simp only [Option.getD_none,Int.toNat_zero,Nat.zero_mod,Nat.mul_zero,Nat.add_zero] at h1
        have h2:=Nt.ri_end (N:=N) (b:=b) (by rw [HKK.out]; exact HNK.out) HXX.out HA.out h1 (Nat.mod_lt _ (Nat.two_pow_pos _))
        refine ⟨h2.1,?_⟩
        rw [h2.2]
        have h3:=HLL.out
        have h4:=HB.out
        have h5:=HM1.out
        have hp : 0 < 18446744073709551616 ^ k:=Nat.pow_pos (by decide)
        have h6 : 18446744073709551616 ^ k * (yn % 2 ^ b) = 0 ↔ yn % 2 ^ b = 0:=by
         rw [Nat.mul_eq_zero]; constructor
         ·intro h; rcases h with h | h
          ·omega
          ·exact h
         ·exact fun h=>.inr h
        generalize 18446744073709551616 ^ k * (yn % 2 ^ b) = Z at *
        generalize Nt.val 18446744073709551616 (l.take k) = V at *
        symm
        simp at h3 h4
        simp
        omega)
       have HXB : Hid (X / 2 ^ N < BL):=Hd (Nat.lt_of_le_of_lt (Nat.div_le_self _ _) HBX.out)
       have HTO:=Hd (btrim_nu (some ⟨w.heap.size,0,none⟩) m m o (X / 2 ^ N) _ HR.out.u (by omega) HO.out HFI.out.1.symm HXB.out)
       go_wp2_with fail
       refine HTO.out.mono ?_
       rintro e w5 ⟨k5,rfl,hn5,rfl⟩
       have HN5:=Hd hn5
       clear hn5
       go_wp2
       go_ret2
       exact ⟨_,_,_,by rw [<- HFI.out.2]; rfl,HN5.out,HB3.out⟩
theorem bright_any (A : Option Addr) (n c X N : Nat) (w : World) (h : NU w A n c X) (hN : N <= 100000) :
  Calls Tryz.prog 246 #[.slice A n c,.int .u64 N] w (RiPost X N w):=by
 cases A with
 | some ad=>exact bright_some ad n c X N w h hN
 | none =>
   have hc : c = 0:=h.1.2.2.1 rfl
   have hn : n = 0:=by have:=h.1.2.1; omega
   subst hc
   subst hn
   have hX:=h.zero.1 rfl
   subst hX
   obtain ⟨k0,hk0⟩ : ∃ k,k = N / 64:=⟨_,rfl⟩
   have q1 : (N : Int).tdiv 64 = (k0 : Int):=by rw [Int.tdiv_eq_ediv_of_nonneg (by omega)]; omega
   have q3 : (N : Int) / 64 = (k0 : Int):=by omega
   have q5 : IntKind.u64.wrap (k0 : Int) = (k0 : Int):=M6.wrapN _ (by omega)
   have q9 : min (k0 : Int) 0 = 0:=by omega
   clear h hk0
   go_enter Tryz.func246,Tryz.ntmps246
   go_wp2_with fail
   go_loop [7,24] (fun lv iv=>lv = .bool false /\ iv = .int .i64 0) (fun _ _=>0)
   case atStart=>exact ⟨rfl,rfl⟩
   case round =>
    obtain ⟨rfl,rfl⟩:=hrel
    go_wp2
    go_ret2
    exact ⟨none,0,0,by simp,by rw [Nat.zero_div]; exact NU.none _ 0,Below.refl _ _⟩
end
section
open Go.RowKit
theorem bsub_any (g gx gy : Nat) (z0 x y : Int) (w : World) (hg : BI w g z0) (hx : BI w gx x) (hy : BI w gy y) (hb : x.natAbs + y.natAbs < BL) :
  Calls Tryz.prog 234 #[.pointer (some ⟨g,0,none⟩),.pointer (some ⟨gx,0,none⟩),.pointer (some ⟨gy,0,none⟩)] w (RPost g (x - y) w):=by
 obtain ⟨b1,b2⟩:=BI.new w 68
 have HN:=Hd (bneg_any w.heap.size gy 0 y _ b1 (hy.below b2))
 have l1 : g < w.heap.size:=by obtain ⟨_,_,_,_,_,_,h⟩:=id hg; exact h
 have l2 : gx < w.heap.size:=by obtain ⟨_,_,_,_,_,_,h⟩:=id hx; exact h
 have HA:=Hd (fun v (hgg : BI v g z0) (hxx : BI v gx x) (hnn : BI v w.heap.size (-y))=>badd_any g gx w.heap.size z0 x (-y) v hgg hxx hnn (by rw [Int.natAbs_neg]; exact hb))
 have HG:=Hd (hg.below b2)
 have HX:=Hd (hx.below b2)
 have HB:=Hd b2
 have H1:=Hd l1
 have H2:=Hd l2
 clear b1 b2 hg hx hy hb l1 l2
 go_enter Tryz.func234,Tryz.ntmps234
 go_wp2_with fail
 refine HN.out.mono ?_
 rintro e w1 ⟨rfl,hn,ht⟩
 have HA2:=Hd (HA.out w1 (ht.bi g z0 (fun h=>by have:=H1.out; have:=List.mem_singleton.1 h; omega) HG.out) (ht.bi gx x (fun h=>by have:=H2.out; have:=List.mem_singleton.1 h; omega) HX.out) hn)
 have HT:=Hd ((Tr.of_below HB.out [g]).fresh ht (fun k hk=>.inr (by rw [List.mem_singleton.1 hk]; exact Nat.le_refl _)))
 clear hn ht
 go_wp2_with fail
 refine HA2.out.mono ?_
 rintro e w2 ⟨rfl,hr,ht⟩
 have HR:=Hd hr
 have HT2:=Hd (HT.out.trans ht)
 clear hr ht
 go_wp2
 go_ret
 exact ⟨rfl,by rw [Int.sub_eq_add_neg]; exact HR.out,HT2.out⟩
theorem rsh_pos (X N : Nat) : ((X / 2 ^ N : Nat) : Int) = (X : Int) / 2 ^ N:=by rw [Int.natCast_ediv]; congr 1
theorem rsh_neg (X N : Nat) (hX : 0 < X) : -(((X / 2 ^ N + (if X % 2 ^ N ≠ 0 then 1 else 0) : Nat)) : Int) = (-(X : Int)) / 2 ^ N:=by
 have hp : (0 : Int) < 2 ^ N:=Int.pow_pos (by decide)
 have h1:=Nat.div_add_mod X (2 ^ N)
 have h2:=Nat.mod_lt X (Nat.two_pow_pos N)
 have e : ((2 ^ N : Nat) : Int) = 2 ^ N:=by simp
 rw [<- e] at hp ⊢
 generalize 2 ^ N = p at *
 generalize X / p = q at *
 generalize X % p = r at *
 symm
 have hpp : (p : Int) ≠ 0:=by omega
 by_cases h0 : r = 0
 ·rw [if_neg (by simpa using h0)]
  subst h0
  rw [<- h1,Nat.add_zero,Nat.add_zero,Int.natCast_mul,<- Int.mul_neg,Int.mul_ediv_cancel_left _ hpp]
 ·rw [if_pos h0]
  refine (Int.ediv_eq_iff_of_pos hp).2 ?_
  rw [<- h1]
  have e2 : ((p * q + r : Nat) : Int) = (p : Int) * q + r:=by simp
  have e3 : -((q + 1 : Nat) : Int) * (p : Int) = -((p : Int) * q) - p:=by rw [Int.natCast_add,Int.neg_mul,Int.add_mul,Int.mul_comm (q : Int)]; simp; omega
  have e4 : (-((q + 1 : Nat) : Int) + 1) * (p : Int) = -((p : Int) * q):=by rw [Int.natCast_add,show -((q : Int) + ((1 : Nat) : Int)) + 1 = -(q : Int) by omega,Int.neg_mul,Int.mul_comm]
  first
   | (rw [e2,e3,e4]; omega)
   | (rw [e2]; constructor <;> (try rw [e3]) <;> (try rw [e4]) <;> omega)
theorem brsh_any (g gx : Nat) (z0 z : Int) (N : Nat) (w : World) (hg : BI w g z0) (hx : BI w gx z) (hN : N <= 100000) (hz : z.natAbs + 1 < BL) :
  Calls Tryz.prog 235 #[.pointer (some ⟨g,0,none⟩),.pointer (some ⟨gx,0,none⟩),.int .u64 N] w (RPost g (z / 2 ^ N) w):=by
 obtain ⟨A,n,c,⟨h1,h2⟩,_,h5,h6⟩:=id hx
 have HL:=Hd (bright_any A n c z.natAbs N w h5 hN)
 obtain ⟨Q,hQ⟩ : ∃ Q,Q = z.natAbs / 2 ^ N:=⟨_,rfl⟩
 obtain ⟨L,hL⟩ : ∃ L,L = decide (z.natAbs % 2 ^ N ≠ 0):=⟨_,rfl⟩
 unfold RiPost at HL
 rw [<- hQ,<- hL] at HL
 have HP:=Hd (fun v (s : Bool) (A' : Option Addr) (n' c' X : Nat) (h : Below w.heap.size w v) (hu : NU v A' n' c' X)=>(bput_any g z0 s A' n' c' X v (hg.below h) hu).mono fun e w' hr=>RPost.after h hr)
 by_cases h0 : z < 0
 ·have d1 : decide (z < 0) = true:=decide_eq_true h0
  rw [d1] at h1
  cases L
  ·have HE : Hid (sgnI true Q = z / 2 ^ N):=Hd (by
    have h:=rsh_neg z.natAbs N (by omega)
    rw [<- hQ,if_neg (by simpa using hL),Nat.add_zero] at h
    have e : (-(z.natAbs : Int)) = z:=by omega
    rw [e] at h
    exact h)
   clear hg hx hN hz h5 hQ hL h0 d1
   go_enter Tryz.func235,Tryz.ntmps235
   go_wp2_with fail
   refine HL.out.mono ?_
   rintro e w1 ⟨A1,n1,c1,rfl,hu,hb1⟩
   have HPP:=Hd (HP.out w1 true A1 n1 c1 Q hb1 hu)
   clear hu hb1
   go_wp2_with fail
   refine HPP.out.mono ?_
   rintro e w2 hr
   have HR:=Hd hr
   obtain ⟨rfl,_,_⟩:=hr
   go_wp2
   go_ret
   have h:=HR.out
   rw [HE.out] at h
   exact h
  ·have HE : Hid (sgnI true (Q + 1) = z / 2 ^ N):=Hd (by
    have h:=rsh_neg z.natAbs N (by omega)
    rw [<- hQ,if_pos (by simpa using hL)] at h
    have e : (-(z.natAbs : Int)) = z:=by omega
    rw [e] at h
    exact h)
   have hQb : Q + 1 < BL:=by have:=Nat.div_le_self z.natAbs (2 ^ N); omega
   have HPL:=Hd (fun v A1 n1 c1 (hu : NU v A1 n1 c1 Q)=>bplus_any A1 n1 c1 Q (some ⟨v.heap.size,0,none⟩) 1 1 1 (v.alloc (.cells #[.int .u64 1] 105)) (hu.below ((Below.refl _ _).alloc (Nat.le_refl _) _)) ⟨by rw [dg_one 1 (by decide) (by decide)]; exact U_new1 v 1 105,by have:=BL_big; omega⟩ hQb)
   clear hg hx hN hz h5 hQ hL h0 d1 hQb
   go_enter Tryz.func235,Tryz.ntmps235
   go_wp2_with fail
   refine HL.out.mono ?_
   rintro e w1 ⟨A1,n1,c1,rfl,hu,hb1⟩
   have HPP:=Hd (HPL.out w1 A1 n1 c1 hu)
   have HB1:=Hd (hb1.alloc hb1.size (.cells #[.int .u64 1] 105))
   clear hu hb1
   go_wp2_with fail
   refine HPP.out.mono ?_
   rintro e w2 ⟨A2,n2,c2,rfl,hu,hb⟩
   have HP2:=Hd (HP.out w2 true A2 n2 c2 (Q + 1) (HB1.out.trans (hb.mono HB1.out.size)) hu)
   clear hu hb
   go_wp2_with fail
   refine HP2.out.mono ?_
   rintro e w3 hr
   have HR:=Hd hr
   obtain ⟨rfl,_,_⟩:=hr
   go_wp2
   go_ret
   have h:=HR.out
   rw [HE.out] at h
   exact h
 ·have d1 : decide (z < 0) = false:=decide_eq_false h0
  rw [d1] at h1
  have HE : Hid (sgnI false Q = z / 2 ^ N):=Hd (by
   have h:=rsh_pos z.natAbs N
   rw [<- hQ] at h
   have e : ((z.natAbs : Nat) : Int) = z:=by omega
   rw [e] at h
   exact h)
  clear hg hx hN hz h5 hQ hL h0 d1
  go_enter Tryz.func235,Tryz.ntmps235
  go_wp2_with fail
  refine HL.out.mono ?_
  rintro e w1 ⟨A1,n1,c1,rfl,hu,hb1⟩
  have HPP:=Hd (HP.out w1 false A1 n1 c1 Q hb1 hu)
  clear hu hb1
  go_wp2_with fail
  refine HPP.out.mono ?_
  rintro e w2 hr
  have HR:=Hd hr
  obtain ⟨rfl,_,_⟩:=hr
  go_wp2
  go_ret
  have h:=HR.out
  rw [HE.out] at h
  exact h
theorem sgnI_quo (x y : Int) : sgnI (!(decide (x < 0) == decide (y < 0))) (x.natAbs / y.natAbs) = x.tdiv y:=by
 have hx : ∀ a b : Nat,Int.tdiv (a : Int) (b : Int) = ((a / b : Nat) : Int):=fun a b=>by rw [Int.ofNat_tdiv]
 unfold sgnI
 by_cases h1 : x < 0 <;> by_cases h2 : y < 0
 ·obtain ⟨a,ha⟩ : ∃ a : Nat,x = -(a : Int):=⟨x.natAbs,by omega⟩
  obtain ⟨b,hb⟩ : ∃ b : Nat,y = -(b : Int):=⟨y.natAbs,by omega⟩
  subst ha; subst hb
  simp only [h1,h2,Int.natAbs_neg,Int.natAbs_natCast,Int.neg_tdiv_neg,hx]; simp
 ·obtain ⟨a,ha⟩ : ∃ a : Nat,x = -(a : Int):=⟨x.natAbs,by omega⟩
  obtain ⟨b,hb⟩ : ∃ b : Nat,y = (b : Int):=⟨y.natAbs,by omega⟩
  subst ha; subst hb
  simp only [h1,h2,Int.natAbs_neg,Int.natAbs_natCast,Int.neg_tdiv,hx]; simp
 ·obtain ⟨a,ha⟩ : ∃ a : Nat,x = (a : Int):=⟨x.natAbs,by omega⟩
  obtain ⟨b,hb⟩ : ∃ b : Nat,y = -(b : Int):=⟨y.natAbs,by omega⟩
  subst ha; subst hb
  simp only [h1,h2,Int.natAbs_neg,Int.natAbs_natCast,Int.tdiv_neg,hx]; simp
 ·obtain ⟨a,ha⟩ : ∃ a : Nat,x = (a : Int):=⟨x.natAbs,by omega⟩
  obtain ⟨b,hb⟩ : ∃ b : Nat,y = (b : Int):=⟨y.natAbs,by omega⟩
  subst ha; subst hb
  simp only [h1,h2,Int.natAbs_natCast,hx]; simp
set_option maxRecDepth 100000 in
set_option maxHeartbeats 2000000 in
theorem bquoRem_any (g gx gy gr : Nat) (z0 x y r0 : Int) (w : World) (hg : BI w g z0) (hx : BI w gx x) (hy : BI w gy y) (hr : BI w gr r0) (hne : g ≠ gr) (hy0 : y ≠ 0) (hy2 : y.natAbs < 4294967296) :
  Calls Tryz.prog 244 #[.pointer (some ⟨g,0,none⟩),.pointer (some ⟨gx,0,none⟩),.pointer (some ⟨gy,0,none⟩),.pointer (some ⟨gr,0,none⟩)] w fun e w'=>e = .returned (.tuple #[.pointer (some ⟨g,0,none⟩),.pointer (some ⟨gr,0,none⟩)]) /\ BI w' g (x.tdiv y) /\ Tr [g,gr] w w':=by
 obtain ⟨A,n,c,⟨h1,h2⟩,_,h5,h6⟩:=id hx
 obtain ⟨A',n',c',⟨h1',h2'⟩,_,h5',h6'⟩:=id hy
 have HE:=Hd (sgnI_quo x y)
 have HL:=Hd (fun v (h : Below w.heap.size w v)=>bover_any A n c x.natAbs A' n' c' y.natAbs v (h5.below h) (h5'.below h) (by omega) hy2)
 have HP:=Hd (fun v (s : Bool) (A' : Option Addr) (n' c' X : Nat) (h : Below w.heap.size w v) (hu : NU v A' n' c' X)=>(bput_any g z0 s A' n' c' X v (hg.below h) hu).mono fun e w' hr=>RPost.after h hr)
 have HP2:=Hd (fun v (s : Bool) (A' : Option Addr) (n' c' X : Nat) (h : BI v gr r0) (hu : NU v A' n' c' X)=>bput_any gr r0 s A' n' c' X v h hu)
 have HO:=Hd (fun v (h : Below w.heap.size w v)=>Ld.of ⟨h1,h2⟩ h6 h)
 have HO':=Hd (fun v (h : Below w.heap.size w v)=>Ld.of ⟨h1',h2'⟩ h6' h)
 have HGR:=Hd hr
 have HG:=Hd hg
 have HNE:=Hd hne
 obtain ⟨s,hs⟩ : ∃ s,s = decide (x < 0):=⟨_,rfl⟩
 obtain ⟨s',hs'⟩ : ∃ s,s = decide (y < 0):=⟨_,rfl⟩
 rw [<- hs] at h1 HO HE
 rw [<- hs'] at h1' HO' HE
 obtain ⟨t,ht⟩ : ∃ t,t = (!(s == s')):=⟨_,rfl⟩
 rw [<- ht] at HE
 have htt : (!s == s') = t:=ht.symm
 obtain ⟨Q,hQ⟩ : ∃ Q,Q = x.natAbs / y.natAbs:=⟨_,rfl⟩
 obtain ⟨R,hR⟩ : ∃ R,R = x.natAbs % y.natAbs:=⟨_,rfl⟩
 rw [<- hQ,<- hR] at HL
 rw [<- hQ] at HE
 clear hg hx hy hr hne hy0 hy2 h5 h5' hs hs' ht hQ hR
 go_enter Tryz.func244,Tryz.ntmps244
 go_wp2_with fail
 refine wp_region_hl (fun v=>Below w.heap.size w v /\ (v.cell? ⟨gx,0,none⟩ = some (.bool s) /\ v.cell? ⟨gx,1,none⟩ = some (.slice A n c)) /\ (v.cell? ⟨gy,0,none⟩ = some (.bool s') /\ v.cell? ⟨gy,1,none⟩ = some (.slice A' n' c'))) [true,true,true,true,true,true,true,true,false,true,true,true,true,true] (by kernel_rfl) (by kernel_rfl) (fun _ _ _ _ _ h=>h) ?_ ?_
 ·exact ⟨below_drew (Below.refl w.heap.size w),(HO.out _ (below_drew (Below.refl w.heap.size w))).2,(HO'.out _ (below_drew (Below.refl w.heap.size w))).2⟩
 iterate 8
  refine wpHL_take ?_ (by rfl) ?_ ?_
  rotate_left
  ·rintro v ⟨_,⟨_,_⟩,_,_⟩; go_simp; try with_reducible rfl
  simp only [Act.put,List.setIfInBounds_toArray,List.set_cons_zero,List.set_cons_succ]
 refine wpHL_call (by rfl) (fun K hK=>?_)
 have HK:=Hd hK
 clear hK
 go_simp
 refine (HL.out _ ?_).mono ?_
 ·exact below_drew (Below.refl w.heap.size w)
 rintro e w1 ⟨A1,n1,c1,A2,n2,c2,rfl,hu,hu2,hb1⟩
 have HU1:=Hd hu
 have HU2:=Hd hu2
 have HB1:=Hd ((below_drew (Below.refl w.heap.size w)).trans (hb1.mono (below_drew (Below.refl w.heap.size w)).size))
 clear hb1 hu hu2
 refine HK.out _ _ ⟨HB1.out,(HO.out _ HB1.out).2,(HO'.out _ HB1.out).2⟩ ?_
 clear HK
 try simp only [Act.put,List.setIfInBounds_toArray,List.set_cons_zero,List.set_cons_succ]
 iterate 5
  refine wpHL_take ?_ (by rfl) ?_ ?_
  rotate_left
  ·rintro v ⟨_,⟨_,_⟩,_,_⟩; go_simp; try with_reducible rfl
  simp only [Act.put,List.setIfInBounds_toArray,List.set_cons_zero,List.set_cons_succ]
 refine wpHL_nil ?_
 clear h1 h2 h1' h2'
 obtain ⟨_,k1,k2⟩:=HO.out _ HB1.out
 obtain ⟨_,k3,k4⟩:=HO'.out _ HB1.out
 go_wp2_with fail
 go_quiet (fail)
 rename_i nq
 have HB2:=Hd (Below.drewN' HB1.out nq)
 have HU3:=Hd (HU1.out.below (Below.drewN' (Below.refl w1.heap.size w1) nq))
 have HU4:=Hd (HU2.out.below (Below.drewN' (Below.refl w1.heap.size w1) nq))
 clear HU1 HU2 HB1
 generalize w1.drewN nq = w2 at *
 have HQ:=Hd (bput_any g z0 t A1 n1 c1 Q w2 (HG.out.below HB2.out) HU3.out)
 clear k1 k2 k3 k4
 go_wp2_with fail
 refine HQ.out.mono ?_
 rintro e w3 ⟨rfl,hbi,htr⟩
 have HBI:=Hd hbi
 have HTR:=Hd htr
 have HQ3:=Hd (HP2.out w3 s A2 n2 c2 R (htr.bi gr r0 (fun h=>HNE.out (List.mem_singleton.1 h).symm) (HGR.out.below HB2.out)) ⟨htr.u _ _ _ _ HU4.out.1,HU4.out.2⟩)
 clear hbi htr
 go_wp2_with fail
 refine HQ3.out.mono ?_
 rintro e w4 ⟨rfl,_,htr⟩
 have HTR2:=Hd htr
 clear htr
 go_wp2
 go_ret2
 refine ⟨rfl,?_,?_⟩
 ·rw [<- HE.out]
  exact HTR2.out.bi g _ (fun h=>HNE.out (List.mem_singleton.1 h)) HBI.out
 ·exact ((Tr.of_below HB2.out [g,gr]).trans (HTR.out.mono (fun k hk=>by rw [List.mem_singleton.1 hk]; simp))).trans (HTR2.out.mono (fun k hk=>by rw [List.mem_singleton.1 hk]; simp))
theorem bquo_any (g gx gy : Nat) (z0 x y : Int) (w : World) (hg : BI w g z0) (hx : BI w gx x) (hy : BI w gy y) (hy0 : y ≠ 0) (hy2 : y.natAbs < 4294967296) :
  Calls Tryz.prog 231 #[.pointer (some ⟨g,0,none⟩),.pointer (some ⟨gx,0,none⟩),.pointer (some ⟨gy,0,none⟩)] w (RPost g (x.tdiv y) w):=by
 obtain ⟨b1,b2⟩:=BI.new w 68
 have l1 : g < w.heap.size:=by obtain ⟨_,_,_,_,_,_,h⟩:=id hg; exact h
 have HC:=Hd (bquoRem_any g gx gy w.heap.size z0 x y 0 _ (hg.below b2) (hx.below b2) (hy.below b2) b1 (by omega) hy0 hy2)
 have HB:=Hd b2
 clear b1 b2 hg hx hy hy0 hy2 l1
 go_enter Tryz.func231,Tryz.ntmps231
 go_wp2_with fail
 refine HC.out.mono ?_
 rintro e w1 ⟨rfl,hr,ht⟩
 have HR:=Hd hr
 have HT:=Hd ((Tr.of_below HB.out [g]).fresh ht (fun k hk=>by
  rcases List.mem_cons.1 hk with h | h
  ·exact .inl (by rw [h]; exact List.mem_singleton.2 rfl)
  ·exact .inr (by rw [List.mem_singleton.1 h]; exact Nat.le_refl _)))
 clear hr ht
 go_wp2
 go_ret
 exact ⟨rfl,HR.out,HT.out⟩
theorem bbitLen_any (g : Nat) (z : Int) (w : World) (hg : BI w g z) : Calls Tryz.prog 224 #[.pointer (some ⟨g,0,none⟩)] w fun e w'=>e = .returned (.int .i64 (bitsN z.natAbs)) /\ w = w':=by
 obtain ⟨A,n,c,⟨h1,h2⟩,_,h5,h6⟩:=hg
 have HC:=Hd (bsize_any A n c z.natAbs w h5)
 clear h5
 go_enter Tryz.func224,Tryz.ntmps224
 go_wp2_with fail
 refine HC.out.mono ?_
 rintro e w1 ⟨rfl,rfl⟩
 go_wp2
 go_ret
 exact ⟨rfl,rfl⟩
theorem dg_head (X : Nat) (h : X ≠ 0) : (Nt.dg 18446744073709551616 X)[0]? = some ((X % 18446744073709551616 : Nat) : Int):=by rw [Nt.dg_pos _ _ (by decide) h]; rfl
theorem buint64_any (g : Nat) (z : Int) (w : World) (hg : BI w g z) : Calls Tryz.prog 79 #[.pointer (some ⟨g,0,none⟩)] w fun e w'=>e = .returned (.int .u64 ((z.natAbs % 18446744073709551616 : Nat) : Int)) /\ w = w':=by
 obtain ⟨A,n,c,⟨h1,h2⟩,_,h5,h6⟩:=hg
 by_cases h0 : z.natAbs = 0
 ·have hn:=h5.zero.2 h0
  subst hn
  rw [h0]
  clear h5 h0
  go_enter Tryz.func79,Tryz.ntmps79
  go_wp2
  go_ret
  exact ⟨rfl,rfl⟩
 ·obtain ⟨ad,rfl,_,hc⟩:=h5.1.2.2.2 0 _ (dg_head _ h0)
  rw [Addr.add_zero' ad] at hc
  have hn : ((n : Int) == 0) = false:=by
   have : n ≠ 0:=fun e=>h0 (h5.zero.1 e)
   simp; omega
  have hn2 : (0 : Int) < (n : Int):=by
   have : n ≠ 0:=fun e=>h0 (h5.zero.1 e)
   omega
  obtain ⟨v,hv⟩ : ∃ v,v = z.natAbs % 18446744073709551616:=⟨_,rfl⟩
  rw [<- hv] at hc ⊢
  clear h5 h0 hv
  go_enter Tryz.func79,Tryz.ntmps79
  go_wp2
  go_ret
  exact ⟨rfl,rfl⟩
end
section
open Go.RowKit
theorem NU.one {w : World} {A : Option Addr} {n c X : Nat} (h : NU w A n c X) : n = 1 ↔ 0 < X /\ X < 18446744073709551616:=by
 rw [h.len.1]
 by_cases h0 : X = 0
 ·subst h0
  rw [Nt.dg_zero]
  simp
 ·rw [Nt.dg_pos _ _ (by decide) h0,List.length_cons]
  by_cases h1 : X / 18446744073709551616 = 0
  ·rw [h1,Nt.dg_zero]
   simp
   omega
  ·rw [Nt.dg_pos _ _ (by decide) h1,List.length_cons]
   omega
def i64B (z : Int) : Bool:=decide (-9223372036854775808 <= z /\ z < 9223372036854775808)
set_option maxRecDepth 100000 in
set_option maxHeartbeats 4000000 in
theorem bisInt64_any (g : Nat) (z : Int) (w : World) (hg : BI w g z) : Calls Tryz.prog 52 #[.pointer (some ⟨g,0,none⟩)] w fun e w'=>e = .returned (.bool (i64B z)) /\ Below w.heap.size w w':=by
 obtain ⟨A,n,c,⟨h1,h2⟩,_,h5,h6⟩:=hg
 have HB0:=Hd (Below.refl w.heap.size w)
 by_cases h0 : z.natAbs = 0
 ·have hn:=h5.zero.2 h0
  subst hn
  have hz : z = 0:=by omega
  have HI : Hid (i64B z = true):=Hd (by rw [hz]; decide)
  rw [HI.out]
  clear h5 h0 hz HI
  go_enter Tryz.func52,Tryz.ntmps52
  go_wp2
  go_ret
  exact ⟨rfl,HB0.out⟩
 ·have hn0 : n ≠ 0:=fun e=>h0 (h5.zero.1 e)
  have q0 : ((n : Int) == 0) = false:=by simp; omega
  by_cases hn1 : n = 1
  ·subst hn1
   have hlt:=(h5.one.1 rfl).2
   obtain ⟨ad,rfl,_,hc⟩:=h5.1.2.2.2 0 _ (dg_head _ h0)
   rw [Addr.add_zero' ad,Nat.mod_eq_of_lt hlt] at hc
   obtain ⟨v,hv⟩ : ∃ v,v = z.natAbs:=⟨_,rfl⟩
   rw [<- hv] at hc hlt h0
   have hs : (z < 0 /\ z = -(v : Int)) \/ (0 < z /\ z = (v : Int)):=by omega
   clear h5 hn0 q0
   by_cases hsm : v < 9223372036854775808
   ·have t1 : decide ((v : Int) < 9223372036854775808) = true:=decide_eq_true (by omega)
    have HI : Hid (i64B z = true):=Hd (by unfold i64B; rw [decide_eq_true]; omega)
    rw [HI.out]
    clear HI hv hs
    go_enter Tryz.func52,Tryz.ntmps52
    go_wp2
    go_ret
    exact ⟨rfl,HB0.out⟩
   ·have t1 : decide ((v : Int) < 9223372036854775808) = false:=decide_eq_false (by omega)
    rcases hs with ⟨hz,hzv⟩ | ⟨hz,hzv⟩
    ·have d1 : decide (z < 0) = true:=decide_eq_true hz
     rw [d1] at h1
     by_cases he : v = 9223372036854775808
     ·subst he
      have HI : Hid (i64B z = true):=Hd (by unfold i64B; rw [decide_eq_true]; omega)
      rw [HI.out]
      clear HI hv hz hzv d1 hsm
      go_enter Tryz.func52,Tryz.ntmps52
      go_wp2
      go_ret
      exact ⟨rfl,HB0.out⟩
     ·have t2 : ((v : Int) == 9223372036854775808) = false:=by simp; omega
      have HI : Hid (i64B z = false):=Hd (by unfold i64B; rw [decide_eq_false]; omega)
      rw [HI.out]
      clear HI hv hz hzv d1 hsm
      go_enter Tryz.func52,Tryz.ntmps52
      go_wp2
      go_ret
      exact ⟨rfl,HB0.out⟩
    ·have d1 : decide (z < 0) = false:=decide_eq_false (by omega)
     rw [d1] at h1
     have HI : Hid (i64B z = false):=Hd (by unfold i64B; rw [decide_eq_false]; omega)
     rw [HI.out]
     clear HI hv hz hzv d1 hsm
     go_enter Tryz.func52,Tryz.ntmps52
     go_wp2
     go_ret
     exact ⟨rfl,HB0.out⟩
  ·have q1 : ((n : Int) == 1) = false:=by simp; omega
   have hbig : ¬ (0 < z.natAbs /\ z.natAbs < 18446744073709551616):=fun h=>hn1 (h5.one.2 h)
   have HI : Hid (i64B z = false):=Hd (by unfold i64B; rw [decide_eq_false]; omega)
   rw [HI.out]
   clear HI h5 h0 hbig
   go_enter Tryz.func52,Tryz.ntmps52
   go_wp2
   go_ret
   exact ⟨rfl,HB0.out⟩
set_option maxRecDepth 100000 in
set_option maxHeartbeats 4000000 in
theorem bint64_any (g : Nat) (z : Int) (w : World) (hg : BI w g z) (hz : i64B z = true) : Calls Tryz.prog 53 #[.pointer (some ⟨g,0,none⟩)] w fun e w'=>e = .returned (.int .i64 z) /\ Below w.heap.size w w':=by
 have HU:=Hd (buint64_any g z w hg)
 have hr:=of_decide_eq_true hz
 obtain ⟨A,n,c,⟨h1,h2⟩,_,h5,h6⟩:=hg
 have HB0:=Hd (Below.refl w.heap.size w)
 have e1 : z.natAbs % 18446744073709551616 = z.natAbs:=Nat.mod_eq_of_lt (by omega)
 rw [e1] at HU
 obtain ⟨v,hv⟩ : ∃ v,v = z.natAbs:=⟨_,rfl⟩
 rw [<- hv] at HU
 by_cases hs : z < 0
 ·have d1 : decide (z < 0) = true:=decide_eq_true hs
  rw [d1] at h1
  by_cases h63 : v = 9223372036854775808
  ·have hz2 : z = -9223372036854775808:=by omega
   clear h5 e1 hv hs d1 hr hz
   have y1 : IntKind.i64.wrap (v : Int) = z:=by rw [IntKind.wrap_i64]; omega
   have y2 : wrap64 (v : Int) = z:=by unfold wrap64; omega
   have y3 : IntKind.i64.wrap (-z) = z:=by rw [IntKind.wrap_i64]; omega
   have y4 : wrap64 (-z) = z:=by unfold wrap64; omega
   clear hz2 h63
   go_enter Tryz.func53,Tryz.ntmps53
   go_wp2_with fail
   refine HU.out.mono ?_
   rintro e w' ⟨rfl,rfl⟩
   go_wp2_with fail
   go_ret
   exact ⟨rfl,HB0.out⟩
  ·have hz2 : z = -(v : Int):=by omega
   have hlt : v < 9223372036854775808:=by omega
   clear e1 hv hs d1 hr hz
   subst hz2
   clear h5 h63
   have y1 : IntKind.i64.wrap (v : Int) = (v : Int):=by rw [IntKind.wrap_i64]; omega
   have y2 : wrap64 (v : Int) = (v : Int):=by unfold wrap64; omega
   have y3 : IntKind.i64.wrap (-(v : Int)) = -(v : Int):=by rw [IntKind.wrap_i64]; omega
   have y4 : wrap64 (-(v : Int)) = -(v : Int):=by unfold wrap64; omega
   go_enter Tryz.func53,Tryz.ntmps53
   go_wp2_with fail
   refine HU.out.mono ?_
   rintro e w' ⟨rfl,rfl⟩
   go_wp2_with fail
   go_ret
   exact ⟨rfl,HB0.out⟩
 ·have d1 : decide (z < 0) = false:=decide_eq_false hs
  rw [d1] at h1
  have hz2 : z = (v : Int):=by omega
  have hlt : v < 9223372036854775808:=by omega
  clear e1 hv hs d1 hr hz
  subst hz2
  clear h5
  have y1 : IntKind.i64.wrap (v : Int) = (v : Int):=by rw [IntKind.wrap_i64]; omega
  have y2 : wrap64 (v : Int) = (v : Int):=by unfold wrap64; omega
  go_enter Tryz.func53,Tryz.ntmps53
  go_wp2_with fail
  refine HU.out.mono ?_
  rintro e w' ⟨rfl,rfl⟩
  go_wp2_with fail
  go_ret
  exact ⟨rfl,HB0.out⟩
end
end Go.Proofs.YtnpanpkahbcecaaGreatDoor

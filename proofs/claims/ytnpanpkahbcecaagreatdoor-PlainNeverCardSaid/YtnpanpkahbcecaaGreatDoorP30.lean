/-
No step of a transform of rows of moderate size comes to a NaN; the results are of moderate size.
-/
import Derived.Test.YtnpanpkahbcecaaGreatDoorP12
import Derived.Test.YtnpanpkahbcecaaGreatDoorP28
import Derived.Deep.QuietTactic
import Derived.BigQuiet
import Derived.Lib.Hide
set_option linter.unusedVariables false
set_option linter.unusedSimpArgs false
namespace Go.Proofs.YtnpanpkahbcecaaGreatDoor
section
open Go.RowKit
def WhS (P order n : Nat) (l : List (Nat × Nat)) : Prop:=l.length = n /\ ∀ i < n,An.rootM P order i = l[i]?
def WhB (P order n : Nat) (l : List (Nat × Nat)) : Prop:=l.length = n /\
 (∀ i,i <= n / 8 -> ∃ z,An.rootM P order i = some z /\ l[i]? = some z /\ l[n / 4 - i]? = some (z.2,z.1)) /\
 (∀ i,i < n - n / 4 -> ∃ z x,l[i]? = some z /\ z.2 < 2 * Fl.W /\ l[i + n / 4]? = some x /\ Ieee.double.add (Fl.ng z.2) 0 = some x.1 /\ Ieee.double.add z.1 0 = some x.2)
def RPostC (w : World) (n : Nat) (l : List (Nat × Nat)) (e : Ending) (w' : World) : Prop :=
 ∃ g,e = .returned (.tuple #[.slice (some ⟨g,0,none⟩) n n,.int .i64 0]) /\ CRow w' w.heap.size g n l /\ Below w.heap.size w w'
theorem set_right {α : Type} {o l : List α} {j k : Nat} {z : α} (hj : l[j]? = some z) (hl : o.length = l.length) (h : o[k]? = l[k]?) : (o.set j z)[k]? = l[k]?:=by
 by_cases e : j = k
 ·subst e
  rw [List.getElem?_set_self (by rw [hl]; exact (List.getElem?_eq_some_iff.1 hj).1),hj]
 ·rw [List.getElem?_set_ne e]; exact h
theorem set_right_self {α : Type} {o l : List α} {j : Nat} {z : α} (hj : l[j]? = some z) (hl : o.length = l.length) : (o.set j z)[j]? = l[j]?:=by
 rw [List.getElem?_set_self (by rw [hl]; exact (List.getElem?_eq_some_iff.1 hj).1),hj]
theorem shl_one (order : Nat) (ho : order <= 14) : IntKind.i64.wrap ((1 : Int) * 2 ^ order) = ((2 ^ order : Nat) : Int) /\ IntKind.i64.wrap ((2 : Int) ^ order) = ((2 ^ order : Nat) : Int):=by
 have hp : 2 ^ order <= 2 ^ 14:=Nat.pow_le_pow_right (by decide) ho
 have hp1:=Nat.two_pow_pos order
 constructor
 ·rw [Int.one_mul,show (2 : Int) ^ order = ((2 ^ order : Nat) : Int) by simp,IntKind.wrap_i64]; omega
 ·rw [show (2 : Int) ^ order = ((2 ^ order : Nat) : Int) by simp,IntKind.wrap_i64]; omega
set_option maxRecDepth 100000 in
set_option maxHeartbeats 2000000 in
theorem wrow_small (order P : Nat) (l : List (Nat × Nat)) (w : World) (ho : order <= 2) (hA : AW P w) (hl : WhS P order (2 ^ order) l) :
  Calls Tryz.prog 204 #[.int .i64 order] w (RPostC w (2 ^ order) l):=by
 obtain ⟨i0,hi0,hz0,hz1,hz2⟩:=info_parts c128_info
 obtain ⟨hsh,hsh2⟩:=shl_one order (by omega)
 have hp : 2 ^ order <= 2 ^ 2:=Nat.pow_le_pow_right (by decide) ho
 have hp1:=Nat.two_pow_pos order
 have HN:=Hd (fun i (hi : i < 2 ^ order) u (hu : AW P u) z (hz : l[i]? = some z)=>anear_any order i P z u (by omega) (by omega) hu (by rw [hl.2 i hi]; exact hz))
 have hll:=hl.1
 obtain ⟨n,hn⟩ : ∃ n : Nat,n = 2 ^ order:=⟨_,rfl⟩
 rw [<- hn] at hsh hsh2 hp hp1 HN hll ⊢
 have h8 : (n : Int) < 8:=by omega
 have ho1 : (0 : Int) <= (order : Int):=by omega
 have ho2 : (order : Int) <= 14:=by omega
 have HA:=Hd hA
 have HLL:=Hd hll
 clear hA hl hn hll
 go_enter Tryz.func204,Tryz.ntmps204
 go_wp2_with (refine wpList_make_full _ rfl (.tmp 19) (.tmp 19) 123 rfl w.heap.size 160 i0 _ 1 Tryz.underlying123 hi0 hz0 hz1 .i64 .i64 _ _ n rfl rfl (by omega) (by omega) (by rw [hz2]; omega) (by simp only [maxLen]; omega) (Nat.le_refl _) ?_; intro w1 hown1 hg1; have HB1:=Hd ((Below.refl w.heap.size w).grown hg1 (Nat.le_refl _) (fun k hk=>by cases hk)); have ROW:=Hd (CRow.made hown1); clear hown1 hg1)
 clear hsh hsh2
 go_loopw [25] (fun iv wr=>∃ (i : Nat) (o : List (Nat × Nat)),iv = .int .i64 i /\ i <= n /\ Hid (∀ j < i,o[j]? = l[j]?) /\ Hid (CRow wr w.heap.size w.heap.size n o) /\ Hid (Below w.heap.size w wr)) (fun iv _=>n - (intOf iv).toNat)
 case atStart=>exact ⟨0,List.replicate n (0,0),rfl,Nat.zero_le _,Hd (fun j hj=>absurd hj (Nat.not_lt_zero _)),ROW,HB1⟩
 case round =>
  clear ROW HB1
  obtain ⟨i,o,rfl,hi,HI,HR,HB⟩:=hrel
  by_cases hlt : i < n
  ·obtain ⟨z,hz⟩ : ∃ z,l[i]? = some z:=⟨_,List.getElem?_eq_getElem (by rw [HLL.out]; exact hlt)⟩
   have HC:=Hd (HN.out i hlt _ (HA.out.below HB.out) z hz)
   have HZ:=Hd hz
   clear hz
   go_wp2_with fail
   refine HC.out.mono ?_
   rintro e w2 ⟨rfl,hb2⟩
   have HR2:=Hd (HR.out.below (hb2.mono (Nat.le_refl _)))
   obtain ⟨v0,hv0⟩ : ∃ v0,o[i]? = some v0:=⟨_,List.getElem?_eq_getElem (by have:=HR.out.len; omega)⟩
   have hcell:=HR2.out.cell i v0 hv0
   have hfr:=HR2.out.free i
   have HB2:=Hd (HB.out.trans (hb2.mono HB.out.size))
   have HRN:=Hd (HR2.out.set i z)
   have HBN:=Hd (HB2.out.setCell (p:=⟨w.heap.size,i,none⟩) (Nat.le_refl _) (.complex .f64 z.1 z.2))
   have HIN : Hid (∀ j < i + 1,(o.set i z)[j]? = l[j]?):=Hd (fun j hj=>by
    have hol : o.length = l.length:=by rw [HR.out.len,HLL.out]
    by_cases e : j = i
    ·subst e; exact set_right_self HZ.out hol
    ·exact set_right HZ.out hol (HI.out j (by omega)))
   have hst:=fun u : World=>run_store_complex (P:=Tryz.prog) (w:=u) (a:=⟨w.heap.size,i,none⟩) (m:=.plain) .f64 z.1 z.2
   clear hb2 hv0 HC
   go_wp2_with fail
   exact ⟨⟨i + 1,_,by go_num,hlt,HIN,HRN,HBN⟩,by simp [intOf]; omega⟩
  ·obtain rfl : n = i:=by omega
   have HOL : Hid (o = l):=Hd (by
    apply List.ext_getElem?
    intro k
    by_cases hk : k < n
    ·exact HI.out k hk
    ·rw [List.getElem?_eq_none (by rw [HR.out.len]; omega),List.getElem?_eq_none (by rw [HLL.out]; omega)])
   go_wp2_with fail
   go_ret2
   exact ⟨_,rfl,by rw [<- HOL.out]; exact HR.out,HB.out⟩
set_option maxRecDepth 100000 in
set_option maxHeartbeats 4000000 in
theorem wrow_big (order P q : Nat) (l : List (Nat × Nat)) (w : World) (ho : order <= 14) (hq : 2 ^ order = 8 * q) (hA : AW P w) (hl : WhB P order (2 ^ order) l) :
  Calls Tryz.prog 204 #[.int .i64 order] w (RPostC w (2 ^ order) l):=by
 obtain ⟨i0,hi0,hz0,hz1,hz2⟩:=info_parts c128_info
 obtain ⟨hsh,hsh2⟩:=shl_one order (by omega)
 have hp : 2 ^ order <= 2 ^ 14:=Nat.pow_le_pow_right (by decide) ho
 have hp1:=Nat.two_pow_pos order
 obtain ⟨n,hn⟩ : ∃ n : Nat,n = 2 ^ order:=⟨_,rfl⟩
 obtain ⟨hll,hl1,hl2⟩:=hl
 rw [<- hn] at hsh hsh2 hp hp1 hll hl1 hl2 hq ⊢
 obtain ⟨q4,hq4⟩ : ∃ q4,q4 = 2 * q:=⟨_,rfl⟩
 have e8 : n / 8 = q:=by omega
 have e4 : n / 4 = q4:=by omega
 rw [e8,e4] at hl1
 rw [e4] at hl2
 have HL1:=Hd hl1
 have HL2:=Hd hl2
 have HN:=Hd (fun i (hi : i <= q) u (hu : AW P u) z (hz : An.rootM P order i = some z)=>anear_any order i P z u ho (by omega) hu hz)
 have h8 : ¬ (n : Int) < 8:=by omega
 have ho1 : ¬ (order : Int) < 0:=by omega
 have ho2 : ¬ (14 : Int) < (order : Int):=by omega
 have t8 : Int.tdiv (n : Int) 8 = (q : Int):=by rw [Int.tdiv_eq_ediv_of_nonneg (by omega)]; omega
 have t8' : (n : Int) / 8 = (q : Int):=by omega
 have t4 : Int.tdiv (n : Int) 4 = (q4 : Int):=by rw [Int.tdiv_eq_ediv_of_nonneg (by omega)]; omega
 have t4' : (n : Int) / 4 = (q4 : Int):=by omega
 have u8 : IntKind.i64.wrap ((q : Int) + 1) = ((q + 1 : Nat) : Int):=by rw [IntKind.wrap_i64]; omega
 have v8 : IntKind.i64.wrap (q : Int) = (q : Int):=by rw [IntKind.wrap_i64]; omega
 have v4 : IntKind.i64.wrap (q4 : Int) = (q4 : Int):=by rw [IntKind.wrap_i64]; omega
 obtain ⟨rest,hrest⟩ : ∃ r,r = n - q4:=⟨_,rfl⟩
 have u4 : IntKind.i64.wrap ((n : Int) - (q4 : Int)) = (rest : Int):=by rw [IntKind.wrap_i64]; omega
 obtain ⟨q1,hq1⟩ : ∃ q1,q1 = q + 1:=⟨_,rfl⟩
 rw [<- hq1] at u8
 have HA:=Hd hA
 have HLL:=Hd hll
 clear hA hn hll hl1 hl2 e8 e4
 replace hq:=hq.symm
 replace hq4:=hq4.symm
 replace hq1:=hq1.symm
 replace hrest:=hrest.symm
 go_enter Tryz.func204,Tryz.ntmps204
 go_wp2_with (refine wpList_make_full _ rfl (.tmp 19) (.tmp 19) 123 rfl w.heap.size 160 i0 _ 1 Tryz.underlying123 hi0 hz0 hz1 .i64 .i64 _ _ n rfl rfl (by omega) (by omega) (by rw [hz2]; omega) (by simp only [maxLen]; omega) (Nat.le_refl _) ?_; intro w1 hown1 hg1; have HB1:=Hd ((Below.refl w.heap.size w).grown hg1 (Nat.le_refl _) (fun k hk=>by cases hk)); have ROW:=Hd (CRow.made hown1); clear hown1 hg1)
 clear hsh hsh2
 go_loopw [42] (fun iv wr=>∃ (i : Nat) (o : List (Nat × Nat)),iv = .int .i64 i /\ i <= q1 /\ Hid (∀ j < i,o[j]? = l[j]? /\ o[q4 - j]? = l[q4 - j]?) /\ Hid (CRow wr w.heap.size w.heap.size n o) /\ Hid (Below w.heap.size w wr)) (fun iv _=>q1 - (intOf iv).toNat)
 case atStart=>exact ⟨0,List.replicate n (0,0),rfl,Nat.zero_le _,Hd (fun j hj=>absurd hj (Nat.not_lt_zero _)),ROW,HB1⟩
 case round =>
  clear ROW HB1
  obtain ⟨i,o,rfl,hi,HI,HR,HB⟩:=hrel
  by_cases hlt : i < q1
  ·obtain ⟨z,hz1,hz2,hz3⟩:=HL1.out i (by omega)
   have HC:=Hd (HN.out i (by omega) _ (HA.out.below HB.out) z hz1)
   have HZ2:=Hd hz2
   obtain ⟨p,hp⟩ : ∃ p,p = q4 - i:=⟨_,rfl⟩
   have up : IntKind.i64.wrap ((q4 : Int) - (i : Int)) = (p : Int):=by rw [IntKind.wrap_i64]; omega
   rw [<- hp] at hz3
   have HZ3:=Hd hz3
   clear hz1 hz2 hz3
   go_wp2_with fail
   refine HC.out.mono ?_
   rintro e w2 ⟨rfl,hb2⟩
   have HR2:=Hd (HR.out.below (hb2.mono (Nat.le_refl _)))
   have hol:=HR2.out.len
   obtain ⟨v0,hv0⟩ : ∃ v0,o[i]? = some v0:=⟨_,List.getElem?_eq_getElem (by omega)⟩
   have hcell:=HR2.out.cell i v0 hv0
   have hfr:=HR2.out.free i
   have HB2:=Hd (HB.out.trans (hb2.mono HB.out.size))
   have HRN:=Hd (HR2.out.set i z)
   obtain ⟨v1,hv1⟩ : ∃ v1,(o.set i z)[p]? = some v1:=⟨_,List.getElem?_eq_getElem (by rw [List.length_set]; omega)⟩
   have hcell2:=HRN.out.cell p v1 hv1
   have hfr2:=HRN.out.free p
   have HBN:=Hd (HB2.out.setCell (p:=⟨w.heap.size,i,none⟩) (Nat.le_refl _) (.complex .f64 z.1 z.2))
   have HRM:=Hd (HRN.out.set p (z.2,z.1))
   have HBM:=Hd (HBN.out.setCell (p:=⟨w.heap.size,p,none⟩) (Nat.le_refl _) (.complex .f64 z.2 z.1))
   have HIN : Hid (∀ j < i + 1,((o.set i z).set p (z.2,z.1))[j]? = l[j]? /\ ((o.set i z).set p (z.2,z.1))[q4 - j]? = l[q4 - j]?):=Hd (fun j hj=>by
    have hol1 : o.length = l.length:=by rw [hol,HLL.out]
    have hol2 : (o.set i z).length = l.length:=by rw [List.length_set]; exact hol1
    by_cases e : j = i
    ·subst e
     exact ⟨set_right HZ3.out hol2 (set_right_self HZ2.out hol1),by rw [<- hp]; exact set_right_self HZ3.out hol2⟩
    ·have:=HI.out j (by omega)
     exact ⟨set_right HZ3.out hol2 (set_right HZ2.out hol1 this.1),set_right HZ3.out hol2 (set_right HZ2.out hol1 this.2)⟩)
   have hst:=fun u : World=>run_store_complex (P:=Tryz.prog) (w:=u) (a:=⟨w.heap.size,i,none⟩) (m:=.plain) .f64 z.1 z.2
   have hst2:=fun u : World=>run_store_complex (P:=Tryz.prog) (w:=u) (a:=⟨w.heap.size,p,none⟩) (m:=.plain) .f64 z.2 z.1
   have hpn : p < n:=by omega
   clear hb2 hv0 hv1 HC hp hol
   go_wp2_with fail
   generalize w2.setCell ⟨w.heap.size,i,none⟩ (.complex .f64 z.1 z.2) = w3 at *
   go_wp2_with fail
   exact ⟨⟨i + 1,_,by go_num,hlt,HIN,HRM,HBM⟩,by simp [intOf]; omega⟩
  ·obtain rfl : q1 = i:=by omega
   have HI2 : Hid (∀ j < q4 + 0,o[j]? = l[j]?):=Hd (fun j hj=>by
    by_cases hc : j <= q
    ·exact (HI.out j (by omega)).1
    ·have:=(HI.out (q4 - j) (by omega)).2
     rw [show q4 - (q4 - j) = j by omega] at this; exact this)
   clear HI
   go_wp2_with fail
   go_loopw [71] (fun iv wr=>∃ (i : Nat) (o : List (Nat × Nat)),iv = .int .i64 i /\ i <= rest /\ Hid (∀ j < q4 + i,o[j]? = l[j]?) /\ Hid (CRow wr w.heap.size w.heap.size n o) /\ Hid (Below w.heap.size w wr)) (fun iv _=>rest - (intOf iv).toNat)
   case atStart=>exact ⟨0,o,rfl,Nat.zero_le _,HI2,HR,HB⟩
   case round =>
    clear HI2 HR HB
    obtain ⟨i,o,rfl,hi,HI,HR,HB⟩:=hrel
    by_cases hlt : i < rest
    ·obtain ⟨z,x,hz1,hz2,hz3,hz4,hz5⟩:=HL2.out i (by omega)
     obtain ⟨p,hp⟩ : ∃ p,p = i + q4:=⟨_,rfl⟩
     have up : IntKind.i64.wrap ((i : Int) + (q4 : Int)) = (p : Int):=by rw [IntKind.wrap_i64]; omega
     rw [<- hp] at hz3
     have hol:=HR.out.len
     have hiz : o[i]? = some z:=by rw [HI.out i (by omega)]; exact hz1
     have hcl:=HR.out.cell i z hiz
     obtain ⟨v1,hv1⟩ : ∃ v1,o[p]? = some v1:=⟨_,List.getElem?_eq_getElem (by omega)⟩
     have hcell2:=HR.out.cell p v1 hv1
     have hfr2:=HR.out.free p
     have HRM:=Hd (HR.out.set p x)
     have HBM:=Hd (HB.out.setCell (p:=⟨w.heap.size,p,none⟩) (Nat.le_refl _) (.complex .f64 x.1 x.2))
     have HIN : Hid (∀ j < q4 + (i + 1),(o.set p x)[j]? = l[j]?):=Hd (fun j hj=>by
      have hol1 : o.length = l.length:=by rw [hol,HLL.out]
      by_cases e : j = p
      ·subst e; exact set_right_self hz3 hol1
      ·exact set_right hz3 hol1 (HI.out j (by omega)))
     have hst2:=fun u : World=>run_store_complex (P:=Tryz.prog) (w:=u) (a:=⟨w.heap.size,p,none⟩) (m:=.plain) .f64 x.1 x.2
     have hpn : p < n:=by omega
     have hin : i < n:=by omega
     have HT:=Hd (fun u=>pturn_one z.1 z.2 u hz2)
     have HE:=Hd (fun u=>even_any (Fl.ng z.2) z.1 x.1 x.2 u hz4 hz5)
     clear hv1 hp hol hz1 hz2 hz3 hz4 hz5 hiz
     go_wp2_with fail
     refine (HT.out _).mono ?_
     rintro e w2 ⟨rfl,rfl⟩
     go_wp2_with fail
     refine (HE.out _).mono ?_
     rintro e w2 ⟨rfl,rfl⟩
     go_wp2_with fail
     exact ⟨⟨i + 1,_,by go_num,hlt,HIN,HRM,HBM⟩,by simp [intOf]; omega⟩
    ·obtain rfl : rest = i:=by omega
     have HOL : Hid (o = l):=Hd (by
      apply List.ext_getElem?
      intro k
      by_cases hk : k < n
      ·exact HI.out k (by omega)
      ·rw [List.getElem?_eq_none (by rw [HR.out.len]; omega),List.getElem?_eq_none (by rw [HLL.out]; omega)])
     go_wp2_with fail
     go_ret2
     exact ⟨_,rfl,by rw [<- HOL.out]; exact HR.out,HB.out⟩
end
section
open Go.RowKit
theorem and_pred (k : Nat) (hk : k <= 30) : bits BinOp.and IntKind.i64 ((2 ^ k : Nat) : Int) (((2 ^ k : Nat) : Int) - 1) = 0:=by
 have h:=i64_mask (2 ^ k) k (by have : 2 ^ k <= 2 ^ 30:=Nat.pow_le_pow_right (by decide) hk; omega) hk
 rw [h,Nat.mod_self]; rfl
theorem ctz_pow2 (k : Nat) (hk : k <= 14) : Lib.ctz 64 (2 ^ k) = k:=by
 have h2 : 2 ^ k <= 2 ^ 14:=Nat.pow_le_pow_right (by decide) hk
 have h1:=Nat.two_pow_pos k
 exact Nt.ctz_odd (2 ^ k) k 0 (by omega) (by omega) (by simp)
theorem sorder_any (k : Nat) (w : World) (hk : k <= 14) (hT : TabAt 2 Lib.deBruijn64tab w) :
  Calls Tryz.prog 190 #[.int .i64 ((2 ^ k : Nat) : Int)] w fun e w'=>e = .returned (.tuple #[.int .i64 k,.bool true]) /\ w = w':=by
 have ha:=and_pred k (by omega)
 have hc:=ctz_pow2 k hk
 have h2 : 2 ^ k <= 2 ^ 14:=Nat.pow_le_pow_right (by decide) hk
 have h1:=Nat.two_pow_pos k
 have HC:=Hd (tz_any (2 ^ k) (by omega) w hT)
 rw [hc] at HC
 obtain ⟨n,hn⟩ : ∃ n : Nat,n = 2 ^ k:=⟨_,rfl⟩
 rw [<- hn] at ha h2 h1 HC ⊢
 have u1 : IntKind.i64.wrap ((n : Int) - 1) = (n : Int) - 1:=by rw [IntKind.wrap_i64]; omega
 have u2 : IntKind.u64.wrap (n : Int) = (n : Int):=by rw [IntKind.wrap_u64]; omega
 have c1 : ¬ (n : Int) < 1:=by omega
 have c2 : ¬ (16384 : Int) < (n : Int):=by omega
 clear hc hn hT
 go_enter Tryz.func190,Tryz.ntmps190
 go_wp2_with fail
 refine HC.out.mono ?_
 rintro e w1 ⟨rfl,rfl⟩
 go_wp2_with fail
 go_ret2
 exact ⟨rfl,rfl⟩
def shuf (k : Nat) (l : List (Nat × Nat)) : List (Nat × Nat):=(List.range (2 ^ k)).map (fun i=>l.getD (rev k i) (0,0))
theorem shuf_len (k : Nat) (l : List (Nat × Nat)) : (shuf k l).length = 2 ^ k:=by unfold shuf; simp
theorem shuf_get (k : Nat) (l : List (Nat × Nat)) (i : Nat) (hi : i < 2 ^ k) : (shuf k l)[i]? = some (l.getD (rev k i) (0,0)):=by
 unfold shuf
 rw [List.getElem?_map,List.getElem?_range hi]; rfl
set_option maxRecDepth 100000 in
set_option maxHeartbeats 2000000 in
theorem srow_any (k n g : Nat) (l : List (Nat × Nat)) (w : World) (hk : k <= 14) (hn : n = 2 ^ k) (hr : CRow w 0 g n l) (hT : TabAt 2 Lib.deBruijn64tab w) (hN : TabAt 3 nibT w) (hN2 : 3 < w.heap.size) :
  Calls Tryz.prog 192 #[.slice (some ⟨g,0,none⟩) n n] w (RPostC w n (shuf k l)):=by
 obtain ⟨i0,hi0,hz0,hz1,hz2⟩:=info_parts c128_info
 have h2 : 2 ^ k <= 2 ^ 14:=Nat.pow_le_pow_right (by decide) hk
 have h1:=Nat.two_pow_pos k
 have HO:=Hd (sorder_any k w hk hT)
 have HS:=Hd (fun i (hi : i < n)=>shuf_get k l i (by rw [<- hn]; exact hi))
 have HV:=Hd (fun i (hi : i < n)=>(show rev k i < n by rw [hn]; exact rev_lt k i))
 have HLS : Hid ((shuf k l).length = n):=Hd (by rw [hn]; exact shuf_len k l)
 have HTT:=Hd (fun i (hi : i < n) u (hu : Below w.heap.size w u)=>turned_any k i u hk (by rw [<- hn]; exact hi) (hN.below hu hN2))
 rw [<- hn] at h2 h1 HO
 have HIN:=Hd hr
 have hgl:=hr.lt.2
 obtain ⟨L,hL⟩ : ∃ L,L = shuf k l:=⟨_,rfl⟩
 rw [<- hL] at HS HLS ⊢
 clear hn hr hT hN hN2 hL
 go_enter Tryz.func192,Tryz.ntmps192
 go_wp2_with fail
 refine HO.out.mono ?_
 rintro e w1 ⟨rfl,rfl⟩
 go_wp2_with (refine wpList_make_full _ rfl (.tmp 17) (.tmp 17) 123 rfl w.heap.size 160 i0 _ 1 Tryz.underlying123 hi0 hz0 hz1 .i64 .i64 _ _ n rfl rfl (by omega) (by omega) (by rw [hz2]; omega) (by simp only [maxLen]; omega) (Nat.le_refl _) ?_; intro w1 hown1 hg1; have HB1:=Hd ((Below.refl w.heap.size w).grown hg1 (Nat.le_refl _) (fun k hk=>by cases hk)); have ROW:=Hd (CRow.made hown1); clear hown1 hg1)
 go_loopw [21] (fun iv wr=>∃ (i : Nat) (o : List (Nat × Nat)),iv = .int .i64 i /\ i <= n /\ Hid (∀ j < i,o[j]? = L[j]?) /\ Hid (CRow wr w.heap.size w.heap.size n o) /\ Hid (Below w.heap.size w wr)) (fun iv _=>n - (intOf iv).toNat)
 case atStart=>exact ⟨0,List.replicate n (0,0),rfl,Nat.zero_le _,Hd (fun j hj=>absurd hj (Nat.not_lt_zero _)),ROW,HB1⟩
 case round =>
  clear ROW HB1
  obtain ⟨i,o,rfl,hi,HI,HR,HB⟩:=hrel
  by_cases hlt : i < n
  ·have HC:=Hd (HTT.out i hlt _ HB.out)
   have hv:=HV.out i hlt
   have hs:=HS.out i hlt
   obtain ⟨r,hrr⟩ : ∃ r,r = rev k i:=⟨_,rfl⟩
   rw [<- hrr] at HC hv hs
   obtain ⟨z,hz⟩ : ∃ z,l[r]? = some z:=⟨_,List.getElem?_eq_getElem (by rw [HIN.out.len]; exact hv)⟩
   have hz2' : l.getD r (0,0) = z:=by rw [List.getD_eq_getElem?_getD,hz]; rfl
   rw [hz2'] at hs
   have hload:=(HIN.out.below HB.out).cell r z hz
   obtain ⟨v0,hv0⟩ : ∃ v0,o[i]? = some v0:=⟨_,List.getElem?_eq_getElem (by have:=HR.out.len; omega)⟩
   have hcell:=HR.out.cell i v0 hv0
   have hfr:=HR.out.free i
   have HRN:=Hd (HR.out.set i z)
   have HBN:=Hd (HB.out.setCell (p:=⟨w.heap.size,i,none⟩) (Nat.le_refl _) (.complex .f64 z.1 z.2))
   have HIN2 : Hid (∀ j < i + 1,(o.set i z)[j]? = L[j]?):=Hd (fun j hj=>by
    have hol : o.length = L.length:=by rw [HR.out.len,HLS.out]
    by_cases e : j = i
    ·subst e; exact set_right_self hs hol
    ·exact set_right hs hol (HI.out j (by omega)))
   have hst:=fun u : World=>run_store_complex (P:=Tryz.prog) (w:=u) (a:=⟨w.heap.size,i,none⟩) (m:=.plain) .f64 z.1 z.2
   clear hv0 hz hz2' hs hrr
   go_wp2_with fail
   refine HC.out.mono ?_
   rintro e w2 ⟨rfl,rfl⟩
   go_wp2_with fail
   exact ⟨⟨i + 1,_,by go_num,hlt,HIN2,HRN,HBN⟩,by simp [intOf]; omega⟩
  ·obtain rfl : n = i:=by omega
   have HOL : Hid (o = L):=Hd (by
    apply List.ext_getElem?
    intro k
    by_cases hk : k < n
    ·exact HI.out k hk
    ·rw [List.getElem?_eq_none (by rw [HR.out.len]; omega),List.getElem?_eq_none (by rw [HLS.out]; omega)])
   go_wp2_with fail
   go_ret2
   exact ⟨_,rfl,by rw [<- HOL.out]; exact HR.out,HB.out⟩
end
section
open Go.RowKit
def LV (W : Nat -> Nat -> Nat × Nat) (K : Nat) (x : Nat -> Nat × Nat) (k p : Nat) : Nat × Nat:=lvl cadd csub cmul W K x k p
def StepOk (W : Nat -> Nat -> Nat × Nat) (K : Nat) (x : Nat -> Nat × Nat) : Prop:=∀ k p,k < K -> p % 2 ^ (k + 1) < 2 ^ k -> p < 2 ^ K ->
 CMul (W k (p % 2 ^ k)) (LV W K x k (p + 2 ^ k)) /\ CAdd (LV W K x k p) (cmul (W k (p % 2 ^ k)) (LV W K x k (p + 2 ^ k))) /\ CSub (LV W K x k p) (cmul (W k (p % 2 ^ k)) (LV W K x k (p + 2 ^ k)))
theorem LV_low (W : Nat -> Nat -> Nat × Nat) (K : Nat) (x : Nat -> Nat × Nat) (k b j : Nat) (hj : j < 2 ^ k) :
  LV W K x (k + 1) (b * 2 ^ (k + 1) + j) = cadd (LV W K x k (b * 2 ^ (k + 1) + j)) (cmul (W k j) (LV W K x k (b * 2 ^ (k + 1) + j + 2 ^ k))) /\
  LV W K x (k + 1) (b * 2 ^ (k + 1) + j + 2 ^ k) = csub (LV W K x k (b * 2 ^ (k + 1) + j)) (cmul (W k j) (LV W K x k (b * 2 ^ (k + 1) + j + 2 ^ k))):=by
 have hp : 2 ^ (k + 1) = 2 * 2 ^ k:=Nat.pow_succ'
 have h0:=Nat.two_pow_pos k
 have e1 : (b * 2 ^ (k + 1) + j) % 2 ^ (k + 1) = j:=by rw [Nat.mul_comm,Nat.mul_add_mod,Nat.mod_eq_of_lt (by omega)]
 have e2 : (b * 2 ^ (k + 1) + j) % 2 ^ k = j:=by rw [hp,show b * (2 * 2 ^ k) = 2 ^ k * (b * 2) by rw [Nat.mul_comm (2 ^ k),Nat.mul_assoc],Nat.mul_add_mod,Nat.mod_eq_of_lt hj]
 have e3 : (b * 2 ^ (k + 1) + j + 2 ^ k) % 2 ^ (k + 1) = j + 2 ^ k:=by rw [Nat.add_assoc,Nat.mul_comm,Nat.mul_add_mod,Nat.mod_eq_of_lt (by omega)]
 have e4 : (b * 2 ^ (k + 1) + j + 2 ^ k) % 2 ^ k = j:=by rw [Nat.add_mod_right,e2]
 constructor
 ·unfold LV
  simp only [lvl]
  rw [e1,e2,if_pos hj]
 ·unfold LV
  simp only [lvl]
  rw [e3,e4,if_neg (by omega),Nat.add_sub_cancel]
set_option maxRecDepth 100000 in
set_option maxHeartbeats 4000000 in
theorem steps_any (K n g gh hn : Nat) (l half : List (Nat × Nat)) (W : Nat -> Nat -> Nat × Nat) (x : Nat -> Nat × Nat) (w : World) (hK : K <= 14) (hnK : n = 2 ^ K) (hr : CRow w 0 g n l) (hx : ∀ p < n,l[p]? = some (x p))
  (hh : CRow w 0 gh hn half) (hW : ∀ k j,k < K -> j < 2 ^ k -> half[j * 2 ^ (K - (k + 1))]? = some (W k j)) (hok : StepOk W K x) (hT : TabAt 2 Lib.deBruijn64tab w) (hN : TabAt 3 nibT w) (hN2 : 3 < w.heap.size) :
  Calls Tryz.prog 169 #[.slice (some ⟨g,0,none⟩) n n,.slice (some ⟨gh,0,none⟩) hn hn] w (RPostC w n ((List.range n).map (LV W K x K))):=by
 have h2 : 2 ^ K <= 2 ^ 14:=Nat.pow_le_pow_right (by decide) hK
 have h1:=Nat.two_pow_pos K
 have HROW:=Hd (srow_any K n g l w hK hnK hr hT hN hN2)
 have HL0 : Hid (∀ p < n,(shuf K l)[p]? = some (LV W K x 0 p)):=Hd (fun p hp=>by
  rw [shuf_get K l p (by rw [<- hnK]; exact hp)]
  have:=hx (rev K p) (by rw [hnK]; exact rev_lt K p)
  rw [List.getD_eq_getElem?_getD,this]; rfl)
 have HH:=Hd hh
 have HW:=Hd hW
 have HOK:=Hd hok
 have HNK:=Hd hnK
 have hn1 : 1 <= n:=by omega
 have hn2 : n <= 16384:=by omega
 have hgh:=hh.lt.2
 clear hr hx hh hW hok hT hN hN2 hnK h2 h1
 go_enter Tryz.func169,Tryz.ntmps169
 go_wp2_with fail
 refine HROW.out.mono ?_
 rintro e w1 ⟨g1,rfl,hr1,hb1⟩
 have HR1:=Hd hr1
 have HB1:=Hd hb1
 have hg1:=hr1.lt.1
 clear hr1 hb1 HROW
 go_wp2_with fail
 go_loopw [9] (fun mv wr=>∃ (k : Nat) (o : List (Nat × Nat)),mv = .int .i64 ((2 ^ (k + 1) : Nat) : Int) /\ k <= K /\ Hid (∀ p < n,o[p]? = some (LV W K x k p)) /\ Hid (CRow wr w.heap.size g1 n o) /\ Hid (Below w.heap.size w wr)) (fun mv _=>2 * n - (intOf mv).toNat)
 case atStart=>exact ⟨0,shuf K l,rfl,Nat.zero_le _,HL0,HR1,HB1⟩
 case round =>
  clear HL0 HR1 HB1
  obtain ⟨k,o,rfl,hk,HI,HR,HB⟩:=hrel
  have hp1 : 2 ^ (k + 1) = 2 * 2 ^ k:=Nat.pow_succ'
  have hp0:=Nat.two_pow_pos k
  by_cases hlt : k < K
  ·have hq0 : 2 ^ (k + 1) * 2 ^ (K - (k + 1)) = n:=by rw [<- Nat.pow_add,HNK.out,show k + 1 + (K - (k + 1)) = K by omega]
   have hq1:=Nat.two_pow_pos (K - (k + 1))
   have HWk:=Hd (HW.out k · hlt ·)
   have HOKk:=Hd (HOK.out k · hlt · ·)
   have HLOW:=Hd (fun b j hj=>LV_low W K x k b j hj)
   rw [HNK.out.symm] at HOKk
   obtain ⟨h,hh⟩ : ∃ h,h = 2 ^ k:=⟨_,rfl⟩
   obtain ⟨m,hm⟩ : ∃ m,m = 2 ^ (k + 1):=⟨_,rfl⟩
   obtain ⟨q,hq⟩ : ∃ q,q = 2 ^ (K - (k + 1)):=⟨_,rfl⟩
   rw [<- hm,<- hq] at hq0
   rw [<- hm,<- hh] at hp1 HLOW HOKk
   rw [<- hh] at hp0 HWk
   rw [<- hq] at hq1 HWk
   rw [<- hm]
   have HM:=Hd hm
   clear hh hm hq
   have hmn : m <= n:=by
    have:=Nat.mul_le_mul_left m hq1
    omega
   have hqn : q <= n:=by
    have:=Nat.mul_le_mul_right q (show 1 <= m by omega)
    omega
   have hle : (m : Int) <= (n : Int):=by omega
   have m0 : ((m : Int) == 0) = false:=by simp; omega
   have t1 : Int.tdiv (n : Int) (m : Int) = (q : Int):=by
    rw [Int.tdiv_eq_ediv_of_nonneg (by omega),<- hq0,Int.natCast_mul,Int.mul_ediv_cancel_left _ (by omega)]
   have t1' : (n : Int) / (m : Int) = (q : Int):=by
    rw [<- hq0,Int.natCast_mul,Int.mul_ediv_cancel_left _ (by omega)]
   have t2 : Int.tdiv (m : Int) 2 = (h : Int):=by rw [Int.tdiv_eq_ediv_of_nonneg (by omega)]; omega
   have t2' : (m : Int) / 2 = (h : Int):=by omega
   have v1 : IntKind.i64.wrap (q : Int) = (q : Int):=by rw [IntKind.wrap_i64]; omega
   have v2 : IntKind.i64.wrap (h : Int) = (h : Int):=by rw [IntKind.wrap_i64]; omega
   have v3 : IntKind.i64.wrap ((m : Int) * 2) = ((2 * m : Nat) : Int):=by rw [IntKind.wrap_i64]; omega
   replace hp1 : 2 * h = m:=hp1.symm
   go_wp2_with fail
   go_loopw [33] (fun bv wr=>∃ (b : Nat) (o : List (Nat × Nat)),bv = .int .i64 b /\ b <= q /\ Hid (∀ p < n,o[p]? = some (if p < b * m then LV W K x (k + 1) p else LV W K x k p)) /\ Hid (CRow wr w.heap.size g1 n o) /\ Hid (Below w.heap.size w wr)) (fun bv _=>q - (intOf bv).toNat)
   case atStart=>exact ⟨0,o,rfl,Nat.zero_le _,Hd (fun p hp=>by rw [if_neg (by omega)]; exact HI.out p hp),HR,HB⟩
   case round =>
    clear HI HR HB
    obtain ⟨b,o,rfl,hb,HI,HR,HB⟩:=hrel
    by_cases hlt2 : b < q
    ·obtain ⟨s,hs⟩ : ∃ s,s = b * m:=⟨_,rfl⟩
     have hsm : s + m <= n:=by
      have:=Nat.mul_le_mul_right m (show b + 1 <= q by omega)
      rw [Nat.add_mul,Nat.one_mul,Nat.mul_comm q m,hq0] at this
      omega
     have hs1 : (b : Int) * (m : Int) = (s : Int):=by rw [hs,Int.natCast_mul]
     have v4 : IntKind.i64.wrap (s : Int) = (s : Int):=by rw [IntKind.wrap_i64]; omega
     have HS:=Hd hs
     rw [<- hs] at HI
     have HLB:=Hd (HLOW.out b)
     rw [<- hs] at HLB
     have HMOD : Hid (∀ j,j < h -> (s + j) % m < h /\ (s + j) % h = j):=Hd (fun j hj=>by
      constructor
      ·rw [hs,Nat.mul_comm,Nat.mul_add_mod,Nat.mod_eq_of_lt (by omega)]; exact hj
      ·rw [hs,<- hp1,show b * (2 * h) = h * (b * 2) by rw [Nat.mul_comm h,Nat.mul_assoc],Nat.mul_add_mod,Nat.mod_eq_of_lt hj])
     clear hs
     go_wp2_with fail
     go_loopw [38] (fun jv wr=>∃ (j : Nat) (o : List (Nat × Nat)),jv = .int .i64 j /\ j <= h /\ Hid (∀ p < n,o[p]? = some (if p < s + j \/ (s + h <= p /\ p < s + h + j) then LV W K x (k + 1) p else LV W K x k p)) /\ Hid (CRow wr w.heap.size g1 n o) /\ Hid (Below w.heap.size w wr)) (fun jv _=>h - (intOf jv).toNat)
     case atStart=>exact ⟨0,o,rfl,Nat.zero_le _,Hd (fun p hp=>by rw [HI.out p hp]; congr 1; by_cases hc : p < s; rw [if_pos hc,if_pos (by omega)]; rw [if_neg hc,if_neg (by omega)]),HR,HB⟩
     case round =>
      clear HI HR HB
      obtain ⟨j,o,rfl,hj,HI,HR,HB⟩:=hrel
      by_cases hlt3 : j < h
      ·obtain ⟨a,ha⟩ : ∃ a,a = s + j:=⟨_,rfl⟩
       obtain ⟨c,hc⟩ : ∃ c,c = s + j + h:=⟨_,rfl⟩
       obtain ⟨r,hrr⟩ : ∃ r,r = j * q:=⟨_,rfl⟩
       have hw:=HWk.out j hlt3
       obtain ⟨hl1,hl2⟩:=HLB.out j hlt3
       obtain ⟨hm1,hm2⟩:=HMOD.out j hlt3
       obtain ⟨o1,o2,o3⟩:=HOKk.out (s + j) hm1 (by omega)
       rw [hm2] at o1 o2 o3
       have hA:=HI.out a (by omega)
       have hC:=HI.out c (by omega)
       rw [if_neg (by omega)] at hA hC
       rw [<- hc] at hl1 hl2 o1 o2 o3
       rw [<- ha] at hl1 hl2 o2 o3
       rw [<- hrr] at hw
       obtain ⟨A,hAA⟩ : ∃ A,A = LV W K x k a:=⟨_,rfl⟩
       obtain ⟨C,hCC⟩ : ∃ C,C = LV W K x k c:=⟨_,rfl⟩
       obtain ⟨z,hzz⟩ : ∃ z,z = W k j:=⟨_,rfl⟩
       rw [<- hAA] at hA hl1 hl2 o2 o3
       rw [<- hCC] at hC hl1 hl2 o1 o2 o3
       rw [<- hzz] at hw hl1 hl2 o1 o2 o3
       obtain ⟨t,ht⟩ : ∃ t,t = cmul z C:=⟨_,rfl⟩
       have HM1:=Hd (fun u=>pmul_any z C u o1)
       rw [<- ht] at HM1 hl1 hl2 o2 o3
       have HA1:=Hd (fun u=>padd_any A t u o2)
       have HS1:=Hd (fun u=>psub_any A t u o3)
       obtain ⟨y1,hy1⟩ : ∃ y1,y1 = cadd A t:=⟨_,rfl⟩
       obtain ⟨y2,hy2⟩ : ∃ y2,y2 = csub A t:=⟨_,rfl⟩
       rw [<- hy1] at HA1 hl1
       rw [<- hy2] at HS1 hl2
       have hol:=HR.out.len
       have HRD:=HR
       have d1:=HR.out.cell a A hA
       have d2:=HR.out.cell c C hC
       have d3:=(HH.out.below HB.out).cell r z hw
       have hrh : r < hn:=by rw [<- HH.out.len]; exact (List.getElem?_eq_some_iff.1 hw).1
       have HR2:=Hd (HR.out.set a y1)
       have hC2 : (o.set a y1)[c]? = some C:=by rw [List.getElem?_set_ne (by omega)]; exact hC
       have HC2:=Hd hC2
       have HHA:=Hd hA
       have hBase:=HR.out.lt.1
       have HI3 : Hid (∀ p < n,((o.set a y1).set c y2)[p]? = some (if p < s + (j + 1) \/ (s + h <= p /\ p < s + h + (j + 1)) then LV W K x (k + 1) p else LV W K x k p)):=Hd (fun p hp=>by
        by_cases e1 : p = c
        ·subst e1
         rw [List.getElem?_set_self (by rw [List.length_set]; omega),if_pos (by omega),hl2]
        ·rw [List.getElem?_set_ne (fun e=>e1 e.symm)]
         by_cases e2 : p = a
         ·subst e2
          rw [List.getElem?_set_self (by omega),if_pos (by omega),hl1]
         ·rw [List.getElem?_set_ne (fun e=>e2 e.symm),HI.out p hp]
          congr 1
          by_cases hc1 : p < s + j \/ (s + h <= p /\ p < s + h + j)
          ·rw [if_pos hc1,if_pos (by omega)]
          ·rw [if_neg hc1,if_neg (by omega)])
       have u1 : IntKind.i64.wrap ((s : Int) + (j : Int)) = (a : Int):=by rw [IntKind.wrap_i64]; omega
       have u2 : IntKind.i64.wrap ((a : Int) + (h : Int)) = (c : Int):=by rw [IntKind.wrap_i64]; omega
       have hrn : r <= n * n:=by rw [hrr]; exact Nat.mul_le_mul (by omega) hqn
       have hnn : n * n <= 16384 * 16384:=Nat.mul_le_mul hn2 hn2
       have u3 : (j : Int) * (q : Int) = (r : Int):=by rw [hrr,Int.natCast_mul]
       have u4 : IntKind.i64.wrap (r : Int) = (r : Int):=by rw [IntKind.wrap_i64]; omega
       have b1 : (a : Int) < (n : Int):=by omega
       have b2 : (c : Int) < (n : Int):=by omega
       have b3 : (r : Int) < (hn : Int):=by omega
       have b1' : a < n:=by omega
       have b2' : c < n:=by omega
       have st1:=fun u : World=>run_store_complex (P:=Tryz.prog) (w:=u) (a:=⟨g1,a,none⟩) (m:=.plain) .f64 y1.1 y1.2
       have st2:=fun u : World=>run_store_complex (P:=Tryz.prog) (w:=u) (a:=⟨g1,c,none⟩) (m:=.plain) .f64 y2.1 y2.2
       clear HR2 hC2 hol HRD hA hC hw hl1 hl2 hm1 hm2 o1 o2 o3 ht hy1 hy2 hAA hCC hzz ha hc hrr hrn hnn HI
       go_wp2_with fail
       go_quiet (first | (go_at_call 129; exact (HM1.out _).mono (fun _ _ h=>⟨h.1,_,h.2.symm⟩)))
       rename_i nq
       have HRD:=Hd (HR.out.drewN nq)
       have HBD:=Hd (Below.drewN' HB.out nq)
       clear d1 d2 d3 HR HB
       have d1:=HRD.out.cell a A HHA.out
       have f1:=HRD.out.free a
       have HR2:=Hd (HRD.out.set a y1)
       have d4:=HR2.out.cell c C HC2.out
       have f2:=HR2.out.free c
       have HB2:=Hd ((HBD.out.setCell (p:=⟨g1,a,none⟩) hBase (.complex .f64 y1.1 y1.2)).setCell (p:=⟨g1,c,none⟩) hBase (.complex .f64 y2.1 y2.2))
       have HR3:=Hd (HR2.out.set c y2)
       generalize wr.drewN nq = v at *
       go_wp2_with fail
       refine (HA1.out _).mono ?_
       rintro e w2 ⟨rfl,rfl⟩
       go_wp2_with fail
       refine (HS1.out _).mono ?_
       rintro e w2 ⟨rfl,rfl⟩
       go_wp2_with fail
       exact ⟨⟨j + 1,_,by go_num,hlt3,HI3,HR3,HB2⟩,by simp [intOf]; omega⟩
      ·obtain rfl : j = h:=by omega
       have HI3 : Hid (∀ p < n,o[p]? = some (if p < (b + 1) * m then LV W K x (k + 1) p else LV W K x k p)):=Hd (fun p hp=>by
        rw [HI.out p hp,Nat.add_mul,Nat.one_mul,<- HS.out]
        congr 1
        by_cases hc : p < s + m
        ·rw [if_pos (by omega),if_pos hc]
        ·rw [if_neg (by omega),if_neg hc])
       go_wp2_with fail
       exact ⟨⟨b + 1,_,by go_num,hlt2,HI3,HR,HB⟩,by simp [intOf]; omega⟩
    ·obtain rfl : q = b:=by omega
     have HI3 : Hid (∀ p < n,o[p]? = some (LV W K x (k + 1) p)):=Hd (fun p hp=>by
      rw [HI.out p hp,Nat.mul_comm,hq0,if_pos hp])
     have e2 : 2 ^ (k + 1 + 1) = 2 * m:=by rw [HM.out]; exact Nat.pow_succ'
     go_wp2_with fail
     exact ⟨⟨k + 1,_,by rw [e2,Int.natCast_mul]; rfl,hlt,HI3,HR,HB⟩,by simp [intOf]; omega⟩
  ·obtain rfl : k = K:=by omega
   have hgt : ¬ ((2 ^ (k + 1) : Nat) : Int) <= (n : Int):=by have:=HNK.out; omega
   obtain ⟨m,hm⟩ : ∃ m,m = 2 ^ (k + 1):=⟨_,rfl⟩
   rw [<- hm] at hgt ⊢
   clear hm
   have HOL : Hid (o = (List.range n).map (LV W k x k)):=Hd (by
    apply List.ext_getElem?
    intro p
    by_cases hp : p < n
    ·rw [HI.out p hp,List.getElem?_map,List.getElem?_range hp]; rfl
    ·rw [List.getElem?_eq_none (by rw [HR.out.len]; omega),List.getElem?_eq_none (by simp; omega)])
   go_wp2_with fail
   go_ret2
   exact ⟨_,rfl,by rw [<- HOL.out]; exact HR.out,HB.out⟩
end
section
open Cx (n2)
open Fl
theorem cadd_some (a b : Nat × Nat) (ha : cok a) (hb : cok b) (h1 : n2 (cval a) <= tq * tq) (h2 : n2 (cval b) <= tq * tq) : CAdd a b:=by
 have pt:=tq_pos
 have tt:=tq_top
 obtain ⟨a1,a2⟩:=part_le (Rat.le_of_lt pt) h1
 obtain ⟨b1,b2⟩:=part_le (Rat.le_of_lt pt) h2
 simp only [cval] at a1 a2 b1 b2
 have r:=fa_ok ha.1 hb.1 (by have:=ab_tri (fv a.1) (fv b.1); grind)
 have i:=fa_ok ha.2 hb.2 (by have:=ab_tri (fv a.2) (fv b.2); grind)
 exact ⟨r.2.2,i.2.2⟩
theorem csub_some (a b : Nat × Nat) (ha : cok a) (hb : cok b) (h1 : n2 (cval a) <= tq * tq) (h2 : n2 (cval b) <= tq * tq) : CSub a b:=by
 have pt:=tq_pos
 have tt:=tq_top
 obtain ⟨a1,a2⟩:=part_le (Rat.le_of_lt pt) h1
 obtain ⟨b1,b2⟩:=part_le (Rat.le_of_lt pt) h2
 simp only [cval] at a1 a2 b1 b2
 have r:=fs_ok ha.1 hb.1 (by have:=ab_tri (fv a.1) (-fv b.1); rw [ab_neg] at this; have e : fv a.1 + -fv b.1 = fv a.1 - fv b.1:=by grind
                             rw [e] at this; grind)
 have i:=fs_ok ha.2 hb.2 (by have:=ab_tri (fv a.2) (-fv b.2); rw [ab_neg] at this; have e : fv a.2 + -fv b.2 = fv a.2 - fv b.2:=by grind
                             rw [e] at this; grind)
 exact ⟨r.2.2,i.2.2⟩
theorem cmul_some (a b : Nat × Nat) (ha : cok a) (hb : cok b) (h3 : n2 (cval a) * n2 (cval b) <= tq * tq) : CMul a b:=by
 obtain ⟨p,hp⟩ : ∃ p,p = fv a.1:=⟨_,rfl⟩
 obtain ⟨q,hq⟩ : ∃ q,q = fv a.2:=⟨_,rfl⟩
 obtain ⟨c,hc⟩ : ∃ c,c = fv b.1:=⟨_,rfl⟩
 obtain ⟨d,hd⟩ : ∃ d,d = fv b.2:=⟨_,rfl⟩
 have pt:=tq_pos
 have tt:=tq_top
 have te : 2 <= tq:=by have:=tq_big; have:=pw_two (a:=1000) (by omega); grind
 have el:=eta_le
 have pe:=eta_pos
 have ul : uu <= 1 / 4:=by decide +kernel
 have hN : n2 (cval a) * n2 (cval b) = (p * p + q * q) * (c * c + d * d):=by simp only [n2,cval]; rw [hp,hq,hc,hd]
 rw [hN] at h3
 have sP:=cs_le p q c d
 have sQ:=cs_le p q d c
 have eQ : (p * p + q * q) * (d * d + c * c) = (p * p + q * q) * (c * c + d * d):=by grind
 rw [eQ] at sQ
 have n1:=ab_nonneg (p * c)
 have n2':=ab_nonneg (q * d)
 have n3:=ab_nonneg (p * d)
 have n4:=ab_nonneg (q * c)
 have lP : ab (p * c) + ab (q * d) <= tq:=le_of_sq (Rat.le_of_lt pt) (Rat.le_trans sP h3)
 have lQ : ab (p * d) + ab (q * c) <= tq:=le_of_sq (Rat.le_of_lt pt) (Rat.le_trans sQ h3)
 have F1:=fm_ok ha.1 hb.1 (by rw [<- hp,<- hc]; grind)
 have F2:=fm_ok ha.2 hb.2 (by rw [<- hq,<- hd]; grind)
 have F3:=fm_ok ha.1 hb.2 (by rw [<- hp,<- hd]; grind)
 have F4:=fm_ok ha.2 hb.1 (by rw [<- hq,<- hc]; grind)
 rw [<- hp,<- hc] at F1
 rw [<- hq,<- hd] at F2
 rw [<- hp,<- hd] at F3
 rw [<- hq,<- hc] at F4
 obtain ⟨f1,hf1⟩ : ∃ f,f = fv (fm a.1 b.1):=⟨_,rfl⟩
 obtain ⟨f2,hf2⟩ : ∃ f,f = fv (fm a.2 b.2):=⟨_,rfl⟩
 obtain ⟨f3,hf3⟩ : ∃ f,f = fv (fm a.1 b.2):=⟨_,rfl⟩
 obtain ⟨f4,hf4⟩ : ∃ f,f = fv (fm a.2 b.1):=⟨_,rfl⟩
 have E1:=F1.2.1
 have E2:=F2.2.1
 have E3:=F3.2.1
 have E4:=F4.2.1
 rw [<- hf1] at E1
 rw [<- hf2] at E2
 rw [<- hf3] at E3
 rw [<- hf4] at E4
 have near : ∀ {P f : Rat},ab (f - P) <= uu * ab P + eta -> ab P <= tq -> ab f <= 2 * tq:=fun {P f} h hP=>by
  have h5:=ab_tri P (f - P)
  have e5 : P + (f - P) = f:=by grind
  rw [e5] at h5
  have h6:=Rat.mul_le_mul_of_nonneg_right ul (ab_nonneg P)
  grind
 have l1:=near E1 (by grind)
 have l2:=near E2 (by grind)
 have l3:=near E3 (by grind)
 have l4:=near E4 (by grind)
 have G1:=fs_ok F1.1 F2.1 (by rw [<- hf1,<- hf2]; have:=ab_tri f1 (-f2); rw [ab_neg] at this; have e : f1 + -f2 = f1 - f2:=by grind
                              rw [e] at this; grind)
 have G2:=fa_ok F3.1 F4.1 (by rw [<- hf3,<- hf4]; have:=ab_tri f3 f4; grind)
 exact ⟨⟨F1.2.2,F2.2.2⟩,⟨F3.2.2,F4.2.2⟩,G1.2.2,G2.2.2⟩
noncomputable def NG : Near ((Nat × Nat) × Prop) where
 val:=fun z=>cval z.1
 ok:=fun z=>cok z.1 /\ z.2
 add:=fun a b=>(cadd a.1 b.1,(a.2 /\ b.2) /\ CAdd a.1 b.1)
 sub:=fun a b=>(csub a.1 b.1,(a.2 /\ b.2) /\ CSub a.1 b.1)
 mul:=fun a b=>(cmul a.1 b.1,(a.2 /\ b.2) /\ CMul a.1 b.1)
 u:=uu
 mu:=muF
 theta:=thF
 big:=tq * tq
 pu:=NF.pu
 pmu:=NF.pmu
 hadd:=fun a b ha hb h1 h2=>⟨⟨(cadd_ok a.1 b.1 ha.1 hb.1 h1 h2).1,⟨ha.2,hb.2⟩,cadd_some a.1 b.1 ha.1 hb.1 h1 h2⟩,(cadd_ok a.1 b.1 ha.1 hb.1 h1 h2).2⟩
 hsub:=fun a b ha hb h1 h2=>⟨⟨(csub_ok a.1 b.1 ha.1 hb.1 h1 h2).1,⟨ha.2,hb.2⟩,csub_some a.1 b.1 ha.1 hb.1 h1 h2⟩,(csub_ok a.1 b.1 ha.1 hb.1 h1 h2).2⟩
 hbig:=NF.hbig
 hmul:=fun a b ha hb h1 h2 h3=>⟨⟨(cmul_ok a.1 b.1 ha.1 hb.1 h1 h2 h3).1,⟨ha.2,hb.2⟩,cmul_some a.1 b.1 ha.1 hb.1 h3⟩,(cmul_ok a.1 b.1 ha.1 hb.1 h1 h2 h3).2⟩
theorem net_fst (W : Nat -> Nat -> (Nat × Nat) × Prop) : ∀ (k : Nat) (x : Nat -> (Nat × Nat) × Prop) (j : Nat),(net NG.add NG.sub NG.mul W k x j).1 = net cadd csub cmul (fun k j=>(W k j).1) k (fun i=>(x i).1) j
 | 0,x,j=>rfl
 | k + 1,x,j=>by
   have he:=fun j=>net_fst W k (ev x) j
   have ho:=fun j=>net_fst W k (od x) j
   simp only [net]
   split
   ·show cadd _ (cmul _ _) = _
    rw [he,ho]; rfl
   ·show csub _ (cmul _ _) = _
    rw [he,ho]; rfl
noncomputable def rootsG {W : Nat -> Nat -> Nat × Nat} {C : Nat -> Nat -> Cx} {K : Nat} (hK : K <= 14) (hW : ∀ k j,k < K -> j < 2 ^ k -> cok (W k j) /\ n2 (cval (W k j)) <= omF * omF /\ n2 (Cx.sub (cval (W k j)) (C k j)) <= rhoF * rhoF) (hC : ∀ k j,k < K -> j < 2 ^ k -> n2 (C k j) <= 1 + tauF) : Roots NG (fun k j=>(W k j,True)) C K where
 om:=omF
 rho:=rhoF
 tau:=tauF
 kap:=kapF
 phi:=phiF
 eps:=epsF
 pom:=(rootsF hK hW hC).pom
 prho:=(rootsF hK hW hC).prho
 ptau:=(rootsF hK hW hC).ptau
 pkap:=(rootsF hK hW hC).pkap
 pphi:=(rootsF hK hW hC).pphi
 peps:=(rootsF hK hW hC).peps
 pth:=(rootsF hK hW hC).pth
 lom:=(rootsF hK hW hC).lom
 lmu:=(rootsF hK hW hC).lmu
 lkap:=(rootsF hK hW hC).lkap
 lge:=(rootsF hK hW hC).lge
 hth:=(rootsF hK hW hC).hth
 hW:=fun k j hk hj=>⟨⟨(hW k j hk hj).1,trivial⟩,(hW k j hk hj).2⟩
 hC:=hC
 step:=(rootsF hK hW hC).step
end
section
open Cx (n2)
open Fl
def RootsOk (W : Nat -> Nat -> Nat × Nat) (C : Nat -> Nat -> Cx) (K : Nat) : Prop:=(∀ k j,k < K -> j < 2 ^ k -> cok (W k j) /\ n2 (cval (W k j)) <= omF * omF /\ n2 (Cx.sub (cval (W k j)) (C k j)) <= rhoF * rhoF) /\ (∀ k j,k < K -> j < 2 ^ k -> n2 (C k j) <= 1 + tauF)
theorem bigF {k : Nat} (hk : k <= 14) {M : Rat} (pM : 0 <= M) (hM : M <= pw 400) {x : Nat -> Cx} (hx : ∀ i,i < 2 ^ k -> n2 (x i) <= M) : 40 * (pw k * Qf phiF k x) <= tq * tq:=by
 have h1:=Qf_le hx
 have pp:=phi_pos
 have ps:=phi_small
 have e200 : pw 200 = 1606938044258990275541962092341162602522202993782792835301376:=by decide +kernel
 have phi1 : phiF <= 1:=by rw [e200] at ps; grind
 have uM : pw k <= 16384:=by
  have h1:=pw_le hk
  have : pw 14 = 16384:=by decide +kernel
  grind
 have pk:=Rat.le_of_lt (pw_pos k)
 have h2:=sq_le pk (show (0 : Rat) <= 16384 by decide) uM
 have h3:=Rat.mul_le_mul_of_nonneg_right h2 (show 0 <= M + phiF by grind)
 have h4 : 1 <= tq:=by have h:=tq_big; have:=pw_one 1000; grind
 have h5 : pw 500 <= tq:=Rat.le_trans (pw_le (by omega)) tq_big
 have h6:=rmul_le h4 (Rat.le_of_lt tq_pos)
 have h7 : 40 * (16384 * 16384) * (pw 400 + 1) <= pw 500:=by decide +kernel
 have h8 : M + phiF <= pw 400 + 1:=by grind
 have h9:=rmul_le h8 (show (0 : Rat) <= 40 * (16384 * 16384) by decide +kernel)
 grind
theorem step_at {W : Nat -> Nat -> Nat × Nat} {C : Nat -> Nat -> Cx} {K k : Nat} (hK : K <= 14) (R : RootsOk W C K) (hk : k + 1 <= K) (y : Nat -> Nat × Nat) (hy : ∀ i,i < 2 ^ (k + 1) -> cok (y i)) {M : Rat} (pM : 0 <= M) (hM : M <= pw 400) (hb : ∀ i,i < 2 ^ (k + 1) -> n2 (cval (y i)) <= M) (j : Nat) (hj : j < 2 ^ k) :
  CMul (W k j) (net cadd csub cmul W k (od y) j) /\ CAdd (net cadd csub cmul W k (ev y) j) (cmul (W k j) (net cadd csub cmul W k (od y) j)) /\ CSub (net cadd csub cmul W k (ev y) j) (cmul (W k j) (net cadd csub cmul W k (od y) j)):=by
 have h:=(net_err (rootsG hK R.1 R.2) (k + 1) hk (fun i=>(y i,True)) (fun i hi=>⟨hy i hi,trivial⟩) (bigF (by omega) pM hM hb)).1
 have hp : 2 ^ (k + 1) = 2 ^ k + 2 ^ k:=by rw [Nat.pow_succ]; omega
 have h1:=(h j (by omega)).2
 have h2:=(h (2 ^ k + j) (by omega)).2
 simp only [net] at h1 h2
 rw [if_pos hj] at h1
 rw [if_neg (by omega),Nat.add_sub_cancel_left] at h2
 have eo:=net_fst (fun k j=>(W k j,True)) k (od fun i=>(y i,True)) j
 have ee:=net_fst (fun k j=>(W k j,True)) k (ev fun i=>(y i,True)) j
 have eo' : (fun i=>((od fun i=>(y i,True)) i : (Nat × Nat) × Prop).1) = od y:=rfl
 have ee' : (fun i=>((ev fun i=>(y i,True)) i : (Nat × Nat) × Prop).1) = ev y:=rfl
 rw [eo'] at eo
 rw [ee'] at ee
 obtain ⟨⟨_,⟨_,q1⟩⟩,q2⟩:=h1
 obtain ⟨_,q3⟩:=h2
 rw [eo] at q1
 refine ⟨q1,?_,?_⟩
 ·have q2' : CAdd (net NG.add NG.sub NG.mul (fun k j=>(W k j,True)) k (ev fun i=>(y i,True)) j).1 (cmul (W k j) (net NG.add NG.sub NG.mul (fun k j=>(W k j,True)) k (od fun i=>(y i,True)) j).1):=q2
  rw [eo,ee] at q2'
  exact q2'
 ·have q3' : CSub (net NG.add NG.sub NG.mul (fun k j=>(W k j,True)) k (ev fun i=>(y i,True)) j).1 (cmul (W k j) (net NG.add NG.sub NG.mul (fun k j=>(W k j,True)) k (od fun i=>(y i,True)) j).1):=q3
  rw [eo,ee] at q3'
  exact q3'
theorem stepOk_net {W : Nat -> Nat -> Nat × Nat} {C : Nat -> Nat -> Cx} {K : Nat} (hK : K <= 14) (R : RootsOk W C K) (x : Nat -> Nat × Nat) (hx : ∀ i,i < 2 ^ K -> cok (x i)) {M : Rat} (pM : 0 <= M) (hM : M <= pw 400) (hb : ∀ i,i < 2 ^ K -> n2 (cval (x i)) <= M) : StepOk W K x:=by
 intro k p hk hp hpK
 obtain ⟨L,hL⟩ : ∃ L,L = K - (k + 1):=⟨_,rfl⟩
 obtain ⟨b,hbb⟩ : ∃ b,b = p / 2 ^ (k + 1):=⟨_,rfl⟩
 obtain ⟨j,hj⟩ : ∃ j,j = p % 2 ^ (k + 1):=⟨_,rfl⟩
 have e2 : 2 ^ (k + 1) = 2 * 2 ^ k:=Nat.pow_succ'
 have pk:=Nat.two_pow_pos k
 have hpe : p = b * 2 ^ (k + 1) + j:=by rw [hbb,hj,Nat.mul_comm]; exact (Nat.div_add_mod p _).symm
 rw [<- hj] at hp
 have hpk : p % 2 ^ k = j:=by
  rw [hpe,e2,show b * (2 * 2 ^ k) + j = 2 ^ k * (2 * b) + j by rw [Nat.mul_comm b,Nat.mul_comm 2,Nat.mul_assoc],Nat.mul_add_mod,Nat.mod_eq_of_lt hp]
 have hKL : 2 ^ K = 2 ^ (k + 1) * 2 ^ L:=by rw [<- Nat.pow_add]; congr 1; omega
 have hrev:=rev_lt L b
 have hKk : K - k = L + 1:=by omega
 have hin : ∀ i,i < 2 ^ (k + 1) -> i * 2 ^ L + rev L b < 2 ^ K:=fun i hi=>by
  have h1 : (i + 1) * 2 ^ L <= 2 ^ (k + 1) * 2 ^ L:=Nat.mul_le_mul_right _ hi
  rw [Nat.add_mul,Nat.one_mul] at h1
  rw [hKL]; omega
 obtain ⟨y,hy⟩ : ∃ y : Nat -> Nat × Nat,y = fun i=>x (i * 2 ^ L + rev L b):=⟨_,rfl⟩
 have f1 : LV W K x k p = net cadd csub cmul W k (ev y) j:=by
  have h:=lvl_net cadd csub cmul W K x k (by omega) (2 * b) j hp
  rw [show 2 * b * 2 ^ k + j = p by rw [hpe,e2,Nat.mul_comm 2 b,Nat.mul_assoc]] at h
  unfold LV
  rw [h,hKk,rev_even]
  congr 1
  funext i
  rw [hy]
  simp only [ev]
  congr 2
  rw [Nat.pow_succ',Nat.mul_comm 2 i,Nat.mul_assoc]
 have f2 : LV W K x k (p + 2 ^ k) = net cadd csub cmul W k (od y) j:=by
  have h:=lvl_net cadd csub cmul W K x k (by omega) (2 * b + 1) j hp
  rw [show (2 * b + 1) * 2 ^ k + j = p + 2 ^ k by rw [hpe,e2,Nat.add_mul,Nat.one_mul,Nat.mul_comm 2 b,Nat.mul_assoc]; omega] at h
  unfold LV
  rw [h,hKk,rev_odd]
  congr 1
  funext i
  rw [hy]
  simp only [od]
  congr 1
  rw [Nat.pow_succ',Nat.add_mul,Nat.one_mul,Nat.mul_comm 2 i,Nat.mul_assoc]
  omega
 rw [hpk,f1,f2]
 exact step_at hK R (by omega) y (fun i hi=>by rw [hy]; exact hx _ (hin i hi)) pM hM (fun i hi=>by rw [hy]; exact hb _ (hin i hi)) j hp
theorem net_bound {W : Nat -> Nat -> Nat × Nat} {C : Nat -> Nat -> Cx} {K : Nat} (hK : K <= 14) (R : RootsOk W C K) (x : Nat -> Nat × Nat) (hx : ∀ i,i < 2 ^ K -> cok (x i)) {M : Rat} (pM : 0 <= M) (hM : M <= pw 400) (hb : ∀ i,i < 2 ^ K -> n2 (cval (x i)) <= M) (j : Nat) (hj : j < 2 ^ K) :
  cok (net cadd csub cmul W K x j) /\ n2 (cval (net cadd csub cmul W K x j)) <= pw 40 * (M + 1):=by
 have pK:=pw_pos K
 have h:=net_err (rootsF hK R.1 R.2) K (Nat.le_refl _) x hx (bigF hK pM hM hb)
 refine ⟨h.1 j hj,?_⟩
 obtain ⟨Su,hSu⟩ : ∃ S,S = pw K * Qf phiF K (fun i=>cval (x i)):=⟨_,rfl⟩
 have h2 : N2 (2 ^ K) (dif (fun j=>cval (net cadd csub cmul W K x j)) (netC C K (fun i=>cval (x i)))) <= epsF K * epsF K * Su:=by rw [hSu]; exact h.2
 have pS : 0 <= Su:=by rw [hSu]; exact Rat.mul_nonneg (Rat.le_of_lt pK) (Qf_nonneg (Rat.le_of_lt phi_pos) K _)
 have size : pw K * N2 (2 ^ K) (fun i=>cval (x i)) <= Su:=by
  rw [hSu]
  refine rmul_le ?_ (Rat.le_of_lt pK)
  have:=Rat.mul_nonneg (Rat.le_of_lt pK) (Rat.le_of_lt phi_pos)
  unfold Qf; grind
 have GU : N2 (2 ^ K) (netC C K (fun i=>cval (x i))) <= gamK tauF K * gamK tauF K * Su:=by
  have h:=netC_size (show 0 <= tauF by decide +kernel) R.2 K (Nat.le_refl _) (fun i=>cval (x i))
  exact Rat.le_trans h (rmul_le size (sq_nonneg _))
 have lge:=lgeF K (by omega)
 have pe:=pepsF K (by omega)
 have gp:=gamK_pos (show 0 <= tauF by decide +kernel) K
 have four : (gamK tauF K + epsF K) * (gamK tauF K + epsF K) <= 4:=by have:=sq_le (show 0 <= gamK tauF K + epsF K by grind) (show (0 : Rat) <= 2 by decide) lge; grind
 have h3:=N2_off (by grind) pe pS GU h2
 have h4:=N2_at (fun j=>cval (net cadd csub cmul W K x j)) hj
 have h5:=Rat.mul_le_mul_of_nonneg_right four pS
 have h6 : Su <= pw K * pw K * (M + phiF):=by rw [hSu]; exact Qf_le hb
 have ps:=phi_small
 have e200 : pw 200 = 1606938044258990275541962092341162602522202993782792835301376:=by decide +kernel
 have phi1 : phiF <= 1:=by rw [e200] at ps; have:=phi_pos; grind
 have uM : pw K <= 16384:=by
  have h1:=pw_le hK
  have : pw 14 = 16384:=by decide +kernel
  grind
 have h7:=sq_le (Rat.le_of_lt pK) (show (0 : Rat) <= 16384 by decide) uM
 have h8:=Rat.mul_le_mul_of_nonneg_right h7 (show 0 <= M + 1 by grind)
 have h9:=rmul_le (show M + phiF <= M + 1 by grind) (Rat.mul_nonneg (Rat.le_of_lt pK) (Rat.le_of_lt pK))
 have e40 : pw 40 = 1099511627776:=by decide +kernel
 rw [e40]
 grind
end
end Go.Proofs.YtnpanpkahbcecaaGreatDoor

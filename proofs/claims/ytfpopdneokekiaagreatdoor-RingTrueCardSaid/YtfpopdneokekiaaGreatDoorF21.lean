/-
Walk: angle's near of a reduced angle, Near.
-/
import Derived.Test.YtfpopdneokekiaaGreatDoorF20
import Derived.Deep.RegionHeld3
import Derived.Lib.Hide
set_option linter.unusedVariables false
set_option linter.unusedSimpArgs false
namespace Go.Proofs.YtfpopdneokekiaaGreatDoor
section
open Go.RowKit
theorem word_info : (Tryz.prog.info? 235).map (fun i=>(i.zero,i.size,i.bytes)) = some (some (.int .u64 0),1,8):=by kernel_rfl
theorem BI.lt {w : World} {g : Nat} {z : Int} (h : BI w g z) : g < w.heap.size:=by obtain ⟨_,_,_,_,_,_,h⟩:=h; exact h
theorem BI.store {w : World} {g : Nat} {z : Int} (h : BI w g z) {p : Addr} (hp : p.block ≠ g) {u : Value} (hu : w.cell? p = some u) (hn : ∀ x,u ≠ .int .u64 x) (v : Value) : BI (w.setCell p v) g z:=by
 obtain ⟨A,n,c,⟨h1,h2⟩,⟨h3,h4⟩,h5,h6⟩:=h
 have o : ∀ q : Addr,q.block = g -> (w.setCell p v).cell? q = w.cell? q:=fun q hq=>World.cell?_setCell_other _ _ _ _ (fun e=>hp (by rw [e]; exact hq))
 exact ⟨A,n,c,⟨(o _ rfl).trans h1,(o _ rfl).trans h2⟩,⟨by simpa using h3,by simpa using h4⟩,⟨h5.1.store p u v hu hn,h5.2⟩,by simpa using h6⟩
def NumP (z : Int) (x : Int) (w : World) (e : Ending) (w' : World) : Prop:=∃ g,e = .returned (.agg #[.pointer (some ⟨g,0,none⟩),.int .i64 x]) /\ BI w' g z /\ w.heap.size <= g /\ Below w.heap.size w w'
set_option maxRecDepth 100000 in
set_option maxHeartbeats 2000000 in
theorem value_any (s : Bool) (A : Option Addr) (n c : Nat) (x : Int) (N : Nat) (w : World) (h : NU w A n c N) :
  Calls Tryz.prog 181 #[.agg #[.bool s,.slice A n c,.int .i64 x]] w (NumP (sgnI s N) x w):=by
 obtain ⟨i0,hi0,hz0,hz1,hz2⟩:=info_parts word_info
 obtain ⟨hn1,hn2⟩:=h.len
 obtain ⟨l,hl⟩ : ∃ l,l = Nt.dg 18446744073709551616 N:=⟨_,rfl⟩
 have HU : Hid (U w A n c l):=Hd (by rw [hl]; exact h.1)
 have HN : Hid (N < BL):=Hd h.2
 have HL:=Hd hl
 -- the two blocks
 have hb1:=(Below.refl w.heap.size w).alloc (Nat.le_refl _) (.cells #[.bool s,.slice A n c,.int .i64 x] 158)
 have hb2:=hb1.alloc hb1.size (.cells #[.pointer none,.int .i64 0] 219)
 obtain ⟨W,hW⟩ : ∃ W,W = (w.alloc (.cells #[.bool s,.slice A n c,.int .i64 x] 158)).alloc (.cells #[.pointer none,.int .i64 0] 219):=⟨_,rfl⟩
 have hWs : W.heap.size = w.heap.size + 2:=by rw [hW]; simp
 have k0 : W.cell? ⟨w.heap.size,0,none⟩ = some (.bool s):=by rw [hW]; simp
 have k1 : W.cell? ⟨w.heap.size,1,none⟩ = some (.slice A n c):=by rw [hW]; simp
 have k2 : W.cell? ⟨w.heap.size,2,none⟩ = some (.int .i64 x):=by rw [hW]; simp
 have k3 : W.cell? ⟨w.heap.size + 1,0,none⟩ = some (.pointer none):=by rw [hW]; simp
 have k4 : W.cell? ⟨w.heap.size + 1,1,none⟩ = some (.int .i64 0):=by rw [hW]; simp
 have f3 : W.frozen? ⟨w.heap.size + 1,0,none⟩ = false:=by rw [hW]; simp
 have f4 : W.frozen? ⟨w.heap.size + 1,1,none⟩ = false:=by rw [hW]; simp
 rw [<- hW] at hb2
 have HBW:=Hd hb2
 have HWS:=Hd hWs
 have HK : Hid (∀ v : World,(∀ b : Nat,b = w.heap.size \/ b = w.heap.size + 1 -> ∀ j,v.cell? ⟨b,j,none⟩ = W.cell? ⟨b,j,none⟩ /\ v.frozen? ⟨b,j,none⟩ = W.frozen? ⟨b,j,none⟩) -> ((v.cell? ⟨w.heap.size,0,none⟩ = some (.bool s) /\ v.cell? ⟨w.heap.size,2,none⟩ = some (.int .i64 x)) /\ (v.cell? ⟨w.heap.size + 1,0,none⟩ = some (.pointer none) /\ v.cell? ⟨w.heap.size + 1,1,none⟩ = some (.int .i64 0)) /\ (v.frozen? ⟨w.heap.size + 1,0,none⟩ = false /\ v.frozen? ⟨w.heap.size + 1,1,none⟩ = false))):=Hd (fun v hv=>by
  have a:=fun j=>hv w.heap.size (.inl rfl) j
  have b:=fun j=>hv (w.heap.size + 1) (.inr rfl) j
  exact ⟨⟨(a 0).1.trans k0,(a 2).1.trans k2⟩,⟨(b 0).1.trans k3,(b 1).1.trans k4⟩,⟨(b 0).2.trans f3,(b 1).2.trans f4⟩⟩)
 clear k0 k2 k3 k4 f3 f4 hb1 hb2 hl h hn1 hWs
 go_enter Tryz.func181,Tryz.ntmps181
 go_wp2_with (refine wpList_make_full _ rfl (.tmp 9) (.tmp 9) 234 rfl w.heap.size 235 i0 _ 1 Tryz.underlying234 hi0 hz0 hz1 .i64 .i64 _ _ n rfl rfl (by omega) (by omega) (by rw [hz2]; omega) (by simp only [maxLen]; omega) (by rw [<- hW]; exact HBW.out.size) ?_; rw [<- hW]; intro w1 hown1 hg1; have HB1:=Hd ((Below.refl W.heap.size W).grown hg1 (Nat.le_refl _) (fun k hk=>by cases hk)); have ROW : Hid (RowV 235 w1 w.heap.size (w.heap.size + 1 + 1) n n (List.replicate n (.int .u64 0))):=Hd (by have h:=RowV.made rfl hown1; rw [HWS.out] at h; exact h); have q1:=(HB1.out.cell (p:=⟨w.heap.size,1,none⟩) (by show w.heap.size < W.heap.size; have:=HWS.out; omega)).trans k1; clear hown1 hg1)
 clear k1 hW
 go_loopw [14] (fun iv wr=>∃ (i : Nat) (o : List Value),iv = .int .i64 i /\ i <= n /\ Hid (o.take i = (l.map (Value.int .u64)).take i) /\ Hid (RowV 235 wr w.heap.size (w.heap.size + 1 + 1) n n o) /\ Hid (Below W.heap.size W wr)) (fun iv _=>n - (intOf iv).toNat)
 case atStart=>exact ⟨0,List.replicate n (.int .u64 0),rfl,Nat.zero_le _,Hd (by simp),ROW,HB1⟩
 case round =>
  clear ROW HB1 q1
  obtain ⟨i,o,rfl,hi,HI,HR,HB⟩:=hrel
  by_cases hlt : i < n
  ·obtain ⟨x0,hx⟩ : ∃ x,l[i]? = some x:=⟨_,List.getElem?_eq_getElem (by have:=HU.out.1; omega)⟩
   obtain ⟨ad,rfl,_,hcx⟩:=(HU.out.below (HBW.out.trans (HB.out.mono (by have:=HWS.out; omega)))).2.2.2 i x0 hx
   obtain ⟨v0,hv0⟩ : ∃ v0,o[i]? = some v0:=⟨_,List.getElem?_eq_getElem (by have:=HR.out.len; omega)⟩
   have hcv:=HR.out.cell i v0 hv0
   have hfr:=HR.out.free i
   have HRN:=Hd (HR.out.set i (.int .u64 x0))
   have HBN:=Hd (HB.out.setCell (p:=⟨w.heap.size + 1 + 1,i,none⟩) (by show W.heap.size <= w.heap.size + 1 + 1; have:=HWS.out; omega) (.int .u64 x0))
   have HIN : Hid ((o.set i (.int .u64 x0)).take (i + 1) = (l.map (Value.int .u64)).take (i + 1)):=Hd (by
    have hol:=HR.out.len
    rw [List.take_add_one,List.getElem?_set_self (by omega),List.take_set_of_le (Nat.le_refl i),HI.out,List.take_add_one,List.getElem?_map,hx]; rfl)
   clear hv0 hx
   go_wp2_with fail
   exact ⟨⟨i + 1,_,by go_num,hlt,HIN,HRN,HBN⟩,by simp [intOf]; omega⟩
  ·obtain rfl : n = i:=by omega
   have HOL : Hid (o = l.map (Value.int .u64)):=Hd (by
    have h1:=HI.out
    rw [List.take_of_length_le (by have:=HR.out.len; omega),List.take_of_length_le (by rw [List.length_map]; have:=HU.out.1; omega)] at h1
    exact h1)
   have hnu : NU wr (some ⟨w.heap.size + 1 + 1,0,none⟩) n n N:=by
    have h1:=HR.out.uv
    rw [HOL.out] at h1
    exact ⟨by rw [<- HL.out]; exact h1.u,HN.out⟩
   obtain ⟨b1,b2⟩:=BI.new wr 222
   have HSB:=Hd (bsetBits_any wr.heap.size 0 (some ⟨w.heap.size + 1 + 1,0,none⟩) n n N _ b1 (hnu.below b2))
   have HB2:=Hd ((HBW.out.trans (HB.out.mono (by have:=HWS.out; omega))).trans (b2.mono (by have:=HB.out.size; have:=HWS.out; omega)))
   have HKK : Hid (∀ v : World,Tr [wr.heap.size] (wr.alloc (.cells #[.bool false,.slice none 0 0] 222)) v -> ((v.cell? ⟨w.heap.size,0,none⟩ = some (.bool s) /\ v.cell? ⟨w.heap.size,2,none⟩ = some (.int .i64 x)) /\ (v.cell? ⟨w.heap.size + 1,0,none⟩ = some (.pointer none) /\ v.cell? ⟨w.heap.size + 1,1,none⟩ = some (.int .i64 0)) /\ (v.frozen? ⟨w.heap.size + 1,0,none⟩ = false /\ v.frozen? ⟨w.heap.size + 1,1,none⟩ = false))):=Hd (fun v ht=>HK.out v (fun b hb j=>by
    have hbW : b < W.heap.size:=by have:=HWS.out; omega
    have hbr : b < wr.heap.size:=Nat.lt_of_lt_of_le hbW HB.out.size
    have c1:=ht.cell ⟨b,j,none⟩ (Nat.lt_of_lt_of_le hbr b2.size) (fun k hk e=>by rw [List.mem_singleton.1 hk] at e; exact absurd e (by show b ≠ wr.heap.size; omega))
    have c2:=b2.cell (p:=⟨b,j,none⟩) hbr
    have c3:=HB.out.cell (p:=⟨b,j,none⟩) hbW
    have d2:=b2.frozen (p:=⟨b,j,none⟩) hbr
    have d3:=HB.out.frozen (p:=⟨b,j,none⟩) hbW
    exact ⟨c1.1.trans (c2.trans c3),c1.2.trans (d2.trans d3)⟩))
   have HGE : Hid (w.heap.size + 2 <= wr.heap.size):=Hd (by have:=HB.out.size; have:=HWS.out; omega)
   have FIN : Hid (∀ (v : World) (z : Int),BI v wr.heap.size z -> Tr [wr.heap.size] (wr.alloc (.cells #[.bool false,.slice none 0 0] 222)) v -> (((v.setCell ⟨w.heap.size + 1,0,none⟩ (.pointer (some ⟨wr.heap.size,0,none⟩))).setCell ⟨w.heap.size + 1,1,none⟩ (.int .i64 x)).cell? ⟨w.heap.size + 1,0,none⟩ = some (.pointer (some ⟨wr.heap.size,0,none⟩)) /\ ((v.setCell ⟨w.heap.size + 1,0,none⟩ (.pointer (some ⟨wr.heap.size,0,none⟩))).setCell ⟨w.heap.size + 1,1,none⟩ (.int .i64 x)).cell? ⟨w.heap.size + 1,1,none⟩ = some (.int .i64 x)) /\ BI ((v.setCell ⟨w.heap.size + 1,0,none⟩ (.pointer (some ⟨wr.heap.size,0,none⟩))).setCell ⟨w.heap.size + 1,1,none⟩ (.int .i64 x)) wr.heap.size z /\ Below w.heap.size w ((v.setCell ⟨w.heap.size + 1,0,none⟩ (.pointer (some ⟨wr.heap.size,0,none⟩))).setCell ⟨w.heap.size + 1,1,none⟩ (.int .i64 x))):=Hd (fun v z hbi ht=>by
    obtain ⟨_,⟨c1,c2⟩,_⟩:=HKK.out v ht
    have n01 : (⟨w.heap.size + 1,0,none⟩ : Addr) ≠ ⟨w.heap.size + 1,1,none⟩:=by simp
    have hge:=HGE.out
    have c2' : (v.setCell ⟨w.heap.size + 1,0,none⟩ (.pointer (some ⟨wr.heap.size,0,none⟩))).cell? ⟨w.heap.size + 1,1,none⟩ = some (.int .i64 0):=(World.cell?_setCell_other _ _ _ _ n01).trans c2
    refine ⟨⟨?_,World.cell?_setCell_same _ _ _ c2'⟩,?_,?_⟩
    ·rw [World.cell?_setCell_other _ _ _ _ n01.symm]; exact World.cell?_setCell_same _ _ _ c1
    ·exact (hbi.store (by show w.heap.size + 1 ≠ wr.heap.size; omega) c1 (fun y h=>by cases h) _).store (by show w.heap.size + 1 ≠ wr.heap.size; omega) c2' (fun y h=>by cases h) _
    ·exact (((HB2.out.trans (ht.below _ HB2.out.size (fun k hk=>by rw [List.mem_singleton.1 hk]; omega))).setCell (p:=⟨w.heap.size + 1,0,none⟩) (by show w.heap.size <= w.heap.size + 1; omega) _).setCell (p:=⟨w.heap.size + 1,1,none⟩) (by show w.heap.size <= w.heap.size + 1; omega) _))
   clear b1 b2 hnu HK
   go_wp2_with fail
   refine HSB.out.mono ?_
   rintro e w3 ⟨rfl,hbi,ht⟩
   have HBI:=Hd hbi
   have HT:=Hd ht
   obtain ⟨⟨a0,a2⟩,⟨a3,a4⟩,⟨f3,f4⟩⟩:=HKK.out w3 ht
   clear hbi ht
   cases s
   ·have HF:=Hd (FIN.out w3 N HBI.out HT.out)
    go_wp2_with fail
    refine bodyPost_ret (v:=.agg #[.pointer (some ⟨wr.heap.size,0,none⟩),.int .i64 x]) (by simp [results,Tryz.results181,go_sem,HF.out.1.1,HF.out.1.2]) rfl ⟨_,rfl,HF.out.2.1,by have:=HGE.out; omega,HF.out.2.2⟩
   ·have HNG:=Hd (bneg_any wr.heap.size wr.heap.size N N w3 HBI.out HBI.out)
    go_wp2_with fail
    refine HNG.out.mono ?_
    rintro e w4 ⟨rfl,hbi,ht⟩
    have HT2:=Hd (HT.out.trans ht)
    have HF:=Hd (FIN.out w4 _ hbi HT2.out)
    clear a0 a2 a3 a4 f3 f4
    obtain ⟨⟨a0,a2⟩,⟨a3,a4⟩,⟨f3,f4⟩⟩:=HKK.out w4 HT2.out
    clear hbi ht
    go_wp2_with fail
    refine bodyPost_ret (v:=.agg #[.pointer (some ⟨wr.heap.size,0,none⟩),.int .i64 x]) (by simp [results,Tryz.results181,go_sem,HF.out.1.1,HF.out.1.2]) rfl ⟨_,rfl,HF.out.2.1,by have:=HGE.out; omega,HF.out.2.2⟩
theorem cut_up (g : Nat) (z x last : Int) (w : World) (hg : BI w g z) (h : last <= x) (h1 : -100000 <= last) (h2 : x <= last + 100000) (hz : 2 ^ (x - last).toNat * z.natAbs < BL) :
  Calls Tryz.prog 184 #[.agg #[.pointer (some ⟨g,0,none⟩),.int .i64 x],.int .i64 last,.bool false] w (PPost (2 ^ (x - last).toNat * z) w):=by
 have hb1:=(Below.refl w.heap.size w).alloc (Nat.le_refl _) (.cells #[.pointer (some ⟨g,0,none⟩),.int .i64 x] 219)
 obtain ⟨W,hW⟩ : ∃ W,W = w.alloc (.cells #[.pointer (some ⟨g,0,none⟩),.int .i64 x] 219):=⟨_,rfl⟩
 have k0 : W.cell? ⟨w.heap.size,0,none⟩ = some (.pointer (some ⟨g,0,none⟩)):=by rw [hW]; simp
 have k1 : W.cell? ⟨w.heap.size,1,none⟩ = some (.int .i64 x):=by rw [hW]; simp
 have hWs : W.heap.size = w.heap.size + 1:=by rw [hW]; simp
 rw [<- hW] at hb1
 obtain ⟨b1,b2⟩:=BI.new W 222
 rw [hWs] at b1
 have HL:=Hd (blsh_any (w.heap.size + 1) g 0 z (x - last).toNat _ b1 ((hg.below hb1).below b2) (by omega) hz)
 have HB : Hid (Below w.heap.size w (W.alloc (.cells #[.bool false,.slice none 0 0] 222))):=Hd (hb1.trans (b2.mono (by omega)))
 have q0:=(b2.cell (p:=⟨w.heap.size,0,none⟩) (by show w.heap.size < W.heap.size; omega)).trans k0
 have q1:=(b2.cell (p:=⟨w.heap.size,1,none⟩) (by show w.heap.size < W.heap.size; omega)).trans k1
 have HWS:=Hd hWs
 obtain ⟨d,hd⟩ : ∃ d,d = (x - last).toNat:=⟨_,rfl⟩
 have e1 : IntKind.i64.wrap (x - last) = (d : Int):=by rw [IntKind.wrap_i64]; omega
 have e2 : IntKind.u64.wrap (d : Int) = (d : Int):=by rw [IntKind.wrap_u64]; omega
 have e3 : decide (last <= x) = true:=decide_eq_true h
 rw [<- hd] at HL ⊢
 have HW:=Hd hW
 clear hg h h1 h2 hz hb1 b1 b2 hd hWs hW q0 q1 k0 k1
 go_enter Tryz.func184,Tryz.ntmps184
 go_wp2_with fail
 rw [<- HW.out]
 refine HL.out.mono ?_
 rintro e w2 hr
 have HR : Hid (∃ gg,e = .returned (.pointer (some ⟨gg,0,none⟩)) /\ BI w2 gg (2 ^ d * z) /\ w.heap.size <= gg /\ Below w.heap.size w w2):=Hd ⟨w.heap.size + 1,hr.1,hr.2.1,by omega,HB.out.trans (hr.2.2.below _ HB.out.size (fun k hk=>by rw [List.mem_singleton.1 hk]; omega))⟩
 obtain ⟨rfl,_,_⟩:=hr
 go_wp2
 go_ret
 obtain ⟨gg,a1,a2,a3,a4⟩:=HR.out
 exact ⟨gg,a1,a2,a3,a4⟩
theorem cut_down (g : Nat) (z x last : Int) (w : World) (hg : BI w g z) (h : x < last) (h1 : -100000 <= x) (h2 : last <= x + 100000) (hz : z.natAbs + 1 < BL) :
  Calls Tryz.prog 184 #[.agg #[.pointer (some ⟨g,0,none⟩),.int .i64 x],.int .i64 last,.bool false] w (PPost (z / 2 ^ (last - x).toNat) w):=by
 have hb1:=(Below.refl w.heap.size w).alloc (Nat.le_refl _) (.cells #[.pointer (some ⟨g,0,none⟩),.int .i64 x] 219)
 obtain ⟨W,hW⟩ : ∃ W,W = w.alloc (.cells #[.pointer (some ⟨g,0,none⟩),.int .i64 x] 219):=⟨_,rfl⟩
 have k0 : W.cell? ⟨w.heap.size,0,none⟩ = some (.pointer (some ⟨g,0,none⟩)):=by rw [hW]; simp
 have k1 : W.cell? ⟨w.heap.size,1,none⟩ = some (.int .i64 x):=by rw [hW]; simp
 have hWs : W.heap.size = w.heap.size + 1:=by rw [hW]; simp
 rw [<- hW] at hb1
 obtain ⟨b1,b2⟩:=BI.new W 222
 rw [hWs] at b1
 have HL:=Hd (brsh_any (w.heap.size + 1) g 0 z (last - x).toNat _ b1 ((hg.below hb1).below b2) (by omega) hz)
 have HB : Hid (Below w.heap.size w (W.alloc (.cells #[.bool false,.slice none 0 0] 222))):=Hd (hb1.trans (b2.mono (by omega)))
 have q0:=(b2.cell (p:=⟨w.heap.size,0,none⟩) (by show w.heap.size < W.heap.size; omega)).trans k0
 have q1:=(b2.cell (p:=⟨w.heap.size,1,none⟩) (by show w.heap.size < W.heap.size; omega)).trans k1
 have HWS:=Hd hWs
 obtain ⟨d,hd⟩ : ∃ d,d = (last - x).toNat:=⟨_,rfl⟩
 have e1 : IntKind.i64.wrap (last - x) = (d : Int):=by rw [IntKind.wrap_i64]; omega
 have e2 : IntKind.u64.wrap (d : Int) = (d : Int):=by rw [IntKind.wrap_u64]; omega
 have e3 : decide (last <= x) = false:=decide_eq_false (by omega)
 rw [<- hd] at HL ⊢
 have HW:=Hd hW
 clear hg h h1 h2 hz hb1 b1 b2 hd hWs hW q0 q1 k0 k1
 go_enter Tryz.func184,Tryz.ntmps184
 go_wp2_with fail
 rw [<- HW.out]
 refine HL.out.mono ?_
 rintro e w2 hr
 have HR : Hid (∃ gg,e = .returned (.pointer (some ⟨gg,0,none⟩)) /\ BI w2 gg (z / 2 ^ d) /\ w.heap.size <= gg /\ Below w.heap.size w w2):=Hd ⟨w.heap.size + 1,hr.1,hr.2.1,by omega,HB.out.trans (hr.2.2.below _ HB.out.size (fun k hk=>by rw [List.mem_singleton.1 hk]; omega))⟩
 obtain ⟨rfl,_,_⟩:=hr
 go_wp2
 go_ret
 obtain ⟨gg,a1,a2,a3,a4⟩:=HR.out
 exact ⟨gg,a1,a2,a3,a4⟩
end
section
open Go.RowKit
def FC (g0 g4 gm : Nat) (s : Bool) (A : Option Addr) (n c : Nat) (x : Int) (v : World) : Prop :=
 ((v.cell? ⟨g0,0,none⟩ = some (.bool s) /\ v.cell? ⟨g0,1,none⟩ = some (.slice A n c) /\ v.cell? ⟨g0,2,none⟩ = some (.int .i64 x)) /\ v.cell? ⟨g4,0,none⟩ = some (.pointer (some ⟨gm,0,none⟩)) /\ v.cell? ⟨g4,1,none⟩ = some (.int .i64 x)) /\ g0 < v.heap.size /\ g4 < v.heap.size
theorem FC.below {g0 g4 gm : Nat} {s : Bool} {A : Option Addr} {n c : Nat} {x : Int} {v v' : World} (h : FC g0 g4 gm s A n c x v) (hb : Below v.heap.size v v') : FC g0 g4 gm s A n c x v':=by
 obtain ⟨⟨⟨h1,h2,h3⟩,h4,h5⟩,l0,l4⟩:=h
 exact ⟨⟨⟨(hb.cell (p:=⟨g0,0,none⟩) l0).trans h1,(hb.cell (p:=⟨g0,1,none⟩) l0).trans h2,(hb.cell (p:=⟨g0,2,none⟩) l0).trans h3⟩,(hb.cell (p:=⟨g4,0,none⟩) l4).trans h4,(hb.cell (p:=⟨g4,1,none⟩) l4).trans h5⟩,Nat.lt_of_lt_of_le l0 hb.size,Nat.lt_of_lt_of_le l4 hb.size⟩
theorem FC.tr {g0 g4 gm : Nat} {s : Bool} {A : Option Addr} {n c : Nat} {x : Int} {v v' : World} {S : List Nat} (h : FC g0 g4 gm s A n c x v) (ht : Tr S v v') (n0 : g0 ∉ S) (n4 : g4 ∉ S) : FC g0 g4 gm s A n c x v':=by
 obtain ⟨⟨⟨h1,h2,h3⟩,h4,h5⟩,l0,l4⟩:=h
 have c0 : ∀ j,v'.cell? ⟨g0,j,none⟩ = v.cell? ⟨g0,j,none⟩:=fun j=>(ht.cell ⟨g0,j,none⟩ l0 (fun k hk e=>n0 (by rw [show g0 = k from e]; exact hk))).1
 have c4 : ∀ j,v'.cell? ⟨g4,j,none⟩ = v.cell? ⟨g4,j,none⟩:=fun j=>(ht.cell ⟨g4,j,none⟩ l4 (fun k hk e=>n4 (by rw [show g4 = k from e]; exact hk))).1
 exact ⟨⟨⟨(c0 0).trans h1,(c0 1).trans h2,(c0 2).trans h3⟩,(c4 0).trans h4,(c4 1).trans h5⟩,Nat.lt_of_lt_of_le l0 ht.size,Nat.lt_of_lt_of_le l4 ht.size⟩
def cutF (N : Nat) (x : Int) : Nat:=if (bitsN N : Int) + x - 55 <= x then N * 2 ^ (x - ((bitsN N : Int) + x - 55)).toNat else N / 2 ^ (((bitsN N : Int) + x - 55) - x).toNat
def nnF (N : Nat) (x : Int) : Nat:=if x < (bitsN N : Int) + x - 55 /\ cutF N x * 2 ^ (((bitsN N : Int) + x - 55) - x).toNat ≠ N then cutF N x ||| 1 else cutF N x
def wF (N : Nat) (x : Int) : Nat:=((bitsN N : Int) + x - 55 + 1076).toNat * 4503599627370496 + offN (nnF N x)
theorem cutF_le (N : Nat) (x : Int) (h : N ≠ 0) : 18014398509481984 <= cutF N x /\ cutF N x < 36028797018963968:=by
 obtain ⟨h1,h2,h3⟩:=Nt.bits_range N h
 unfold cutF
 obtain ⟨b,hb⟩ : ∃ b,b = bitsN N:=⟨_,rfl⟩
 rw [<- hb] at h1 h2 h3 ⊢
 split
 ·rename_i hc
  obtain ⟨k,hk⟩ : ∃ k : Nat,(x - ((b : Int) + x - 55)).toNat = k /\ b + k = 55:=⟨55 - b,by omega,by omega⟩
  rw [hk.1]
  have e1 : (18014398509481984 : Nat) = 2 ^ (b - 1) * 2 ^ k:=by rw [<- Nat.pow_add,show b - 1 + k = 54 by omega]
  have e2 : (36028797018963968 : Nat) = 2 ^ b * 2 ^ k:=by rw [<- Nat.pow_add,hk.2]
  rw [e1,e2]
  exact ⟨Nat.mul_le_mul_right _ h2,Nat.mul_lt_mul_of_pos_right h3 (Nat.two_pow_pos k)⟩
 ·rename_i hc
  obtain ⟨k,hk⟩ : ∃ k : Nat,(((b : Int) + x - 55) - x).toNat = k /\ b = 55 + k:=⟨b - 55,by omega,by omega⟩
  rw [hk.1]
  constructor
  ·rw [Nat.le_div_iff_mul_le (Nat.two_pow_pos k)]
   refine Nat.le_trans (Nat.le_of_eq ?_) h2
   rw [show (18014398509481984 : Nat) = 2 ^ 54 by decide,<- Nat.pow_add]; congr 1; omega
  ·refine Nat.div_lt_of_lt_mul (Nat.lt_of_lt_of_le h3 (Nat.le_of_eq ?_))
   rw [show (36028797018963968 : Nat) = 2 ^ 55 by decide,<- Nat.pow_add]; congr 1; omega
theorem or_one (c : Nat) : c ||| 1 = c + (1 - c % 2):=by
 have h:=Nat.or_div_two (a:=c) (b:=1)
 have h2:=Nat.or_mod_two_eq_one (a:=c) (b:=1)
 have h3 : (c ||| 1) / 2 = c / 2:=by rw [h]; simp
 have h4 : (c ||| 1) % 2 = 1:=h2.2 (.inr (by decide))
 omega
theorem nnF_le (N : Nat) (x : Int) (h : N ≠ 0) : 18014398509481984 <= nnF N x /\ nnF N x < 36028797018963968:=by
 have hc:=cutF_le N x h
 unfold nnF
 split
 ·rw [or_one]; omega
 ·exact hc
set_option maxRecDepth 100000 in
set_option maxHeartbeats 4000000 in
theorem dfloat_any (s : Bool) (A : Option Addr) (n c : Nat) (x : Int) (N : Nat) (w : World) (h : NU w A n c N) (ho : N % 2 = 1) (hN : N + 1 < BL) (hN2 : 2 ^ 60 * N < BL) (hx1 : -2000 <= x) (hx2 : x <= 2000) (ht1 : -900 <= (bitsN N : Int) + x) (ht2 : (bitsN N : Int) + x <= 900) :
  Calls Tryz.prog 174 #[.agg #[.bool s,.slice A n c,.int .i64 x]] w fun e w'=>e = .returned (.tuple #[.float .f64 (Fl.wd s (wF N x)),.int .i64 0]) /\ Below w.heap.size w w':=by
 obtain ⟨hn1,hn2⟩:=h.len
 have hN0 : N ≠ 0:=by omega
 have hbl:=bitsN_len N
 have hb:=(Below.refl w.heap.size w).alloc (Nat.le_refl _) (.cells #[.bool s,.slice A n c,.int .i64 x] 158)
 obtain ⟨W,hW⟩ : ∃ W,W = w.alloc (.cells #[.bool s,.slice A n c,.int .i64 x] 158):=⟨_,rfl⟩
 have k0 : W.cell? ⟨w.heap.size,0,none⟩ = some (.bool s):=by rw [hW]; simp
 have k1 : W.cell? ⟨w.heap.size,1,none⟩ = some (.slice A n c):=by rw [hW]; simp
 have k2 : W.cell? ⟨w.heap.size,2,none⟩ = some (.int .i64 x):=by rw [hW]; simp
 have hWs : W.heap.size = w.heap.size + 1:=by rw [hW]; simp
 rw [<- hW] at hb
 have HR:=Hd (right_odd s A n c x N W (h.below hb) ho (by omega) (by omega))
 have HV:=Hd (fun v (h2 : Below W.heap.size W v)=>value_any s A n c x N v ((h.below hb).below h2))
 have nz : ((n : Int) == 0) = false:=by
  have : n ≠ 0:=fun e=>hN0 (h.zero.1 e)
  simp; omega
 have HB:=Hd hb
 have HW:=Hd hW
 have HWS:=Hd hWs
 go_enter Tryz.func174,Tryz.ntmps174
 clear hb h hW hWs hn1 hbl hN0
 go_wp2_with fail
 rw [<- HW.out]
 refine HR.out.mono ?_
 rintro e w1 ⟨rfl,hb1⟩
 have HB1:=Hd hb1
 have q1:=(hb1.cell (p:=⟨w.heap.size,1,none⟩) (by show w.heap.size < W.heap.size; have:=HWS.out; omega)).trans k1
 have q0:=(hb1.cell (p:=⟨w.heap.size,0,none⟩) (by show w.heap.size < W.heap.size; have:=HWS.out; omega)).trans k0
 have q2:=(hb1.cell (p:=⟨w.heap.size,2,none⟩) (by show w.heap.size < W.heap.size; have:=HWS.out; omega)).trans k2
 clear hb1 k0 k1 k2
 go_wp2_with fail
 refine (HV.out _ HB1.out).mono ?_
 rintro e w2 ⟨gm,rfl,hbi,hge,hb2⟩
 have HB2:=Hd (HB1.out.trans (hb2.mono HB1.out.size))
 have l0 : w.heap.size < w1.heap.size:=by have:=HB1.out.size; have:=HWS.out; omega
 have hfc : FC w.heap.size w2.heap.size gm s A n c x (w2.alloc (.cells #[.pointer (some ⟨gm,0,none⟩),.int .i64 x] 219)):=by
  have r0:=(hb2.cell (p:=⟨w.heap.size,0,none⟩) l0).trans q0
  have r1:=(hb2.cell (p:=⟨w.heap.size,1,none⟩) l0).trans q1
  have r2:=(hb2.cell (p:=⟨w.heap.size,2,none⟩) l0).trans q2
  have hb3:=(Below.refl w2.heap.size w2).alloc (Nat.le_refl _) (.cells #[.pointer (some ⟨gm,0,none⟩),.int .i64 x] 219)
  have l2 : w.heap.size < w2.heap.size:=Nat.lt_of_lt_of_le l0 hb2.size
  exact ⟨⟨⟨(hb3.cell (p:=⟨w.heap.size,0,none⟩) l2).trans r0,(hb3.cell (p:=⟨w.heap.size,1,none⟩) l2).trans r1,(hb3.cell (p:=⟨w.heap.size,2,none⟩) l2).trans r2⟩,by simp,by simp⟩,Nat.lt_of_lt_of_le l2 hb3.size,by simp⟩
 have HFC:=Hd hfc
 have HBI:=Hd (hbi.below ((Below.refl w2.heap.size w2).alloc (Nat.le_refl _) (.cells #[.pointer (some ⟨gm,0,none⟩),.int .i64 x] 219)))
 have HB3:=Hd (HB2.out.alloc HB2.out.size (.cells #[.pointer (some ⟨gm,0,none⟩),.int .i64 x] 219))
 have HGE : Hid (w.heap.size < gm /\ gm < w2.heap.size):=Hd ⟨by omega,hbi.lt⟩
 clear hbi hge hb2 hfc q0 q1 q2 l0
 obtain ⟨⟨⟨a0,a1,a2⟩,a3,a4⟩,_,l4⟩:=HFC.out
 have HBT:=Hd (fun k=>bbitLen_any gm (sgnI s N) _ (HBI.out.below (Below.drewN' (Below.refl _ _) k)))
 rw [sgnI_abs] at HBT
 obtain ⟨b,hbb⟩ : ∃ b,b = bitsN N:=⟨_,rfl⟩
 obtain ⟨T,hT⟩ : ∃ T : Int,T = (b : Int) + x:=⟨_,rfl⟩
 obtain ⟨L,hL⟩ : ∃ L : Int,L = T - 55:=⟨_,rfl⟩
 obtain ⟨S2,hS2⟩ : ∃ S2 : Nat,(S2 : Int) = L + 1076:=⟨(L + 1076).toNat,by rw [<- hbb] at ht1; omega⟩
 have HS2 : Hid ((S2 : Int) = L + 1076 /\ L = T - 55 /\ T = (b : Int) + x /\ b = bitsN N /\ -900 <= T /\ T <= 900):=Hd ⟨hS2,hL,hT,hbb,by rw [hT,hbb]; exact ht1,by rw [hT,hbb]; exact ht2⟩
 rw [<- hbb] at ht1 ht2 HBT
 have t1 : -900 <= T:=by omega
 have t2 : T <= 900:=by omega
 have e1 : IntKind.i64.wrap ((b : Int) + x) = T:=by rw [IntKind.wrap_i64]; omega
 have e1' : (b : Int) + x = T:=hT.symm
 have e2 : decide ((1024 : Int) < T) = false:=decide_eq_false (by omega)
 have e3 : IntKind.i64.wrap (T - 55) = L:=by rw [IntKind.wrap_i64]; omega
 have e3' : T - 55 = L:=hL.symm
 have e4 : max L (-1076) = L:=by omega
 have e5 : decide (L <= T) = true:=decide_eq_true (by omega)
 have e6 : decide (T < L) = false:=decide_eq_false (by omega)
 -- the word
 have HN0 : Hid (N ≠ 0):=Hd (by omega)
 have hnn:=nnF_le N x HN0.out
 have hcc:=cutF_le N x HN0.out
 have hwf : wF N x = S2 * 4503599627370496 + offN (nnF N x):=by
  unfold wF; rw [show ((bitsN N : Int) + x - 55 + 1076).toNat = S2 by have:=HS2.out; omega]
 have hoff:=offN_le (nnF N x)
 obtain ⟨F,hF⟩ : ∃ F,F = wF N x:=⟨_,rfl⟩
 have hFb : F < 9218868437227405312:=by rw [hF,hwf]; have:=HS2.out; omega
 obtain ⟨nn,hn0⟩ : ∃ nn,nn = nnF N x:=⟨_,rfl⟩
 obtain ⟨C,hC0⟩ : ∃ C,C = cutF N x:=⟨_,rfl⟩
 have HEN:=Hd (fun v=>ends_any nn L S2 v (by rw [hn0]; exact hnn.1) (by rw [hn0]; exact hnn.2) (by omega) (by omega))
 have hFn : S2 * 4503599627370496 + offN nn = F:=by rw [hF,hwf,hn0]
 have hFi : ((S2 : Nat) * 4503599627370496 + offN nn : Nat) = F:=hFn
 rw [hFi] at HEN
 have hrg : Fl.rg F = F /\ Fl.sg F = false:=by unfold Fl.rg Fl.sg Fl.W; constructor; · omega
                                               ·simp; omega
 have HINF:=Hd (fun v=>isinf_any F v (by unfold Fl.W; omega))
 rw [hrg.1,decide_eq_false (show ¬ F = Fl.I by unfold Fl.I; omega)] at HINF
 have hng : ∀ w,(Op.unary .neg (.float .f64 F)).run Tryz.prog w = .ok (.float .f64 (Fl.ng F)) w:=fun w=>by
  rw [<- Fl.neg_word F (by unfold Fl.W; omega)]; rfl
 have HNG : Hid (Fl.wd true F = Fl.ng F):=Hd (by unfold Fl.wd Fl.ng; rw [hrg.2]; simp [Nat.add_comm])
 have HF : Hid (wF N x = F):=Hd hF.symm
 have HC : Hid (18014398509481984 <= C /\ C < 36028797018963968):=Hd (by rw [hC0]; exact hcc)
 -- what stays
 have HABS:=Hd (fun v (h : BI v gm (sgnI s N))=>babs_any gm gm (sgnI s N) (sgnI s N) v h h)
 rw [sgnI_abs] at HABS
 have HU64:=Hd (fun v gc (h : BI v gc (C : Int))=>buint64_any gc (C : Int) v h)
 rw [Int.natAbs_natCast,Nat.mod_eq_of_lt (show C < 18446744073709551616 by have:=HC.out; omega)] at HU64
 have HNN : Hid (nn = (if x < L /\ C * 2 ^ (L - x).toNat ≠ N then C ||| 1 else C)):=Hd (by
  rw [hn0,hC0]; unfold nnF; rw [show (bitsN N : Int) + x - 55 = L by have:=HS2.out; omega])
 have HCC : Hid (C = (if L <= x then N * 2 ^ (x - L).toNat else N / 2 ^ (L - x).toNat)):=Hd (by
  rw [hC0]; unfold cutF; rw [show (bitsN N : Int) + x - 55 = L by have:=HS2.out; omega])
 have HNB:=Hd (And.intro hN hN2)
 have HX:=Hd (And.intro hx1 hx2)
 have HBL:=Hd (show b <= 64 * 30 by
  have h1:=bitsN_len N
  have h2 : (Nt.dg 18446744073709551616 N).length <= 30:=Nt.dg_len _ (by decide) _ _ (by rw [<- BL_eq]; omega)
  omega)
 clear hnn hcc hwf hoff hF hFb hn0 hC0 hFn hFi hrg hbb hT hL hS2 ht1 ht2 hN hN2 hx1 hx2 ho
 go_wp2_with fail
 generalize hW3 : w2.alloc (.cells #[.pointer (some ⟨gm,0,none⟩),.int .i64 x] 219) = W3 at *
 clear hW3
 go_quiet ((go_at_call 182; exact Calls.quiet_of_same ((HBT.out _).mono fun _ _ he=>⟨he.1,he.2.symm⟩)))
 have HB4:=Hd (Below.drewN' HB3.out nq)
 have HFC4:=Hd (HFC.out.below (Below.drewN' (Below.refl _ _) nq))
 have HBI4:=Hd (HBI.out.below (Below.drewN' (Below.refl _ _) nq))
 clear HB3 HFC HBI HBT a0 a1 a2 a3 a4 l4 e1 e1'
 obtain ⟨⟨⟨a0,a1,a2⟩,a3,a4⟩,_,_⟩:=HFC4.out
 generalize W3.drewN nq = W4 at *
 go_wp2_with fail
 refine (HABS.out _ HBI4.out).mono ?_
 rintro e w5 ⟨rfl,hbi,ht⟩
 have HB5:=Hd (HB4.out.trans (ht.below _ HB4.out.size (fun k hk=>by rw [List.mem_singleton.1 hk]; have:=HGE.out; have:=HWS.out; omega)))
 have HFC5:=Hd (HFC4.out.tr ht (by have:=HGE.out; simp; omega) (by have:=HGE.out; simp; omega))
 have hb6:=(Below.refl w5.heap.size w5).alloc (Nat.le_refl _) (.cells #[.bool false,.slice none 0 0] 222)
 have HB6:=Hd (HB5.out.alloc HB5.out.size (.cells #[.bool false,.slice none 0 0] 222))
 have HFC6:=Hd (HFC5.out.below hb6)
 have HBI6:=Hd (hbi.below hb6)
 clear hbi ht HB4 HFC4 HBI4 HABS hb6 HB5 a0 a1 a2 a3 a4 e2
 obtain ⟨⟨⟨a0,a1,a2⟩,a3,a4⟩,_,_⟩:=HFC5.out
 obtain ⟨⟨⟨b0,b1,b2⟩,b3,b4⟩,_,_⟩:=HFC6.out
 have hcut : Calls Tryz.prog 184 #[.agg #[.pointer (some ⟨gm,0,none⟩),.int .i64 x],.int .i64 L,.bool false] (w5.alloc (.cells #[.bool false,.slice none 0 0] 222)) (PPost (C : Int) (w5.alloc (.cells #[.bool false,.slice none 0 0] 222))):=by
  have hx:=HX.out
  have hs:=HS2.out
  have hnb:=HNB.out
  have hcc:=HCC.out
  have hbl:=HBL.out
  by_cases hc : L <= x
  ·rw [if_pos hc] at hcc
   have hd : (x - L).toNat <= 60:=by omega
   have h:=cut_up gm (N : Int) x L _ HBI6.out hc (by omega) (by omega) (by
    rw [Int.natAbs_natCast]
    exact Nat.lt_of_le_of_lt (Nat.mul_le_mul_right N (Nat.pow_le_pow_right (by decide) hd)) hnb.2)
   have e : (2 : Int) ^ (x - L).toNat * (N : Int) = (C : Int):=by rw [hcc,Int.natCast_mul,Int.mul_comm]; simp
   rw [e] at h
   exact h
  ·rw [if_neg hc] at hcc
   have h:=cut_down gm (N : Int) x L _ HBI6.out (by omega) (by omega) (by omega) (by rw [Int.natAbs_natCast]; exact hnb.1)
   have e : (N : Int) / 2 ^ (L - x).toNat = (C : Int):=by rw [hcc,Int.natCast_ediv]; simp
   rw [e] at h
   exact h
 have HCUT:=Hd hcut
 clear hcut
 go_wp2_with fail
 refine HCUT.out.mono ?_
 rintro e w6 ⟨gc,rfl,hbi,hge,hb6⟩
 have HB7:=Hd (HB6.out.trans (hb6.mono HB6.out.size))
 have HFC7:=Hd (HFC6.out.below hb6)
 have HGC:=Hd hbi
 have HGM:=Hd (HBI6.out.below hb6)
 clear hbi hb6 hge HCUT HB6 HFC5 HFC6 HBI6 a0 a1 a2 a3 a4 b0 b1 b2 b3 b4
 obtain ⟨⟨⟨a0,a1,a2⟩,a3,a4⟩,_,_⟩:=HFC7.out
 go_wp2_with fail
 refine (HU64.out _ _ HGC.out).mono ?_
 rintro e w7 ⟨rfl,rfl⟩
 clear HU64
 by_cases hc : x < L
 ·have c1 : decide (x < L) = true:=decide_eq_true hc
  obtain ⟨d,hd⟩ : ∃ d,d = (L - x).toNat:=⟨_,rfl⟩
  have c2 : IntKind.i64.wrap (L - x) = (d : Int):=by rw [IntKind.wrap_i64]; have:=HX.out; omega
  have c3 : IntKind.u64.wrap (d : Int) = (d : Int):=by rw [IntKind.wrap_u64]; have:=HX.out; omega
  have hCN : 2 ^ d * C <= N:=by
   have h:=HCC.out
   rw [if_neg (by omega),<- hd] at h
   rw [h,Nat.mul_comm]; exact Nat.div_mul_le_self _ _
  obtain ⟨n1,n2⟩:=BI.new w6.drew 222
  have HLS:=Hd (fun v (h1 : BI v w6.heap.size 0) (h2 : BI v gc (C : Int))=>blsh_any w6.heap.size gc 0 (C : Int) d v h1 h2 (by have:=HX.out; have:=HS2.out; have:=HBL.out; omega) (by rw [Int.natAbs_natCast]; have:=HNB.out; omega))
  have HCM:=Hd (fun v (h1 : BI v w6.heap.size (2 ^ d * (C : Int))) (h2 : BI v gm (N : Int))=>bcmp_any w6.heap.size gm _ _ v h1 h2)
  obtain ⟨D,hD⟩ : ∃ D,D = cmpZ (2 ^ d * (C : Int)) (N : Int):=⟨_,rfl⟩
  rw [<- hD] at HCM
  have HDE : Hid (D = 0 ↔ C * 2 ^ d = N):=Hd (by
   rw [hD]; unfold cmpZ
   have e : (2 : Int) ^ d * (C : Int) = ((C * 2 ^ d : Nat) : Int):=by rw [Int.natCast_mul,Int.mul_comm]; simp
   rw [e]
   rcases Int.lt_trichotomy ((C * 2 ^ d : Nat) : Int) (N : Int) with h | h | h
   ·rw [if_pos h]; constructor <;> intro h2 <;> omega
   ·rw [if_neg (by omega),if_neg (by omega)]; constructor <;> intro h2 <;> omega
   ·rw [if_neg (by omega),if_pos h]; constructor <;> intro h2 <;> omega)
  have HNE:=Hd (show gc < w6.heap.size /\ gm < w6.heap.size from ⟨HGC.out.lt,HGM.out.lt⟩)
  have hnn:=HNN.out
  rw [<- hd] at hnn
  have HD2:=Hd hd
  have HKS:=Hd (fun v (h : Below w6.heap.size w6 v)=>(show (v.cell? ⟨w2.heap.size,0,none⟩ = some (.pointer (some ⟨gm,0,none⟩)) /\ v.cell? ⟨w2.heap.size,1,none⟩ = some (.int .i64 x)) /\ Hid (Below w6.heap.size w6 v) from ⟨(HFC7.out.below h).1.2,Hd h⟩))
  have HKF:=Hd (fun v (h : Below w6.heap.size w6 v)=>HFC7.out.below h)
  have HN1:=Hd n1
  have HN2:=Hd ((below_drew (Below.refl w6.heap.size w6)).trans n2)
  have z0 : w6.drew.heap.size = w6.heap.size:=rfl
  by_cases hD0 : D = 0
  ·have g0 : (D != 0) = false:=by simpa using hD0
   have HE : Hid (nn = C):=Hd (by rw [hnn,if_neg (fun h=>h.2 (HDE.out.1 hD0))])
   rw [HE.out] at HEN
   clear hc hd hCN hD hnn n1 n2 hD0
   go_wp2_with fail
   go_region_held3 (fun v=>(v.cell? ⟨w2.heap.size,0,none⟩ = some (.pointer (some ⟨gm,0,none⟩)) /\ v.cell? ⟨w2.heap.size,1,none⟩ = some (.int .i64 x)) /\ Hid (Below w6.heap.size w6 v)) ((first | exact HKS.out _ (below_drew (Below.refl _ _)) | exact HKS.out _ HN2.out | exact HKS.out _ HB8.out | exact HKS.out _ HB9.out)) (first
    | (go_at_call 186; refine (HLS.out _ HN1.out (HGC.out.below HN2.out)).mono ?_; rintro e w8 ⟨rfl,hbi,ht⟩; have HB8:=Hd (HN2.out.trans (ht.below _ HN2.out.size (fun k hk=>by rw [List.mem_singleton.1 hk]; exact Nat.le_refl _))); have HG8:=Hd hbi; clear hbi ht)
    | (go_at_call 187; refine (HCM.out _ HG8.out (HGM.out.below HB8.out)).mono ?_; rintro e w9 ⟨rfl,hb9⟩; have HB9:=Hd (HB8.out.trans (hb9.mono HB8.out.size)); clear hb9))
   obtain ⟨⟨⟨r0,_,_⟩,_,_⟩,_,_⟩:=HKF.out _ HB9.out
   have HBE:=Hd (HB7.out.trans (HB9.out.mono HB7.out.size))
   go_wp2_with fail
   refine (HEN.out _).mono ?_
   rintro e w8 ⟨rfl,rfl⟩
   go_wp2_with fail
   refine (HINF.out _).mono ?_
   rintro e w8 ⟨rfl,rfl⟩
   cases s
   ·go_wp2_with fail
    go_ret2
    exact ⟨by rw [HF.out]; rfl,HB.out.trans (HBE.out.mono HB.out.size)⟩
   ·go_wp2_with fail
    go_ret2
    refine ⟨?_,HB.out.trans (HBE.out.mono HB.out.size)⟩
    rw [HF.out,HNG.out]; rfl
  ·have g0 : (D != 0) = true:=by simpa using hD0
   have HE : Hid (nn = C ||| 1):=Hd (by rw [hnn,if_pos ⟨hc,fun h=>hD0 (HDE.out.2 h)⟩])
   have g1 : bits BinOp.or IntKind.u64 (C : Int) 1 = ((nn : Nat) : Int):=by
    have h:=u64_or_nat C 1 (by have:=HC.out; omega) (by decide)
    rw [HE.out]; exact h
   clear hc hd hCN hD hnn n1 n2 hD0
   go_wp2_with fail
   go_region_held3 (fun v=>(v.cell? ⟨w2.heap.size,0,none⟩ = some (.pointer (some ⟨gm,0,none⟩)) /\ v.cell? ⟨w2.heap.size,1,none⟩ = some (.int .i64 x)) /\ Hid (Below w6.heap.size w6 v)) ((first | exact HKS.out _ (below_drew (Below.refl _ _)) | exact HKS.out _ HN2.out | exact HKS.out _ HB8.out | exact HKS.out _ HB9.out)) (first
    | (go_at_call 186; refine (HLS.out _ HN1.out (HGC.out.below HN2.out)).mono ?_; rintro e w8 ⟨rfl,hbi,ht⟩; have HB8:=Hd (HN2.out.trans (ht.below _ HN2.out.size (fun k hk=>by rw [List.mem_singleton.1 hk]; exact Nat.le_refl _))); have HG8:=Hd hbi; clear hbi ht)
    | (go_at_call 187; refine (HCM.out _ HG8.out (HGM.out.below HB8.out)).mono ?_; rintro e w9 ⟨rfl,hb9⟩; have HB9:=Hd (HB8.out.trans (hb9.mono HB8.out.size)); clear hb9))
   obtain ⟨⟨⟨r0,_,_⟩,_,_⟩,_,_⟩:=HKF.out _ HB9.out
   have HBE:=Hd (HB7.out.trans (HB9.out.mono HB7.out.size))
   go_wp2_with fail
   refine (HEN.out _).mono ?_
   rintro e w8 ⟨rfl,rfl⟩
   go_wp2_with fail
   refine (HINF.out _).mono ?_
   rintro e w8 ⟨rfl,rfl⟩
   cases s
   ·go_wp2_with fail
    go_ret2
    exact ⟨by rw [HF.out]; rfl,HB.out.trans (HBE.out.mono HB.out.size)⟩
   ·go_wp2_with fail
    go_ret2
    refine ⟨?_,HB.out.trans (HBE.out.mono HB.out.size)⟩
    rw [HF.out,HNG.out]; rfl
 ·have c1 : decide (x < L) = false:=decide_eq_false hc
  have HE : Hid (nn = C):=Hd (by have h:=HNN.out; rw [if_neg (fun h=>hc h.1)] at h; exact h)
  rw [HE.out] at HEN
  clear hc
  go_wp2_with fail
  go_quiet (fail)
  obtain ⟨⟨⟨r0,_,_⟩,_,_⟩,_,_⟩:=HFC7.out.below (Below.drewN' (Below.refl _ _) nq)
  have HBE:=Hd (Below.drewN' HB7.out nq)
  generalize w6.drewN nq = w7 at *
  clear a0 a1 a2 a3 a4
  go_wp2_with fail
  refine (HEN.out _).mono ?_
  rintro e w8 ⟨rfl,rfl⟩
  go_wp2_with fail
  refine (HINF.out _).mono ?_
  rintro e w8 ⟨rfl,rfl⟩
  cases s
  ·go_wp2_with fail
   go_ret2
   exact ⟨by rw [HF.out]; rfl,HB.out.trans (HBE.out.mono HB.out.size)⟩
  ·go_wp2_with fail
   go_ret2
   refine ⟨?_,HB.out.trans (HBE.out.mono HB.out.size)⟩
   rw [HF.out,HNG.out]; rfl
end
section
open Go.RowKit
theorem dfloat_zero (w : World) : Calls Tryz.prog 174 #[.agg #[.bool false,.slice none 0 0,.int .i64 0]] w fun e w'=>e = .returned (.tuple #[.float .f64 0,.int .i64 0]) /\ Below w.heap.size w w':=by
 have hb:=(Below.refl w.heap.size w).alloc (Nat.le_refl _) (.cells #[.bool false,.slice none 0 0,.int .i64 0] 158)
 obtain ⟨W,hW⟩ : ∃ W,W = w.alloc (.cells #[.bool false,.slice none 0 0,.int .i64 0] 158):=⟨_,rfl⟩
 have k1 : W.cell? ⟨w.heap.size,1,none⟩ = some (.slice none 0 0):=by rw [hW]; simp
 have hWs : W.heap.size = w.heap.size + 1:=by rw [hW]; simp
 rw [<- hW] at hb
 have HB:=Hd hb
 have HW:=Hd hW
 have HWS:=Hd hWs
 clear hb hW hWs
 go_enter Tryz.func174,Tryz.ntmps174
 go_wp2_with fail
 rw [<- HW.out]
 refine (right_zero W).mono ?_
 rintro e w1 ⟨rfl,hb1⟩
 have q1:=(hb1.cell (p:=⟨w.heap.size,1,none⟩) (by show w.heap.size < W.heap.size; have:=HWS.out; omega)).trans k1
 have HB1:=Hd (HB.out.trans (hb1.mono HB.out.size))
 clear hb1 k1
 go_wp2
 go_ret2
 exact ⟨rfl,HB1.out⟩
def FW (s : Bool) (N : Nat) (y : Int) : Nat:=if N = 0 then 0 else Fl.wd s (wF N y)
def FOk (s : Bool) (N : Nat) (y : Int) : Prop:=(s = false /\ N = 0 /\ y = 0) \/ (N % 2 = 1 /\ N + 1 < BL /\ 2 ^ 60 * N < BL /\ -2000 <= y /\ y <= 2000 /\ -900 <= (bitsN N : Int) + y /\ (bitsN N : Int) + y <= 900)
theorem dfl_any (s : Bool) (A : Option Addr) (n c : Nat) (y : Int) (N : Nat) (w : World) (h : NU w A n c N) (hN : FOk s N y) :
  Calls Tryz.prog 174 #[.agg #[.bool s,.slice A n c,.int .i64 y]] w fun e w'=>e = .returned (.tuple #[.float .f64 (FW s N y),.int .i64 0]) /\ Below w.heap.size w w':=by
 rcases hN with ⟨rfl,rfl,rfl⟩ | ⟨h1,h2,h3,h4,h5,h6,h7⟩
 ·have hn:=h.zero.2 rfl
  subst hn
  have hA : A = none /\ c = 0 \/ ∃ ad,A = some ad:=by
   cases A with
   | none=>exact .inl ⟨rfl,h.1.2.2.1 rfl⟩
   | some ad=>exact .inr ⟨ad,rfl⟩
  rcases hA with ⟨rfl,rfl⟩ | ⟨ad,rfl⟩
  ·exact dfloat_zero w
  ·-- an empty slice with memory behind it
   have hb:=(Below.refl w.heap.size w).alloc (Nat.le_refl _) (.cells #[.bool false,.slice (some ad) 0 c,.int .i64 0] 158)
   obtain ⟨W,hW⟩ : ∃ W,W = w.alloc (.cells #[.bool false,.slice (some ad) 0 c,.int .i64 0] 158):=⟨_,rfl⟩
   have k1 : W.cell? ⟨w.heap.size,1,none⟩ = some (.slice (some ad) 0 c):=by rw [hW]; simp
   have hWs : W.heap.size = w.heap.size + 1:=by rw [hW]; simp
   have hr : Calls Tryz.prog 180 #[.agg #[.bool false,.slice (some ad) 0 c,.int .i64 0]] W fun e w'=>e = .returned (.bool true) /\ Below W.heap.size W w':=by
    have HBB:=Hd ((Below.refl W.heap.size W).alloc (Nat.le_refl _) (.cells #[.bool false,.slice (some ad) 0 c,.int .i64 0] 158))
    clear hW k1 hWs hb h
    go_enter Tryz.func180,Tryz.ntmps180
    go_wp2
    go_ret
    exact ⟨rfl,HBB.out⟩
   rw [<- hW] at hb
   have HR:=Hd hr
   have HB:=Hd hb
   have HW:=Hd hW
   have HWS:=Hd hWs
   clear hb hW hWs h hr
   go_enter Tryz.func174,Tryz.ntmps174
   go_wp2_with fail
   rw [<- HW.out]
   refine HR.out.mono ?_
   rintro e w1 ⟨rfl,hb1⟩
   have q1:=(hb1.cell (p:=⟨w.heap.size,1,none⟩) (by show w.heap.size < W.heap.size; have:=HWS.out; omega)).trans k1
   have HB1:=Hd (HB.out.trans (hb1.mono HB.out.size))
   clear hb1 k1
   go_wp2
   go_ret2
   exact ⟨rfl,HB1.out⟩
 ·have h:=dfloat_any s A n c y N w h h1 h2 h3 h4 h5 h6 h7
  unfold FW
  rw [if_neg (by omega)]
  exact h
set_option maxRecDepth 100000 in
set_option maxHeartbeats 2000000 in
theorem near_gen (v : An.Val) (s1 : Bool) (N1 : Nat) (y1 : Int) (s2 : Bool) (N2 : Nat) (y2 : Int) (a : Nat) (w : World) (hg : ∀ u,Below w.heap.size w u -> Calls Tryz.prog 173 #[valV v,.int .i64 100] u (GPost s1 N1 y1 s2 N2 y2 u))
  (f1 : FOk s1 N1 y1) (f2 : FOk s2 N2 y2) (e1 : FW s1 N1 y1 = a) (e2 : FW s2 N2 y2 = a) (ha : Fl.rg a <= Fl.I) :
  Calls Tryz.prog 170 #[valV v] w fun e w'=>e = .returned (.float .f64 a) /\ Below w.heap.size w w':=by
 obtain ⟨neg,whole,sine,nn,step,of⟩:=v
 unfold valV at hg ⊢
 simp only at hg ⊢
 have hb:=(Below.refl w.heap.size w).alloc (Nat.le_refl _) (.cells #[.bool neg,.bool whole,.bool sine,.int .i64 nn,.int .i64 step,.int .i64 of] 205)
 have HGA:=Hd (hg _ hb)
 have HB:=Hd hb
 have hq:=Fl.cmp_self a ha
 have HF1:=Hd (fun u A n c (hu : NU u A n c N1)=>dfl_any s1 A n c y1 N1 u hu f1)
 have HF2:=Hd (fun u A n c (hu : NU u A n c N2)=>dfl_any s2 A n c y2 N2 u hu f2)
 rw [e1] at HF1
 rw [e2] at HF2
 have k0 : (w.alloc (.cells #[.bool neg,.bool whole,.bool sine,.int .i64 nn,.int .i64 step,.int .i64 of] 205)).cell? ⟨w.heap.size,0,none⟩ = some (.bool neg):=by simp
 have k1 : (w.alloc (.cells #[.bool neg,.bool whole,.bool sine,.int .i64 nn,.int .i64 step,.int .i64 of] 205)).cell? ⟨w.heap.size,1,none⟩ = some (.bool whole):=by simp
 have k2 : (w.alloc (.cells #[.bool neg,.bool whole,.bool sine,.int .i64 nn,.int .i64 step,.int .i64 of] 205)).cell? ⟨w.heap.size,2,none⟩ = some (.bool sine):=by simp
 have k3 : (w.alloc (.cells #[.bool neg,.bool whole,.bool sine,.int .i64 nn,.int .i64 step,.int .i64 of] 205)).cell? ⟨w.heap.size,3,none⟩ = some (.int .i64 nn):=by simp
 have k4 : (w.alloc (.cells #[.bool neg,.bool whole,.bool sine,.int .i64 nn,.int .i64 step,.int .i64 of] 205)).cell? ⟨w.heap.size,4,none⟩ = some (.int .i64 step):=by simp
 have k5 : (w.alloc (.cells #[.bool neg,.bool whole,.bool sine,.int .i64 nn,.int .i64 step,.int .i64 of] 205)).cell? ⟨w.heap.size,5,none⟩ = some (.int .i64 of):=by simp
 clear hg f1 f2 e1 e2 ha hb
 go_enter Tryz.func170,Tryz.ntmps170
 go_wp2_with fail
 generalize w.alloc (.cells #[.bool neg,.bool whole,.bool sine,.int .i64 nn,.int .i64 step,.int .i64 of] 205) = W at *
 go_loopw [3] (fun bv wr=>bv = .int .i64 100 /\ wr = W) (fun _ _=>0)
 case atStart=>exact ⟨rfl,rfl⟩
 case round =>
  obtain ⟨rfl,rfl⟩:=hrel
  go_wp2_with fail
  refine HGA.out.mono ?_
  rintro e w2 ⟨A,n,c,A',n',c',rfl,hu1,hu2,hb2⟩
  have hbb:=(Below.refl w2.heap.size w2).alloc (Nat.le_refl _) (.cells #[.bool s1,.slice A n c,.int .i64 y1,.bool s2,.slice A' n' c',.int .i64 y2] 163)
  have HU1:=Hd (hu1.below hbb)
  have HU2:=Hd (hu2.below hbb)
  have HB2:=Hd ((HB.out.trans (hb2.mono HB.out.size)).trans (hbb.mono (Nat.le_trans HB.out.size hb2.size)))
  have r0 : (w2.alloc (.cells #[.bool s1,.slice A n c,.int .i64 y1,.bool s2,.slice A' n' c',.int .i64 y2] 163)).cell? ⟨w2.heap.size,0,none⟩ = some (.bool s1):=by simp
  have r1 : (w2.alloc (.cells #[.bool s1,.slice A n c,.int .i64 y1,.bool s2,.slice A' n' c',.int .i64 y2] 163)).cell? ⟨w2.heap.size,1,none⟩ = some (.slice A n c):=by simp
  have r2 : (w2.alloc (.cells #[.bool s1,.slice A n c,.int .i64 y1,.bool s2,.slice A' n' c',.int .i64 y2] 163)).cell? ⟨w2.heap.size,2,none⟩ = some (.int .i64 y1):=by simp
  have r3 : (w2.alloc (.cells #[.bool s1,.slice A n c,.int .i64 y1,.bool s2,.slice A' n' c',.int .i64 y2] 163)).cell? ⟨w2.heap.size,3,none⟩ = some (.bool s2):=by simp
  have r4 : (w2.alloc (.cells #[.bool s1,.slice A n c,.int .i64 y1,.bool s2,.slice A' n' c',.int .i64 y2] 163)).cell? ⟨w2.heap.size,4,none⟩ = some (.slice A' n' c'):=by simp
  have r5 : (w2.alloc (.cells #[.bool s1,.slice A n c,.int .i64 y1,.bool s2,.slice A' n' c',.int .i64 y2] 163)).cell? ⟨w2.heap.size,5,none⟩ = some (.int .i64 y2):=by simp
  have hl : w2.heap.size < (w2.alloc (.cells #[.bool s1,.slice A n c,.int .i64 y1,.bool s2,.slice A' n' c',.int .i64 y2] 163)).heap.size:=by simp
  clear hu1 hu2 hb2 hbb k0 k1 k2 k3 k4 k5
  go_wp2_with fail
  generalize w2.alloc (.cells #[.bool s1,.slice A n c,.int .i64 y1,.bool s2,.slice A' n' c',.int .i64 y2] 163) = W3 at *
  refine (HF1.out _ A n c HU1.out).mono ?_
  rintro e w4 ⟨rfl,hb4⟩
  have q3:=(hb4.cell (p:=⟨w2.heap.size,3,none⟩) hl).trans r3
  have q4:=(hb4.cell (p:=⟨w2.heap.size,4,none⟩) hl).trans r4
  have q5:=(hb4.cell (p:=⟨w2.heap.size,5,none⟩) hl).trans r5
  have HU3:=Hd (HU2.out.below hb4)
  have HB4:=Hd (HB2.out.trans (hb4.mono HB2.out.size))
  clear hb4 r0 r1 r2 r3 r4 r5 hl
  go_wp2_with fail
  refine (HF2.out _ A' n' c' HU3.out).mono ?_
  rintro e w5 ⟨rfl,hb5⟩
  have HB5:=Hd (HB4.out.trans (hb5.mono HB4.out.size))
  clear hb5 q3 q4 q5
  go_wp2
  go_ret
  exact ⟨rfl,HB5.out⟩
end
section
open Go.RowKit
theorem word_facts {neg : Bool} {u a : Nat} (h : An.wordM neg u (-100) = some a) :
  u ≠ 0 /\ u < 2 ^ 190 /\ ∃ (t m : Nat),u = 2 ^ t * (2 * m + 1) /\ t < 200 /\ 2 * m + 1 <= u /\ a = FW neg (2 * m + 1) (-100 + t):=by
 unfold An.wordM at h
 simp only at h
 split at h
 ·obtain ⟨h1,h2,h3,h4,h5⟩:=‹_ /\ _›
  refine ⟨h1,h2,An.ctzM 200 u,u / 2 ^ An.ctzM 200 u / 2,?_,h3,?_,?_⟩
  ·have : 2 * (u / 2 ^ An.ctzM 200 u / 2) + 1 = u / 2 ^ An.ctzM 200 u:=by omega
   rw [this,Nat.mul_comm]; exact h4.symm
  ·have:=Nat.div_le_self u (2 ^ An.ctzM 200 u); omega
  ·have hm : 2 * (u / 2 ^ An.ctzM 200 u / 2) + 1 = u / 2 ^ An.ctzM 200 u:=by omega
   rw [hm]
   obtain ⟨m,hM⟩ : ∃ m,m = u / 2 ^ An.ctzM 200 u:=⟨_,rfl⟩
   obtain ⟨k,hK⟩ : ∃ k,k = An.ctzM 200 u:=⟨_,rfl⟩
   rw [<- hM,<- hK] at h ⊢
   rw [<- hM] at h5
   have hb : bitsN m = Nat.log2 m + 1:=by unfold bitsN; rw [if_neg (by omega)]
   unfold FW
   rw [if_neg (by omega)]
   injection h with h
   rw [<- h]
   unfold Fl.wd wF nnF cutF An.flN offN
   rw [hb]
   have hc : ((-100 : Int) + (k : Int)) = (-100 + k : Int):=rfl
   have hw : ∀ (c : Nat),(if neg = true then Fl.W + c else c) = c + (if neg = true then 9223372036854775808 else 0):=by
    intro c
    cases neg
    ·rfl
    ·exact Nat.add_comm _ _
   rw [hw]
 ·exact absurd h (by simp)
theorem FW_le (s : Bool) (m : Nat) (y : Int) (h1 : bitsN m <= 400) (h2 : y <= 200) : Fl.rg (FW s m y) <= Fl.I:=by
 unfold FW
 split
 ·decide
 ·have h3:=nnF_le m y ‹_›
  have h4:=offN_le (nnF m y)
  have hw : wF m y <= Fl.I:=by
   unfold wF
   have h5 : ((bitsN m : Int) + y - 55 + 1076).toNat <= 1621:=by omega
   have h6:=Nat.mul_le_mul_right 4503599627370496 h5
   have h7 : offN (nnF m y) <= 9007199254740993:=by omega
   exact Nat.le_trans (Nat.add_le_add h6 h7) (by decide)
  have hW : wF m y < Fl.W:=Nat.lt_of_le_of_lt hw (by decide)
  exact Nat.le_trans (Nat.le_of_eq (Fl.rg_wd _ _ hW)) hw
theorem bits_small (m u : Nat) (h : m < 2 ^ 190) : bitsN m <= 190:=by
 by_cases hm : m = 0
 ·subst hm; unfold bitsN; simp
 ·obtain ⟨h1,h2,h3⟩:=Nt.bits_range m hm
  by_cases hc : bitsN m <= 190
  ·exact hc
  ·exfalso
   have : 2 ^ 190 <= 2 ^ (bitsN m - 1):=Nat.pow_le_pow_right (by decide) (by omega)
   omega
theorem FOk_small (s : Bool) (m : Nat) (t : Nat) (h : 2 * m + 1 < 2 ^ 190) (ht : t < 200) : FOk s (2 * m + 1) (-100 + t):=by
 have hb:=bits_small _ 0 h
 have hB : 2 ^ 250 <= BL:=by
  rw [BL_eq]
  exact Nat.le_trans (by decide : 2 ^ 250 <= 18446744073709551616 ^ 4) (Nat.pow_le_pow_right (by decide) (by decide))
 right
 refine ⟨by omega,by omega,by omega,by omega,by omega,by omega,by omega⟩
theorem near_frac (neg sine : Bool) (nn step of P a : Nat) (w : World) (hT : TabAt 2 Lib.deBruijn64tab w) (hT2 : 2 < w.heap.size) (hn : nn <= 1) (hP : An.piM 164 = some (P : Int)) (hPb : P < 2 ^ 200) (ho1 : 1 <= of) (ho2 : of <= 65536) (hs : step <= 65536) (h : An.nearM P ⟨neg,false,sine,nn,step,of⟩ = some a) :
  Calls Tryz.prog 170 #[valV ⟨neg,false,sine,nn,step,of⟩] w fun e w'=>e = .returned (.float .f64 a) /\ Below w.heap.size w w':=by
 unfold An.nearM at h
 simp only [Bool.false_eq_true,if_false] at h
 split at h
 case h_2=>exact absurd h (by simp)
 rename_i F hF
 split at h
 case h_2=>exact absurd h (by simp)
 rename_i a1 b1 hw1 hw2
 split at h
 case isFalse=>exact absurd h (by simp)
 rename_i hab
 injection h with h
 subst hab
 subst h
 obtain ⟨u1,u2,t1,m1,e1,l1,n1,f1⟩:=word_facts hw1
 obtain ⟨v1,v2,t2,m2,e2,l2,n2,f2⟩:=word_facts hw2
 have o1:=FOk_small neg m1 t1 (by omega) l1
 have o2:=FOk_small neg m2 t2 (by omega) l2
 have hr:=FW_le neg (2 * m1 + 1) (-100 + t1) (Nat.le_trans (bits_small _ 0 (by omega)) (by omega)) (by omega)
 have hB : 2 ^ 250 <= BL:=by
  rw [BL_eq]
  exact Nat.le_trans (by decide : 2 ^ 250 <= 18446744073709551616 ^ 4) (Nat.pow_le_pow_right (by decide) (by decide))
 rw [<- f1] at hr
 cases neg
 ·have d1 : DZ (F : Int) (-100) false (2 * m1 + 1) (-100 + t1):=.inr ⟨t1,m1,by rw [Int.natAbs_natCast]; exact e1,(decide_eq_false (by omega)).symm,rfl,rfl,by omega,by omega⟩
  have d2 : DZ ((F : Int) + 1) (-100) false (2 * m2 + 1) (-100 + t2):=.inr ⟨t2,m2,by rw [<- e2]; omega,(decide_eq_false (by omega)).symm,rfl,rfl,by omega,by omega⟩
  exact near_gen _ _ _ _ _ _ _ a1 w (fun u hb=>gap_frac_pos sine nn step of P F _ _ _ _ _ _ u (hT.below hb hT2) (Nat.lt_of_lt_of_le hT2 hb.size) hn hP hPb ho1 ho2 hs hF u2 d1 d2) o1 o2 f1.symm f2.symm hr
 ·have d1 : DZ (-(F : Int)) (-100) true (2 * m1 + 1) (-100 + t1):=.inr ⟨t1,m1,by rw [Int.natAbs_neg,Int.natAbs_natCast]; exact e1,(decide_eq_true (by omega)).symm,rfl,rfl,by omega,by omega⟩
  have d2 : DZ (-((F : Int) + 1)) (-100) true (2 * m2 + 1) (-100 + t2):=.inr ⟨t2,m2,by rw [<- e2]; omega,(decide_eq_true (by omega)).symm,rfl,rfl,by omega,by omega⟩
  exact near_gen _ _ _ _ _ _ _ a1 w (fun u hb=>gap_frac_neg sine nn step of P F _ _ _ _ _ _ u (hT.below hb hT2) (Nat.lt_of_lt_of_le hT2 hb.size) hn hP hPb ho1 ho2 hs hF u2 d2 d1) o2 o1 f2.symm f1.symm hr
theorem near_whole (neg sine : Bool) (nn step of P a : Nat) (w : World) (hT : TabAt 2 Lib.deBruijn64tab w) (hT2 : 2 < w.heap.size) (hn : nn <= 1) (hneg : nn = 0 -> neg = false) (h : An.nearM P ⟨neg,true,sine,nn,step,of⟩ = some a) :
  Calls Tryz.prog 170 #[valV ⟨neg,true,sine,nn,step,of⟩] w fun e w'=>e = .returned (.float .f64 a) /\ Below w.heap.size w w':=by
 unfold An.nearM at h
 simp only [if_true] at h
 have hB : 2 ^ 250 <= BL:=by
  rw [BL_eq]
  exact Nat.le_trans (by decide : 2 ^ 250 <= 18446744073709551616 ^ 4) (Nat.pow_le_pow_right (by decide) (by decide))
 split at h
 ·rename_i h0
  subst h0
  injection h with h
  subst h
  have hn0:=hneg rfl
  subst hn0
  have d : DZ ((0 : Nat) : Int) 0 false 0 0:=.inl ⟨rfl,rfl,rfl,rfl⟩
  exact near_gen _ false 0 0 false 0 0 0 w (fun u hb=>gap_whole_pos sine 0 step of _ _ _ _ _ _ u (hT.below hb hT2) (Nat.lt_of_lt_of_le hT2 hb.size) hn d d) (.inl ⟨rfl,rfl,rfl⟩) (.inl ⟨rfl,rfl,rfl⟩) rfl rfl (by decide)
 ·have h1 : nn = 1:=by omega
  subst h1
  injection h with h
  have o : FOk neg 1 0:=.inr ⟨rfl,by omega,by omega,by omega,by omega,by decide,by decide⟩
  cases neg
  ·have d : DZ ((1 : Nat) : Int) 0 false 1 0:=.inr ⟨0,0,by decide,by decide,rfl,rfl,by omega,by show 1 + 1 < BL; omega⟩
   exact near_gen _ _ _ _ _ _ _ a w (fun u hb=>gap_whole_pos sine 1 step of _ _ _ _ _ _ u (hT.below hb hT2) (Nat.lt_of_lt_of_le hT2 hb.size) hn d d) o o (by rw [<- h]; show FW false 1 0 = 4607182418800017408; decide +kernel) (by rw [<- h]; show FW false 1 0 = 4607182418800017408; decide +kernel) (by rw [<- h]; show Fl.rg 4607182418800017408 <= Fl.I; decide)
  ·have d : DZ (-((1 : Nat) : Int)) 0 true 1 0:=.inr ⟨0,0,by decide,by decide,rfl,rfl,by omega,by show 1 + 1 < BL; omega⟩
   exact near_gen _ _ _ _ _ _ _ a w (fun u hb=>gap_whole_neg sine 1 step of _ _ _ _ _ _ u (hT.below hb hT2) (Nat.lt_of_lt_of_le hT2 hb.size) hn d d) o o (by rw [<- h]; show FW true 1 0 = 13830554455654793216; decide +kernel) (by rw [<- h]; show FW true 1 0 = 13830554455654793216; decide +kernel) (by rw [<- h]; show Fl.rg 13830554455654793216 <= Fl.I; decide)
theorem red_shape (order step : Nat) (sine : Bool) (ho : order <= 14) :
  let v:=An.reducedM order step sine
  v.n <= 1 /\ (v.whole = true -> v.n = 0 -> v.neg = false) /\ (v.whole = false -> 1 <= v.of /\ v.of <= 65536 /\ v.step <= 65536):=by
 have hp : 2 ^ order <= 2 ^ 14:=Nat.pow_le_pow_right (by decide) ho
 have hp1:=Nat.two_pow_pos order
 obtain ⟨n,hn⟩ : ∃ n,n = 2 ^ order:=⟨_,rfl⟩
 rw [<- hn] at hp hp1
 rw [An.reduced_redN,<- hn]
 intro v
 show v.n <= 1 /\ (v.whole = true -> v.n = 0 -> v.neg = false) /\ (v.whole = false -> 1 <= v.of /\ v.of <= 65536 /\ v.step <= 65536)
 have hv : v = An.redN n (if sine then (step % n * 4 + 3 * n) % (4 * n) else step % n * 4):=rfl
 obtain ⟨a,ha⟩ : ∃ a,a = (if sine then (step % n * 4 + 3 * n) % (4 * n) else step % n * 4):=⟨_,rfl⟩
 have hal : a < 4 * n:=by
  have:=Nat.mod_lt step hp1
  rw [ha]; split
  ·exact Nat.mod_lt _ (by omega)
  ·omega
 rw [<- ha,An.redN_of rfl rfl rfl] at hv
 rw [hv]
 clear hv v ha hn
 (repeat' split) <;> simp <;> omega
theorem nearv_any (order step P a : Nat) (sine : Bool) (w : World) (ho : order <= 14) (hT : TabAt 2 Lib.deBruijn64tab w) (hT2 : 2 < w.heap.size) (hP : An.piM 164 = some (P : Int)) (hPb : P < 2 ^ 200) (h : An.nearM P (An.reducedM order step sine) = some a) :
  Calls Tryz.prog 170 #[valV (An.reducedM order step sine)] w fun e w'=>e = .returned (.float .f64 a) /\ Below w.heap.size w w':=by
 obtain ⟨h1,h2,h3⟩:=red_shape order step sine ho
 generalize An.reducedM order step sine = v at *
 obtain ⟨neg,whole,sn,nn,st,of⟩:=v
 cases whole
 ·obtain ⟨h4,h5,h6⟩:=h3 rfl
  exact near_frac neg sn nn st of P a w hT hT2 h1 hP hPb h4 h5 h6 h
 ·exact near_whole neg sn nn st of P a w hT hT2 h1 (h2 rfl) h
end
end Go.Proofs.YtfpopdneokekiaaGreatDoor

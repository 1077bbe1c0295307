/-
Walk: Num by value: Compare.
-/
import Derived.Test.YtfpopdneokekiaaGreatDoorT8
import Derived.Lib.Hide
set_option linter.unusedVariables false
set_option linter.unusedSimpArgs false
namespace Go.Proofs.YtfpopdneokekiaaGreatDoor
end Go.Proofs.YtfpopdneokekiaaGreatDoor
namespace Go.Proofs.YtfpopdneokekiaaGreatDoor
open Go.RowKit
set_option maxRecDepth 400000 in
set_option maxHeartbeats 8000000 in
theorem plus_any (v : Value) (s : Bool) (N : Nat) (e : Int) (v' : Value) (s' : Bool) (M : Nat) (f : Int) (w : World) (hv : NumV w v s N e) (hv' : NumV w v' s' M f) (hl : (Nt.dg 18446744073709551616 N).length <= 50000000) (hl' : (Nt.dg 18446744073709551616 M).length <= 50000000)
  (he1 : -100000000 <= e) (he2 : e <= 100000000) (hf1 : -100000000 <= f) (hf2 : f <= 100000000) :
  Calls Tryz.prog 54 #[v,v'] w (NumPost (plusN s N e s' M f) w):=by
 have hz1:=fun x (hb : Below w.heap.size w x)=>zero_any v s N e x (hv.below hb) (by omega)
 have hz2:=fun x (hb : Below w.heap.size w x)=>zero_any v' s' M f x (hv'.below hb) (by omega)
 have hrec:=fun x (hb : Below w.heap.size w x) (h1 : N ≠ 0) (h2 : M ≠ 0) (h3 : f <= e)=>plus_core v' s' M f v s N e x (hv'.below hb) (hv.below hb) hl' hl hf1 hf2 he1 he2 h2 h1 h3
 unfold plusN
 by_cases hN : N = 0
 ·rw [if_pos hN]
  have dN : decide (N = 0) = true:=decide_eq_true hN
  have HV:=Hd hv'
  obtain ⟨A,c,rfl,hu⟩:=hv
  obtain ⟨A',c',rfl,hu'⟩:=hv'
  have HU:=Hd hu'
  have HZ1:=Hd hz1
  clear hz1 hz2 hrec hN hu hu'
  generalize (Nt.dg 18446744073709551616 N).length = n at *
  generalize hlv : (Nt.dg 18446744073709551616 M) = lv at *
  generalize hkv : lv.length = kv at *
  have HLV:=Hd hlv
  have HKV:=Hd hkv
  clear hlv hkv
  have hst:=Two.start w s A n c e s' A' kv c' f 52
  go_enter Tryz.func54,Tryz.ntmps54
  go_wp2_with fail
  generalize ((w.alloc (.cells #[.bool s,.slice A n c,.int .i64 e] 52)).alloc (.cells #[.bool s',.slice A' kv c',.int .i64 f] 52)).alloc (.cells #[.bool false,.slice none 0 0,.int .i64 0] 52) = W at *
  refine (HZ1.out W hst.2.2.1).mono ?_
  rintro r w1 ⟨rfl,hb1⟩
  have ht1:=hst.go hb1
  have hu1 : U w1 A' kv c' lv:=HU.out.below ht1.2.2.1
  have OUT:=Hd (Two.out (w:=w1) ht1 (by omega) hu1 (.bool s') (.slice A' kv c') (.int .i64 f))
  obtain ⟨⟨p1,p2,p3⟩,⟨p4,p5,p6⟩,_,⟨p7,p8⟩,_,hfz,_,_,_,_,_,m0,m1,m2⟩:=ht1
  have z0:=hfz 0
  have z1:=hfz 1
  have z2:=hfz 2
  clear hb1 hst hfz HV
  rw [dN]
  go_wp2
  refine bodyPost_ret (v:=.agg #[.bool s',.slice A' kv c',.int .i64 f]) (by simp [results,Tryz.results54,go_sem,OUT.out.2.2.1,OUT.out.2.2.2.1,OUT.out.2.2.2.2]) rfl ⟨_,rfl,⟨A',c',by rw [HLV.out,HKV.out],by rw [HLV.out,HKV.out]; exact OUT.out.1⟩,OUT.out.2.1⟩
 ·rw [if_neg hN]
  have dN : decide (N = 0) = false:=decide_eq_false hN
  by_cases hM : M = 0
  ·rw [if_pos hM]
   have dM : decide (M = 0) = true:=decide_eq_true hM
   obtain ⟨A,c,rfl,hu⟩:=hv
   obtain ⟨A',c',rfl,hu'⟩:=hv'
   have HU:=Hd hu
   have HZ1:=Hd hz1
   have HZ2:=Hd hz2
   clear hz1 hz2 hrec hN hM hu hu'
   generalize (Nt.dg 18446744073709551616 M).length = n' at *
   generalize hlv : (Nt.dg 18446744073709551616 N) = lv at *
   generalize hkv : lv.length = kv at *
   have HLV:=Hd hlv
   have HKV:=Hd hkv
   clear hlv hkv
   have hst:=Two.start w s A kv c e s' A' n' c' f 52
   go_enter Tryz.func54,Tryz.ntmps54
   go_wp2_with fail
   generalize ((w.alloc (.cells #[.bool s,.slice A kv c,.int .i64 e] 52)).alloc (.cells #[.bool s',.slice A' n' c',.int .i64 f] 52)).alloc (.cells #[.bool false,.slice none 0 0,.int .i64 0] 52) = W at *
   refine (HZ1.out W hst.2.2.1).mono ?_
   rintro r w1 ⟨rfl,hb1⟩
   have ht1:=hst.go hb1
   have HT1:=Hd ht1
   obtain ⟨⟨p1,p2,p3⟩,⟨p4,p5,p6⟩,_,⟨p7,p8⟩,_⟩:=ht1
   clear hb1 hst
   rw [dN]
   go_wp2_with fail
   refine (HZ2.out w1 HT1.out.2.2.1).mono ?_
   rintro r w2 ⟨rfl,hb2⟩
   have ht2:=HT1.out.go hb2
   have hu1 : U w2 A kv c lv:=HU.out.below ht2.2.2.1
   have OUT:=Hd (Two.out (w:=w2) ht2 (by omega) hu1 (.bool s) (.slice A kv c) (.int .i64 e))
   clear p1 p2 p3 p4 p5 p6 p7 p8 HT1 hb2
   obtain ⟨⟨p1,p2,p3⟩,⟨p4,p5,p6⟩,_,⟨p7,p8⟩,_,hfz,_,_,_,_,_,m0,m1,m2⟩:=ht2
   have z0:=hfz 0
   have z1:=hfz 1
   have z2:=hfz 2
   clear hfz
   rw [dM]
   go_wp2
   refine bodyPost_ret (v:=.agg #[.bool s,.slice A kv c,.int .i64 e]) (by simp [results,Tryz.results54,go_sem,OUT.out.2.2.1,OUT.out.2.2.2.1,OUT.out.2.2.2.2]) rfl ⟨_,rfl,⟨A,c,by rw [HLV.out,HKV.out],by rw [HLV.out,HKV.out]; exact OUT.out.1⟩,OUT.out.2.1⟩
  ·rw [if_neg hM]
   have dM : decide (M = 0) = false:=decide_eq_false hM
   by_cases hgt : f < e
   ·rw [if_pos hgt]
    obtain ⟨T,hT⟩ : ∃ T,T = plusC s' M f s N e:=⟨_,rfl⟩
    rw [<- hT] at hrec ⊢
    clear hT
    obtain ⟨A,c,rfl,hu⟩:=hv
    obtain ⟨A',c',rfl,hu'⟩:=hv'
    have HZ1:=Hd hz1
    have HZ2:=Hd hz2
    have HREC:=Hd (fun x hb=>hrec x hb hN hM (Int.le_of_lt hgt))
    clear hz1 hz2 hrec hN hM hu hu'
    generalize (Nt.dg 18446744073709551616 N).length = n at *
    generalize (Nt.dg 18446744073709551616 M).length = n' at *
    have hst:=Two.start w s A n c e s' A' n' c' f 52
    go_enter Tryz.func54,Tryz.ntmps54
    go_wp2_with fail
    generalize ((w.alloc (.cells #[.bool s,.slice A n c,.int .i64 e] 52)).alloc (.cells #[.bool s',.slice A' n' c',.int .i64 f] 52)).alloc (.cells #[.bool false,.slice none 0 0,.int .i64 0] 52) = W at *
    refine (HZ1.out W hst.2.2.1).mono ?_
    rintro r w1 ⟨rfl,hb1⟩
    have ht1:=hst.go hb1
    have HT1:=Hd ht1
    obtain ⟨⟨p1,p2,p3⟩,⟨p4,p5,p6⟩,_,⟨p7,p8⟩,_⟩:=ht1
    clear hb1 hst
    rw [dN]
    go_wp2_with fail
    refine (HZ2.out w1 HT1.out.2.2.1).mono ?_
    rintro r w2 ⟨rfl,hb2⟩
    have ht2:=HT1.out.go hb2
    have HT2:=Hd ht2
    clear p1 p2 p3 p4 p5 p6 p7 p8 HT1 hb2
    obtain ⟨⟨p1,p2,p3⟩,⟨p4,p5,p6⟩,_,⟨p7,p8⟩,_⟩:=ht2
    rw [dM]
    go_wp2_with fail
    refine (HREC.out w2 HT2.out.2.2.1).mono ?_
    rintro r w3 ⟨v3,rfl,⟨A3,c3,rfl,hu3⟩,hb3⟩
    generalize hlv : (Nt.dg 18446744073709551616 T.2.1) = lv at *
    generalize hkv : lv.length = kv at *
    have HLV:=Hd hlv
    have HKV:=Hd hkv
    clear hlv hkv
    have ht3:=HT2.out.go hb3
    have OUT:=Hd (Two.out (w:=w3) ht3 (by omega) hu3 (.bool T.1) (.slice A3 kv c3) (.int .i64 T.2.2))
    clear p1 p2 p3 p4 p5 p6 p7 p8 HT2 hb3
    obtain ⟨⟨p1,p2,p3⟩,⟨p4,p5,p6⟩,_,⟨p7,p8⟩,_,hfz,_,_,_,_,_,m0,m1,m2⟩:=ht3
    have z0:=hfz 0
    have z1:=hfz 1
    have z2:=hfz 2
    clear hfz
    go_wp2
    refine bodyPost_ret (v:=.agg #[.bool T.1,.slice A3 kv c3,.int .i64 T.2.2]) (by simp [results,Tryz.results54,go_sem,OUT.out.2.2.1,OUT.out.2.2.2.1,OUT.out.2.2.2.2]) rfl ⟨_,rfl,⟨A3,c3,by rw [HLV.out,HKV.out],by rw [HLV.out,HKV.out]; exact OUT.out.1⟩,OUT.out.2.1⟩
   ·rw [if_neg hgt]
    exact plus_core v s N e v' s' M f w hv hv' hl hl' he1 he2 hf1 hf2 hN hM (by omega)
end Go.Proofs.YtfpopdneokekiaaGreatDoor
namespace Go.Proofs.YtfpopdneokekiaaGreatDoor
open Go.RowKit
set_option maxRecDepth 400000 in
set_option maxHeartbeats 8000000 in
theorem less_any (v : Value) (s : Bool) (N : Nat) (e : Int) (v' : Value) (s' : Bool) (M : Nat) (f : Int) (w : World) (hv : NumV w v s N e) (hv' : NumV w v' s' M f) (hl : (Nt.dg 18446744073709551616 N).length <= 50000000) (hl' : (Nt.dg 18446744073709551616 M).length <= 50000000)
  (he1 : -100000000 <= e) (he2 : e <= 100000000) (hf1 : -100000000 <= f) (hf2 : f <= 100000000) :
  Calls Tryz.prog 96 #[v,v'] w (NumPost (plusN s N e (!s') M f) w):=by
 have hmn:=fun x (hb : Below w.heap.size w x)=>minus_any v' s' M f x (hv'.below hb)
 have hpl:=fun x u (hb : Below w.heap.size w x) (hu : NumV x u (!s') M f)=>plus_any v s N e u (!s') M f x (hv.below hb) hu hl hl' he1 he2 hf1 hf2
 obtain ⟨T,hT⟩ : ∃ T,T = plusN s N e (!s') M f:=⟨_,rfl⟩
 rw [<- hT] at hpl ⊢
 clear hT
 obtain ⟨A,c,rfl,hu⟩:=hv
 obtain ⟨A',c',rfl,hu'⟩:=hv'
 unfold NumV at hmn hpl
 have HMN:=Hd hmn
 have HPL:=Hd hpl
 clear hmn hpl hu hu'
 generalize (Nt.dg 18446744073709551616 N).length = n at *
 generalize (Nt.dg 18446744073709551616 M) = b at *
 generalize b.length = n' at *
 have hst:=Two.start w s A n c e s' A' n' c' f 52
 go_enter Tryz.func96,Tryz.ntmps96
 go_wp2_with fail
 generalize ((w.alloc (.cells #[.bool s,.slice A n c,.int .i64 e] 52)).alloc (.cells #[.bool s',.slice A' n' c',.int .i64 f] 52)).alloc (.cells #[.bool false,.slice none 0 0,.int .i64 0] 52) = W at *
 have HC1 : Hid (∀ x,Two w w.heap.size s A n c e (w.heap.size + 1) s' A' n' c' f (w.heap.size + 1 + 1) x -> Calls Tryz.prog 137 #[.agg #[.bool s',.slice A' n' c',.int .i64 f]] x fun r w'=>∃ A3 c3,r = .returned (.agg #[.bool !s',.slice A3 n' c3,.int .i64 f]) /\ U w' A3 n' c3 b /\ Two w w.heap.size s A n c e (w.heap.size + 1) s' A' n' c' f (w.heap.size + 1 + 1) w') :=
  Hd (fun x hx=>(HMN.out x hx.2.2.1).mono fun r w' ⟨v3,h1,⟨A3,c3,h2,h3⟩,h4⟩=>⟨A3,c3,by rw [h1,h2],h3,hx.go h4⟩)
 have HC2 : Hid (∀ x A3 c3,Two w w.heap.size s A n c e (w.heap.size + 1) s' A' n' c' f (w.heap.size + 1 + 1) x -> U x A3 n' c3 b -> Calls Tryz.prog 54 #[.agg #[.bool s,.slice A n c,.int .i64 e],.agg #[.bool !s',.slice A3 n' c3,.int .i64 f]] x fun r w'=>∃ A4 c4,r = .returned (.agg #[.bool T.1,.slice A4 (Nt.dg 18446744073709551616 T.2.1).length c4,.int .i64 T.2.2]) /\ U w' A4 (Nt.dg 18446744073709551616 T.2.1).length c4 (Nt.dg 18446744073709551616 T.2.1) /\ Two w w.heap.size s A n c e (w.heap.size + 1) s' A' n' c' f (w.heap.size + 1 + 1) w') :=
  Hd (fun x A3 c3 hx hu=>(HPL.out x _ hx.2.2.1 ⟨A3,c3,rfl,hu⟩).mono fun r w' ⟨v4,h1,⟨A4,c4,h2,h3⟩,h4⟩=>⟨A4,c4,by rw [h1,h2],h3,hx.go h4⟩)
 have HS0:=Hd hst.drew
 have KEEP : Hid (∀ x,Two w w.heap.size s A n c e (w.heap.size + 1) s' A' n' c' f (w.heap.size + 1 + 1) x -> ∀ q A5 n5 c5 e5,Two w w.heap.size s A n c e (w.heap.size + 1) s' A' n' c' f (w.heap.size + 1 + 1) (((x.setCell ⟨w.heap.size + 1 + 1,0,none⟩ (.bool q)).setCell ⟨w.heap.size + 1 + 1,1,none⟩ (.slice A5 n5 c5)).setCell ⟨w.heap.size + 1 + 1,2,none⟩ (.int .i64 e5))):=Hd (fun x hx q A5 n5 c5 e5=>Two.store hx (by omega) (by omega) (by omega) q A5 n5 c5 e5)
 generalize hlv : (Nt.dg 18446744073709551616 T.2.1) = lv at *
 generalize hkv : lv.length = kv at *
 have HLV:=Hd hlv
 have HKV:=Hd hkv
 clear hlv hkv
 obtain ⟨⟨p1,p2,p3⟩,⟨p4,p5,p6⟩,_,⟨p7,p8⟩,_⟩:=hst
 go_region_held3 (fun x=>(x.cell? ⟨w.heap.size,0,none⟩ = some (.bool s) /\ x.cell? ⟨w.heap.size,1,none⟩ = some (.slice A n c) /\ x.cell? ⟨w.heap.size,2,none⟩ = some (.int .i64 e)) /\ (x.cell? ⟨w.heap.size + 1,0,none⟩ = some (.bool s') /\ x.cell? ⟨w.heap.size + 1,1,none⟩ = some (.slice A' n' c') /\ x.cell? ⟨w.heap.size + 1,2,none⟩ = some (.int .i64 f)) /\ Below w.heap.size w x /\ (w.heap.size < x.heap.size /\ w.heap.size + 1 < x.heap.size) /\ Shape x (w.heap.size + 1 + 1)) ((first | assumption | exact HS0.out | exact KEEP.out _ (by assumption) _ _ _ _ _)) (first | (go_at_call 137; refine (HC1.out _ ?_).mono ?_; (assumption); rintro r w' ⟨A3,c3,rfl,hu3,hS⟩) | (go_at_call 54; refine (HC2.out _ _ _ ?_ ?_).mono ?_; (assumption); (assumption); rintro r w' ⟨A4,c4,rfl,hu4,hS4⟩; have hS2:=hS4; obtain ⟨_,_,_,_,_,hfz,_,_,_,_,_,m0,m1,m2⟩:=hS2; have z0:=hfz 0; have z1:=hfz 1; have z2:=hfz 2; clear hfz))
 have OUT:=Hd (Two.out (w:=w') hS4 (by omega) hu4 (.bool T.1) (.slice A4 kv c4) (.int .i64 T.2.2))
 clear hS4 m0 m1 m2 z0 z1 z2 hu4 HC1 HC2 KEEP HS0 p1 p2 p3 p4 p5 p6 p7 p8
 go_wp2
 refine bodyPost_ret (v:=.agg #[.bool T.1,.slice A4 kv c4,.int .i64 T.2.2]) (by simp [results,Tryz.results96,go_sem,OUT.out.2.2.1,OUT.out.2.2.2.1,OUT.out.2.2.2.2]) rfl ⟨_,rfl,⟨A4,c4,by rw [HLV.out,HKV.out],by rw [HLV.out,HKV.out]; exact OUT.out.1⟩,OUT.out.2.1⟩
def cmpN (s : Bool) (N : Nat) (e : Int) (s' : Bool) (M : Nat) (f : Int) : Int :=
 if signI s N < signI s' M then -1 else if signI s' M < signI s N then 1 else if signI s N = 0 then 0
 else if e + (bitsN N : Nat) < f + (bitsN M : Nat) then - signI s N else if f + (bitsN M : Nat) < e + (bitsN N : Nat) then signI s N
 else signI (plusN s N e (!s') M f).1 (plusN s N e (!s') M f).2.1
def Pair (w0 : World) (g0 : Nat) (s0 : Bool) (A0 : Option Addr) (n0 c0 : Nat) (e0 : Int) (g1 : Nat) (s1 : Bool) (A1 : Option Addr) (n1 c1 : Nat) (e1 : Int) (w : World) : Prop :=
 (w.cell? ⟨g0,0,none⟩ = some (.bool s0) /\ w.cell? ⟨g0,1,none⟩ = some (.slice A0 n0 c0) /\ w.cell? ⟨g0,2,none⟩ = some (.int .i64 e0)) /\
 (w.cell? ⟨g1,0,none⟩ = some (.bool s1) /\ w.cell? ⟨g1,1,none⟩ = some (.slice A1 n1 c1) /\ w.cell? ⟨g1,2,none⟩ = some (.int .i64 e1)) /\ Below w0.heap.size w0 w /\ (g0 < w.heap.size /\ g1 < w.heap.size)
section
variable {w0 : World} {g0 : Nat} {s0 : Bool} {A0 : Option Addr} {n0 c0 : Nat} {e0 : Int} {g1 : Nat} {s1 : Bool} {A1 : Option Addr} {n1 c1 : Nat} {e1 : Int} {w : World}
theorem Pair.go (h : Pair w0 g0 s0 A0 n0 c0 e0 g1 s1 A1 n1 c1 e1 w) {w' : World} (hb : Below w.heap.size w w') : Pair w0 g0 s0 A0 n0 c0 e0 g1 s1 A1 n1 c1 e1 w':=by
 obtain ⟨h1,h2,h3,⟨h4,h5⟩⟩:=h
 exact ⟨Cells3.below h1 h4 hb,Cells3.below h2 h5 hb,h3.trans (hb.mono h3.size),⟨Nat.lt_of_lt_of_le h4 hb.size,Nat.lt_of_lt_of_le h5 hb.size⟩⟩
theorem Pair.drew (h : Pair w0 g0 s0 A0 n0 c0 e0 g1 s1 A1 n1 c1 e1 w) : Pair w0 g0 s0 A0 n0 c0 e0 g1 s1 A1 n1 c1 e1 w.drew:=h.go (Below.refl _ _).drew
end
theorem Pair.start (w : World) (s0 : Bool) (A0 : Option Addr) (n0 c0 : Nat) (e0 : Int) (s1 : Bool) (A1 : Option Addr) (n1 c1 : Nat) (e1 : Int) (t : TypeId) :
  Pair w w.heap.size s0 A0 n0 c0 e0 (w.heap.size + 1) s1 A1 n1 c1 e1 ((w.alloc (.cells #[.bool s0,.slice A0 n0 c0,.int .i64 e0] t)).alloc (.cells #[.bool s1,.slice A1 n1 c1,.int .i64 e1] t)):=by
 have z1 : (w.alloc (.cells #[.bool s0,.slice A0 n0 c0,.int .i64 e0] t)).heap.size = w.heap.size + 1:=by simp
 generalize h1 : w.alloc (.cells #[.bool s0,.slice A0 n0 c0,.int .i64 e0] t) = W1 at *
 have z2 : (W1.alloc (.cells #[.bool s1,.slice A1 n1 c1,.int .i64 e1] t)).heap.size = w.heap.size + 1 + 1:=by simp [z1]
 obtain ⟨a0,a1,a2,ha⟩:=new_cells w W1 (.bool s0) (.slice A0 n0 c0) (.int .i64 e0) t (by rw [h1]; exact Below.refl _ _)
 generalize h2 : W1.alloc (.cells #[.bool s1,.slice A1 n1 c1,.int .i64 e1] t) = W2 at *
 obtain ⟨b0,b1,b2,hb⟩:=new_cells W1 W2 (.bool s1) (.slice A1 n1 c1) (.int .i64 e1) t (by rw [h2]; exact Below.refl _ _)
 rw [z1] at b0 b1 b2
 have e1 : Cells3 W2 w.heap.size s0 A0 n0 c0 e0:=Cells3.below ⟨a0,a1,a2⟩ (by omega) hb
 exact ⟨e1,⟨b0,b1,b2⟩,ha.trans (hb.mono ha.size),⟨by omega,by omega⟩⟩
end Go.Proofs.YtfpopdneokekiaaGreatDoor
namespace Go.Proofs.YtfpopdneokekiaaGreatDoor
section
open Go.RowKit
theorem ret_i {k : IntKind} {a b : Int} (h : a = b) : Ending.returned (.int k a) = .returned (.int k b):=by rw [h]
set_option maxRecDepth 400000 in
set_option maxHeartbeats 8000000 in
theorem compare_any (v : Value) (s : Bool) (N : Nat) (e : Int) (v' : Value) (s' : Bool) (M : Nat) (f : Int) (w : World) (hv : NumV w v s N e) (hv' : NumV w v' s' M f) (hl : (Nt.dg 18446744073709551616 N).length <= 50000000) (hl' : (Nt.dg 18446744073709551616 M).length <= 50000000)
  (hlt : (Nt.dg 18446744073709551616 (plusN s N e (!s') M f).2.1).length <= 100000000) (he1 : -100000000 <= e) (he2 : e <= 100000000) (hf1 : -100000000 <= f) (hf2 : f <= 100000000) :
  Calls Tryz.prog 51 #[v,v'] w fun r w'=>r = .returned (.int .i64 (cmpN s N e s' M f)) /\ Below w.heap.size w w':=by
 have hs1:=fun x (hb : Below w.heap.size w x)=>sign_any v s N e x (hv.below hb) (by omega)
 have hs2:=fun x (hb : Below w.heap.size w x)=>sign_any v' s' M f x (hv'.below hb) (by omega)
 have ht1:=fun x (hb : Below w.heap.size w x)=>top_any v s N e x (hv.below hb) (by omega) (by omega) (by omega)
 have ht2:=fun x (hb : Below w.heap.size w x)=>top_any v' s' M f x (hv'.below hb) (by omega) (by omega) (by omega)
 have hls:=fun x (hb : Below w.heap.size w x)=>less_any v s N e v' s' M f x (hv.below hb) (hv'.below hb) hl hl' he1 he2 hf1 hf2
 have hb1:=bitsN_len N
 have hb2:=bitsN_len M
 obtain ⟨T,hT⟩ : ∃ T,T = cmpN s N e s' M f:=⟨_,rfl⟩
 rw [<- hT]
 unfold cmpN at hT
 obtain ⟨D,hD⟩ : ∃ D,D = plusN s N e (!s') M f:=⟨_,rfl⟩
 rw [<- hD] at hls hlt hT
 have hsd:=fun x u (hu : NumV x u D.1 D.2.1 D.2.2)=>sign_any u D.1 D.2.1 D.2.2 x hu hlt
 clear hD
 have ha : -1 <= signI s N /\ signI s N <= 1:=by unfold signI; split; omega; split <;> omega
 obtain ⟨A,c,rfl,hu⟩:=hv
 obtain ⟨A',c',rfl,hu'⟩:=hv'
 have HS1:=Hd hs1
 have HS2:=Hd hs2
 have HT1:=Hd ht1
 have HT2:=Hd ht2
 have HLS:=Hd hls
 have HSD:=Hd hsd
 clear hs1 hs2 ht1 ht2 hls hsd hu hu'
 generalize (Nt.dg 18446744073709551616 N).length = n at *
 generalize (Nt.dg 18446744073709551616 M).length = n' at *
 generalize signI s N = a at *
 generalize signI s' M = b at *
 generalize bitsN N = p at *
 generalize bitsN M = q at *
 obtain ⟨t1,ht1⟩ : ∃ t1,t1 = e + (p : Int):=⟨_,rfl⟩
 obtain ⟨t2,ht2⟩ : ∃ t2,t2 = f + (q : Int):=⟨_,rfl⟩
 rw [<- ht1] at HT1 hT
 rw [<- ht2] at HT2 hT
 have HTT:=Hd hT
 clear hT ht1 ht2
 have HC1 : Hid (∀ x,Pair w w.heap.size s A n c e (w.heap.size + 1) s' A' n' c' f x -> Calls Tryz.prog 94 #[.agg #[.bool s,.slice A n c,.int .i64 e]] x fun r w'=>r = .returned (.int .i64 a) /\ Pair w w.heap.size s A n c e (w.heap.size + 1) s' A' n' c' f w'):=Hd (fun x hx=>(HS1.out x hx.2.2.1).mono fun r w' ⟨h1,h2⟩=>⟨h1,hx.go h2⟩)
 have HC2 : Hid (∀ x,Pair w w.heap.size s A n c e (w.heap.size + 1) s' A' n' c' f x -> Calls Tryz.prog 94 #[.agg #[.bool s',.slice A' n' c',.int .i64 f]] x fun r w'=>r = .returned (.int .i64 b) /\ Pair w w.heap.size s A n c e (w.heap.size + 1) s' A' n' c' f w'):=Hd (fun x hx=>(HS2.out x hx.2.2.1).mono fun r w' ⟨h1,h2⟩=>⟨h1,hx.go h2⟩)
 have HC3 : Hid (∀ x,Pair w w.heap.size s A n c e (w.heap.size + 1) s' A' n' c' f x -> Calls Tryz.prog 95 #[.agg #[.bool s,.slice A n c,.int .i64 e]] x fun r w'=>r = .returned (.int .i64 t1) /\ Pair w w.heap.size s A n c e (w.heap.size + 1) s' A' n' c' f w'):=Hd (fun x hx=>(HT1.out x hx.2.2.1).mono fun r w' ⟨h1,h2⟩=>⟨h1,hx.go h2⟩)
 have HC4 : Hid (∀ x,Pair w w.heap.size s A n c e (w.heap.size + 1) s' A' n' c' f x -> Calls Tryz.prog 95 #[.agg #[.bool s',.slice A' n' c',.int .i64 f]] x fun r w'=>r = .returned (.int .i64 t2) /\ Pair w w.heap.size s A n c e (w.heap.size + 1) s' A' n' c' f w'):=Hd (fun x hx=>(HT2.out x hx.2.2.1).mono fun r w' ⟨h1,h2⟩=>⟨h1,hx.go h2⟩)
 have hst:=Pair.start w s A n c e s' A' n' c' f 52
 go_enter Tryz.func51,Tryz.ntmps51
 go_wp2_with fail
 generalize (w.alloc (.cells #[.bool s,.slice A n c,.int .i64 e] 52)).alloc (.cells #[.bool s',.slice A' n' c',.int .i64 f] 52) = W at *
 have HP0:=Hd hst.drew
 obtain ⟨⟨p1,p2,p3⟩,⟨p4,p5,p6⟩,_,⟨p7,p8⟩⟩:=hst
 go_region_held3 (fun x=>(x.cell? ⟨w.heap.size,0,none⟩ = some (.bool s) /\ x.cell? ⟨w.heap.size,1,none⟩ = some (.slice A n c) /\ x.cell? ⟨w.heap.size,2,none⟩ = some (.int .i64 e)) /\ (x.cell? ⟨w.heap.size + 1,0,none⟩ = some (.bool s') /\ x.cell? ⟨w.heap.size + 1,1,none⟩ = some (.slice A' n' c') /\ x.cell? ⟨w.heap.size + 1,2,none⟩ = some (.int .i64 f)) /\ Below w.heap.size w x /\ (w.heap.size < x.heap.size /\ w.heap.size + 1 < x.heap.size)) ((first | assumption | exact HP0.out)) (first | (go_at_call 94; refine (HC1.out _ ?_).mono ?_; (assumption); rintro r w' ⟨rfl,hS⟩) | (go_at_call 94; refine (HC2.out _ ?_).mono ?_; (assumption); rintro r w' ⟨rfl,hS⟩))
 have HP1:=Hd hS
 clear p1 p2 p3 p4 p5 p6 p7 p8 HP0 HC1 HC2 HS1 HS2 hS
 obtain ⟨wa,hwa⟩ : ∃ wa,wa = w':=⟨_,rfl⟩
 rw [<- hwa] at HP1 ⊢
 clear hwa
 obtain ⟨⟨p1,p2,p3⟩,⟨p4,p5,p6⟩,_,⟨p7,p8⟩⟩:=HP1.out
 have HB1:=Hd HP1.out.2.2.1
 rcases Int.lt_trichotomy a b with hab | hab | hab
 ·have hans : T = -1:=by rw [HTT.out,if_pos hab]
  have HANS:=Hd hans
  clear hans
  go_wp2
  go_ret
  exact ⟨ret_i HANS.out.symm,HB1.out⟩
 ·subst hab
  by_cases ha0 : a = 0
  ·have hans : T = 0:=by rw [HTT.out,if_neg (Int.lt_irrefl a),if_neg (Int.lt_irrefl a),if_pos ha0]
   have HANS:=Hd hans
   clear hans
   subst ha0
   go_wp2
   go_ret
   exact ⟨ret_i HANS.out.symm,HB1.out⟩
  ·have haz : (a == 0) = false:=by simpa using ha0
   have HA0:=Hd ha0
   clear ha0
   have HP2:=Hd HP1.out.drew
   go_wp2_with fail
   go_region_held3 (fun x=>(x.cell? ⟨w.heap.size,0,none⟩ = some (.bool s) /\ x.cell? ⟨w.heap.size,1,none⟩ = some (.slice A n c) /\ x.cell? ⟨w.heap.size,2,none⟩ = some (.int .i64 e)) /\ (x.cell? ⟨w.heap.size + 1,0,none⟩ = some (.bool s') /\ x.cell? ⟨w.heap.size + 1,1,none⟩ = some (.slice A' n' c') /\ x.cell? ⟨w.heap.size + 1,2,none⟩ = some (.int .i64 f)) /\ Below w.heap.size w x /\ (w.heap.size < x.heap.size /\ w.heap.size + 1 < x.heap.size)) ((first | assumption | exact HP2.out)) (first | (go_at_call 95; refine (HC3.out _ ?_).mono ?_; (assumption); rintro r w' ⟨rfl,hS⟩) | (go_at_call 95; refine (HC4.out _ ?_).mono ?_; (assumption); rintro r w' ⟨rfl,hS⟩))
   have HP3:=Hd hS
   clear p1 p2 p3 p4 p5 p6 p7 p8 HP1 HP2 HB1 hS
   obtain ⟨wb,hwb⟩ : ∃ wb,wb = w':=⟨_,rfl⟩
   rw [<- hwb] at HP3 ⊢
   clear hwb
   obtain ⟨⟨p1,p2,p3⟩,⟨p4,p5,p6⟩,_,⟨p7,p8⟩⟩:=HP3.out
   have HB3:=Hd HP3.out.2.2.1
   have HTT2 : Hid (T = if t1 < t2 then -a else if t2 < t1 then a else signI D.1 D.2.1):=Hd (by rw [HTT.out,if_neg (Int.lt_irrefl a),if_neg (Int.lt_irrefl a),if_neg HA0.out])
   by_cases h1 : t1 < t2
   ·have hans : T = -a:=by rw [HTT2.out,if_pos h1]
    have HANS:=Hd hans
    clear hans
    go_wp2
    go_ret
    exact ⟨ret_i HANS.out.symm,HB3.out⟩
   ·have HP4:=Hd HP3.out.drew
    go_wp2_with fail
    go_region_held3 (fun x=>(x.cell? ⟨w.heap.size,0,none⟩ = some (.bool s) /\ x.cell? ⟨w.heap.size,1,none⟩ = some (.slice A n c) /\ x.cell? ⟨w.heap.size,2,none⟩ = some (.int .i64 e)) /\ (x.cell? ⟨w.heap.size + 1,0,none⟩ = some (.bool s') /\ x.cell? ⟨w.heap.size + 1,1,none⟩ = some (.slice A' n' c') /\ x.cell? ⟨w.heap.size + 1,2,none⟩ = some (.int .i64 f)) /\ Below w.heap.size w x /\ (w.heap.size < x.heap.size /\ w.heap.size + 1 < x.heap.size)) ((first | assumption | exact HP4.out)) (first | (go_at_call 95; refine (HC3.out _ ?_).mono ?_; (assumption); rintro r w' ⟨rfl,hS⟩) | (go_at_call 95; refine (HC4.out _ ?_).mono ?_; (assumption); rintro r w' ⟨rfl,hS⟩))
    have HP5:=Hd hS
    clear p1 p2 p3 p4 p5 p6 p7 p8 HP3 HP4 HB3 hS
    obtain ⟨wc,hwc⟩ : ∃ wc,wc = w':=⟨_,rfl⟩
    rw [<- hwc] at HP5 ⊢
    clear hwc
    obtain ⟨⟨p1,p2,p3⟩,⟨p4,p5,p6⟩,_,⟨p7,p8⟩⟩:=HP5.out
    have HB5:=Hd HP5.out.2.2.1
    by_cases h2 : t2 < t1
    ·have hans : T = a:=by rw [HTT2.out,if_neg (by omega),if_pos h2]
     have HANS:=Hd hans
     clear hans
     go_wp2
     go_ret
     exact ⟨ret_i HANS.out.symm,HB5.out⟩
    ·have hans : T = signI D.1 D.2.1:=by rw [HTT2.out,if_neg (by omega),if_neg (by omega)]
     have HANS:=Hd hans
     clear hans
     go_wp2_with fail
     refine (HLS.out wc HB5.out).mono ?_
     rintro r w6 ⟨v6,rfl,hv6,hb6⟩
     have HV6:=Hd hv6
     have HB6:=Hd (HB5.out.trans (hb6.mono HB5.out.size))
     clear hv6 hb6 p1 p2 p3 p4 p5 p6 p7 p8
     go_wp2_with fail
     refine (HSD.out w6 v6 HV6.out).mono ?_
     rintro r w7 ⟨rfl,hb7⟩
     have HB7:=Hd (HB6.out.trans (hb7.mono HB6.out.size))
     clear hb7
     go_wp2
     go_ret
     exact ⟨ret_i HANS.out.symm,HB7.out⟩
 ·have hnl : ¬ a < b:=by omega
  have hans : T = 1:=by rw [HTT.out,if_neg hnl,if_pos hab]
  have HANS:=Hd hans
  clear hans
  go_wp2
  go_ret
  exact ⟨ret_i HANS.out.symm,HB1.out⟩
end
end Go.Proofs.YtfpopdneokekiaaGreatDoor

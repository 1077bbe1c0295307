/-
Walk of the reference's Cut, of a number that is not below 0, downward.
-/
import Derived.Test.YtfpopdneokekiaaGreatDoorT3
import Derived.Lib.Hide
set_option linter.unusedVariables false
set_option linter.unusedSimpArgs false
namespace Go.Proofs.YtfpopdneokekiaaGreatDoor
section
open Go.RowKit
def plusC (s : Bool) (N : Nat) (e : Int) (s' : Bool) (M : Nat) (f : Int) : Bool × Nat × Int :=
 if s = s' then (s,N + M * 2 ^ (f - e).toNat,e) else if M * 2 ^ (f - e).toNat <= N then (s,N - M * 2 ^ (f - e).toNat,e) else (s',M * 2 ^ (f - e).toNat - N,e)
def plusN (s : Bool) (N : Nat) (e : Int) (s' : Bool) (M : Nat) (f : Int) : Bool × Nat × Int :=
 if N = 0 then (s',M,f) else if M = 0 then (s,N,e) else if f < e then plusC s' M f s N e else plusC s N e s' M f
def NumPost (t : Bool × Nat × Int) (w : World) (r : Ending) (w' : World) : Prop:=∃ v,r = .returned v /\ NumV w' v t.1 t.2.1 t.2.2 /\ Below w.heap.size w w'
theorem shl_len (M m n : Nat) (h : (Nt.dg 18446744073709551616 M).length <= n) : (Nt.dg 18446744073709551616 (M * 2 ^ m)).length <= n + m / 64 + 1:=by
 refine Nt.dg_len _ (by decide) _ _ ?_
 have h1:=Nt.val_lt 18446744073709551616 (by decide) _ (Nt.dig_dg 18446744073709551616 (by decide) M)
 rw [Nt.val_dg _ (by decide)] at h1
 have h2 : M < 18446744073709551616 ^ n:=Nat.lt_of_lt_of_le h1 (Nat.pow_le_pow_right (by decide) h)
 have h3 : 2 ^ m <= 18446744073709551616 ^ (m / 64 + 1):=by
  rw [show (18446744073709551616 : Nat) = 2 ^ 64 from rfl,<- Nat.pow_mul]
  exact Nat.pow_le_pow_right (by decide) (by omega)
 rw [Nat.add_assoc,Nat.pow_add]
 exact Nat.mul_lt_mul_of_lt_of_le h2 h3 (Nat.pow_pos (by decide))
set_option maxRecDepth 400000 in
set_option maxHeartbeats 8000000 in
theorem plus_core (v : Value) (s : Bool) (N : Nat) (e : Int) (v' : Value) (s' : Bool) (M : Nat) (f : Int) (w : World) (hv : NumV w v s N e) (hv' : NumV w v' s' M f) (hl : (Nt.dg 18446744073709551616 N).length <= 50000000) (hl' : (Nt.dg 18446744073709551616 M).length <= 50000000)
  (he1 : -100000000 <= e) (he2 : e <= 100000000) (hf1 : -100000000 <= f) (hf2 : f <= 100000000) (hN : N ≠ 0) (hM : M ≠ 0) (hef : e <= f) :
  Calls Tryz.prog 54 #[v,v'] w (NumPost (plusC s N e s' M f) w):=by
 have hz1:=fun x (hb : Below w.heap.size w x)=>zero_any v s N e x (hv.below hb) (by omega)
 have hz2:=fun x (hb : Below w.heap.size w x)=>zero_any v' s' M f x (hv'.below hb) (by omega)
 obtain ⟨A,c,rfl,hu⟩:=hv
 obtain ⟨A',c',rfl,hu'⟩:=hv'
 obtain ⟨m,hm⟩ : ∃ m : Nat,m = (f - e).toNat:=⟨_,rfl⟩
 have hmi : f - e = (m : Int):=by omega
 have hup:=fun x (hb : Below w.heap.size w x)=>natUp_any A' _ c' _ m x (hu'.below hb) (by omega) (Nt.dig_dg 18446744073709551616 (by decide) M) (by omega)
 rw [Nt.val_dg _ (by decide)] at hup
 have hlb:=shl_len M m _ hl'
 obtain ⟨T,hT⟩ : ∃ T,T = plusC s N e s' M f:=⟨_,rfl⟩
 rw [<- hT]
 unfold plusC at hT
 rw [<- hm] at hT
 obtain ⟨Q,hQ⟩ : ∃ Q,Q = M * 2 ^ m:=⟨_,rfl⟩
 rw [<- hQ] at hup hlb hT
 have HTT:=Hd hT
 clear hT
 have hlb2 : (Nt.dg 18446744073709551616 Q).length <= 60000000:=by omega
 have hadd:=fun x A2 c2 (hb : Below w.heap.size w x) (h2 : U x A2 (Nt.dg 18446744073709551616 Q).length c2 (Nt.dg 18446744073709551616 Q))=>natAdd_any A _ c _ A2 _ c2 _ x (hu.below hb) (by omega) (Nt.dig_dg 18446744073709551616 (by decide) N) h2 (by omega) (Nt.dig_dg 18446744073709551616 (by decide) Q)
 have hcmp:=fun x A2 c2 (hb : Below w.heap.size w x) (h2 : U x A2 (Nt.dg 18446744073709551616 Q).length c2 (Nt.dg 18446744073709551616 Q))=>natCmp_any A _ c _ A2 _ c2 _ x (hu.below hb) (by omega) (Nt.dig_dg 18446744073709551616 (by decide) N) h2 (by omega) (Nt.dig_dg 18446744073709551616 (by decide) Q)
 have hsub:=fun x A2 c2 (hb : Below w.heap.size w x) (h2 : U x A2 (Nt.dg 18446744073709551616 Q).length c2 (Nt.dg 18446744073709551616 Q))=>natSub_any A _ c _ A2 _ c2 _ x (hu.below hb) (by omega) (Nt.dig_dg 18446744073709551616 (by decide) N) h2 (by omega) (Nt.dig_dg 18446744073709551616 (by decide) Q)
 have hbus:=fun x A2 c2 (hb : Below w.heap.size w x) (h2 : U x A2 (Nt.dg 18446744073709551616 Q).length c2 (Nt.dg 18446744073709551616 Q))=>natSub_any A2 _ c2 _ A _ c _ x h2 (by omega) (Nt.dig_dg 18446744073709551616 (by decide) Q) (hu.below hb) (by omega) (Nt.dig_dg 18446744073709551616 (by decide) N)
 rw [Nt.val_dg _ (by decide),Nt.val_dg _ (by decide)] at hadd hcmp hsub hbus
 have HZ1:=Hd hz1
 have HZ2:=Hd hz2
 have HUP:=Hd hup
 have HADD:=Hd hadd
 have HCMP:=Hd hcmp
 have HSUB:=Hd hsub
 have HBUS:=Hd hbus
 have dN : decide (N = 0) = false:=decide_eq_false hN
 have dM : decide (M = 0) = false:=decide_eq_false hM
 clear hz1 hz2 hup hadd hcmp hsub hbus hu hu' hlb hm hQ hN hM
 generalize (Nt.dg 18446744073709551616 N).length = n at *
 generalize (Nt.dg 18446744073709551616 M).length = n' at *
 generalize hbq : (Nt.dg 18446744073709551616 Q) = b at *
 generalize hn2 : b.length = n2 at *
 have HBQ:=Hd hbq
 have HN2:=Hd hn2
 clear hbq hn2
 have hst:=Two.start w s A n c e s' A' n' c' f 52
 go_enter Tryz.func54,Tryz.ntmps54
 go_wp2_with fail
 generalize ((w.alloc (.cells #[.bool s,.slice A n c,.int .i64 e] 52)).alloc (.cells #[.bool s',.slice A' n' c',.int .i64 f] 52)).alloc (.cells #[.bool false,.slice none 0 0,.int .i64 0] 52) = W at *
 refine (HZ1.out W hst.2.2.1).mono ?_
 rintro r w1 ⟨rfl,hb1⟩
 have ht1:=hst.go hb1
 have HT1:=Hd ht1
 obtain ⟨⟨p1,p2,p3⟩,⟨p4,p5,p6⟩,_,⟨p7,p8⟩,_⟩:=ht1
 clear hb1 hst
 rw [dN]
 go_wp2_with fail
 refine (HZ2.out w1 HT1.out.2.2.1).mono ?_
 rintro r w2 ⟨rfl,hb2⟩
 have ht2:=HT1.out.go hb2
 have HT2:=Hd ht2
 clear p1 p2 p3 p4 p5 p6 p7 p8 HT1 hb2
 obtain ⟨⟨p1,p2,p3⟩,⟨p4,p5,p6⟩,_,⟨p7,p8⟩,_⟩:=ht2
 rw [dM]
 have hgt : ¬ f < e:=by omega
 go_wp2_with fail
 have HC7 : Hid (∀ x,Two w w.heap.size s A n c e (w.heap.size + 1) s' A' n' c' f (w.heap.size + 1 + 1) x -> Calls Tryz.prog 53 #[.slice A' n' c',.int .i64 (f - e)] x fun r w'=>∃ A2 c2,r = .returned (.slice A2 n2 c2) /\ U w' A2 n2 c2 b /\ Two w w.heap.size s A n c e (w.heap.size + 1) s' A' n' c' f (w.heap.size + 1 + 1) w') :=
  Hd (fun x hx=>by rw [hmi]; exact (HUP.out x hx.2.2.1).mono fun r w' ⟨A3,c3,h1,h2,h3⟩=>⟨A3,c3,by rw [h1,HBQ.out,HN2.out],by rw [HBQ.out,HN2.out] at h2; exact h2,hx.go h3⟩)
 have HS0:=Hd HT2.out.drew
 have hwr : IntKind.i64.wrap (f - e) = f - e:=by rw [IntKind.wrap_i64]; omega
 have HMI:=Hd hmi
 clear hmi
 go_region_held3 (fun x=>(x.cell? ⟨w.heap.size,0,none⟩ = some (.bool s) /\ x.cell? ⟨w.heap.size,1,none⟩ = some (.slice A n c) /\ x.cell? ⟨w.heap.size,2,none⟩ = some (.int .i64 e)) /\ (x.cell? ⟨w.heap.size + 1,0,none⟩ = some (.bool s') /\ x.cell? ⟨w.heap.size + 1,1,none⟩ = some (.slice A' n' c') /\ x.cell? ⟨w.heap.size + 1,2,none⟩ = some (.int .i64 f)) /\ Below w.heap.size w x /\ (w.heap.size < x.heap.size /\ w.heap.size + 1 < x.heap.size) /\ Shape x (w.heap.size + 1 + 1)) ((first | assumption | exact HS0.out)) (first | (go_at_call 53; refine (HC7.out _ ?_).mono ?_; (assumption); rintro r w' ⟨A2,c2,rfl,hu2,hS⟩))
 have HT7 : Hid (Two w w.heap.size s A n c e (w.heap.size + 1) s' A' n' c' f (w.heap.size + 1 + 1) w' /\ U w' A2 n2 c2 b):=Hd ⟨hS,hu2⟩
 clear p1 p2 p3 p4 p5 p6 p7 p8 HT2 HC7 HS0 hS hu2 HUP HZ1 HZ2
 obtain ⟨w7,hw7⟩ : ∃ w7,w7 = w':=⟨_,rfl⟩
 rw [<- hw7] at HT7 ⊢
 obtain ⟨⟨p1,p2,p3⟩,⟨p4,p5,p6⟩,_,⟨p7,p8⟩,_⟩:=HT7.out.1
 clear hw7
 by_cases hss : s = s'
 ·subst hss
  have hT2:=HTT.out
  rw [if_pos rfl] at hT2
  have HS9 : Hid (Two w w.heap.size s A n c e (w.heap.size + 1) s A' n' c' f (w.heap.size + 1 + 1) w7.drew /\ U w7.drew A2 n2 c2 b):=Hd ⟨HT7.out.1.drew,HT7.out.2.below (Below.refl _ _).drew⟩
  clear hT2
  go_wp2_with fail
  obtain ⟨V,hV⟩ : ∃ V,V = N + Q:=⟨_,rfl⟩
  have HT9 : Hid (T = (s,V,e)):=Hd (by rw [HTT.out]; first | rw [if_pos rfl] | rw [if_pos trivial]; rw [hV])
  have HC9 : Hid (∀ x,(Two w w.heap.size s A n c e (w.heap.size + 1) s A' n' c' f (w.heap.size + 1 + 1) x /\ U x A2 n2 c2 b) -> Calls Tryz.prog 100 #[.slice A n c,.slice A2 n2 c2] x fun r w'=>∃ A3 c3,r = .returned (.slice A3 (Nt.dg 18446744073709551616 V).length c3) /\ U w' A3 (Nt.dg 18446744073709551616 V).length c3 (Nt.dg 18446744073709551616 V) /\ (Two w w.heap.size s A n c e (w.heap.size + 1) s A' n' c' f (w.heap.size + 1 + 1) w' /\ U w' A2 n2 c2 b)) :=
   Hd (fun x hx=>by
    have h9:=HADD.out x A2 c2 hx.1.2.2.1 hx.2
    rw [<- hV] at h9
    exact h9.mono fun r w' ⟨A3,c3,h1,h2,h3⟩=>⟨A3,c3,h1,h2,hx.1.go h3,hx.2.below h3⟩)
  have KEEP9 : Hid (∀ x,(Two w w.heap.size s A n c e (w.heap.size + 1) s A' n' c' f (w.heap.size + 1 + 1) x /\ U x A2 n2 c2 b) -> ∀ q A5 n5 c5 e5,Two w w.heap.size s A n c e (w.heap.size + 1) s A' n' c' f (w.heap.size + 1 + 1) (((x.setCell ⟨w.heap.size + 1 + 1,0,none⟩ (.bool q)).setCell ⟨w.heap.size + 1 + 1,1,none⟩ (.slice A5 n5 c5)).setCell ⟨w.heap.size + 1 + 1,2,none⟩ (.int .i64 e5)) /\ U (((x.setCell ⟨w.heap.size + 1 + 1,0,none⟩ (.bool q)).setCell ⟨w.heap.size + 1 + 1,1,none⟩ (.slice A5 n5 c5)).setCell ⟨w.heap.size + 1 + 1,2,none⟩ (.int .i64 e5)) A2 n2 c2 b):=Hd (fun x hx q A5 n5 c5 e5=>⟨Two.store hx.1 (by omega) (by omega) (by omega) q A5 n5 c5 e5,(Two.out hx.1 (by omega) hx.2 _ _ _).1⟩)
  clear hV
  generalize hlv : (Nt.dg 18446744073709551616 V) = lv at *
  generalize hkv : lv.length = kv at *
  have HLV:=Hd hlv
  have HKV:=Hd hkv
  clear hlv hkv
  go_region_held3 (fun x=>((x.cell? ⟨w.heap.size,0,none⟩ = some (.bool s) /\ x.cell? ⟨w.heap.size,1,none⟩ = some (.slice A n c) /\ x.cell? ⟨w.heap.size,2,none⟩ = some (.int .i64 e)) /\ (x.cell? ⟨w.heap.size + 1,0,none⟩ = some (.bool s) /\ x.cell? ⟨w.heap.size + 1,1,none⟩ = some (.slice A' n' c') /\ x.cell? ⟨w.heap.size + 1,2,none⟩ = some (.int .i64 f)) /\ Below w.heap.size w x /\ (w.heap.size < x.heap.size /\ w.heap.size + 1 < x.heap.size) /\ Shape x (w.heap.size + 1 + 1)) /\ U x A2 n2 c2 b) ((first | assumption | exact HS9.out | exact KEEP9.out _ (by assumption) _ _ _ _ _)) (first | (go_at_call 100; refine (HC9.out _ ?_).mono ?_; (assumption); rintro r w' ⟨A3,c3,rfl,hu3,hS⟩; have hS2:=hS; obtain ⟨⟨_,_,_,_,_,hfz,_,_,_,_,_,m0,m1,m2⟩,_⟩:=hS2; have z0:=hfz 0; have z1:=hfz 1; have z2:=hfz 2; clear hfz))
  have OUT:=Hd (Two.out (w:=w') hS.1 (by omega) hu3 (.bool s) (.slice A3 kv c3) (.int .i64 e))
  clear hS m0 m1 m2 z0 z1 z2 hu3 HC9 KEEP9 HS9 p1 p2 p3 p4 p5 p6 p7 p8
  go_wp2
  refine bodyPost_ret (v:=.agg #[.bool s,.slice A3 kv c3,.int .i64 e]) (by simp [results,Tryz.results54,go_sem,OUT.out.2.2.1,OUT.out.2.2.2.1,OUT.out.2.2.2.2]) rfl ⟨_,rfl,⟨A3,c3,by rw [HT9.out,HLV.out,HKV.out],by rw [HT9.out,HLV.out,HKV.out]; exact OUT.out.1⟩,OUT.out.2.1⟩
 ·have hsn : (s == s') = false:=by simpa using hss
  go_wp2_with fail
  have hcm:=HCMP.out w7 A2 c2 HT7.out.1.2.2.1 HT7.out.2
  refine hcm.mono ?_
  rintro r w8 ⟨rfl,hb8⟩
  have HT8 : Hid (Two w w.heap.size s A n c e (w.heap.size + 1) s' A' n' c' f (w.heap.size + 1 + 1) w8 /\ U w8 A2 n2 c2 b):=Hd ⟨HT7.out.1.go hb8,HT7.out.2.below hb8⟩
  have HS9 : Hid (Two w w.heap.size s A n c e (w.heap.size + 1) s' A' n' c' f (w.heap.size + 1 + 1) w8.drew /\ U w8.drew A2 n2 c2 b):=Hd ⟨HT8.out.1.drew,HT8.out.2.below (Below.refl _ _).drew⟩
  clear p1 p2 p3 p4 p5 p6 p7 p8 HT7 hb8 hcm
  obtain ⟨⟨p1,p2,p3⟩,⟨p4,p5,p6⟩,_,⟨p7,p8⟩,_⟩:=HT8.out.1
  by_cases hle : Q <= N
  ·have hci : 0 <= cmpI N Q:=by unfold cmpI; split; omega; split <;> omega
   generalize cmpI N Q = ci at *
   go_wp2_with fail
   obtain ⟨V,hV⟩ : ∃ V,V = N - Q:=⟨_,rfl⟩
   have HT9 : Hid (T = (s,V,e)):=Hd (by rw [HTT.out]; rw [if_neg hss,if_pos hle]; rw [hV])
   have HC9 : Hid (∀ x,(Two w w.heap.size s A n c e (w.heap.size + 1) s' A' n' c' f (w.heap.size + 1 + 1) x /\ U x A2 n2 c2 b) -> Calls Tryz.prog 102 #[.slice A n c,.slice A2 n2 c2] x fun r w'=>∃ A3 c3,r = .returned (.slice A3 (Nt.dg 18446744073709551616 V).length c3) /\ U w' A3 (Nt.dg 18446744073709551616 V).length c3 (Nt.dg 18446744073709551616 V) /\ (Two w w.heap.size s A n c e (w.heap.size + 1) s' A' n' c' f (w.heap.size + 1 + 1) w' /\ U w' A2 n2 c2 b)) :=
    Hd (fun x hx=>by
     have h9:=HSUB.out x A2 c2 hx.1.2.2.1 hx.2 hle
     rw [<- hV] at h9
     exact h9.mono fun r w' ⟨A3,c3,h1,h2,h3⟩=>⟨A3,c3,h1,h2,hx.1.go h3,hx.2.below h3⟩)
   have KEEP9 : Hid (∀ x,(Two w w.heap.size s A n c e (w.heap.size + 1) s' A' n' c' f (w.heap.size + 1 + 1) x /\ U x A2 n2 c2 b) -> ∀ q A5 n5 c5 e5,Two w w.heap.size s A n c e (w.heap.size + 1) s' A' n' c' f (w.heap.size + 1 + 1) (((x.setCell ⟨w.heap.size + 1 + 1,0,none⟩ (.bool q)).setCell ⟨w.heap.size + 1 + 1,1,none⟩ (.slice A5 n5 c5)).setCell ⟨w.heap.size + 1 + 1,2,none⟩ (.int .i64 e5)) /\ U (((x.setCell ⟨w.heap.size + 1 + 1,0,none⟩ (.bool q)).setCell ⟨w.heap.size + 1 + 1,1,none⟩ (.slice A5 n5 c5)).setCell ⟨w.heap.size + 1 + 1,2,none⟩ (.int .i64 e5)) A2 n2 c2 b):=Hd (fun x hx q A5 n5 c5 e5=>⟨Two.store hx.1 (by omega) (by omega) (by omega) q A5 n5 c5 e5,(Two.out hx.1 (by omega) hx.2 _ _ _).1⟩)
   clear hV
   generalize hlv : (Nt.dg 18446744073709551616 V) = lv at *
   generalize hkv : lv.length = kv at *
   have HLV:=Hd hlv
   have HKV:=Hd hkv
   clear hlv hkv
   go_region_held3 (fun x=>((x.cell? ⟨w.heap.size,0,none⟩ = some (.bool s) /\ x.cell? ⟨w.heap.size,1,none⟩ = some (.slice A n c) /\ x.cell? ⟨w.heap.size,2,none⟩ = some (.int .i64 e)) /\ (x.cell? ⟨w.heap.size + 1,0,none⟩ = some (.bool s') /\ x.cell? ⟨w.heap.size + 1,1,none⟩ = some (.slice A' n' c') /\ x.cell? ⟨w.heap.size + 1,2,none⟩ = some (.int .i64 f)) /\ Below w.heap.size w x /\ (w.heap.size < x.heap.size /\ w.heap.size + 1 < x.heap.size) /\ Shape x (w.heap.size + 1 + 1)) /\ U x A2 n2 c2 b) ((first | assumption | exact HS9.out | exact KEEP9.out _ (by assumption) _ _ _ _ _)) (first | (go_at_call 102; refine (HC9.out _ ?_).mono ?_; (assumption); rintro r w' ⟨A3,c3,rfl,hu3,hS⟩; have hS2:=hS; obtain ⟨⟨_,_,_,_,_,hfz,_,_,_,_,_,m0,m1,m2⟩,_⟩:=hS2; have z0:=hfz 0; have z1:=hfz 1; have z2:=hfz 2; clear hfz))
   have OUT:=Hd (Two.out (w:=w') hS.1 (by omega) hu3 (.bool s) (.slice A3 kv c3) (.int .i64 e))
   clear hS m0 m1 m2 z0 z1 z2 hu3 HC9 KEEP9 HS9 p1 p2 p3 p4 p5 p6 p7 p8
   go_wp2
   refine bodyPost_ret (v:=.agg #[.bool s,.slice A3 kv c3,.int .i64 e]) (by simp [results,Tryz.results54,go_sem,OUT.out.2.2.1,OUT.out.2.2.2.1,OUT.out.2.2.2.2]) rfl ⟨_,rfl,⟨A3,c3,by rw [HT9.out,HLV.out,HKV.out],by rw [HT9.out,HLV.out,HKV.out]; exact OUT.out.1⟩,OUT.out.2.1⟩
  ·have hci : ¬ 0 <= cmpI N Q:=by unfold cmpI; rw [if_pos (by omega)]; omega
   have hle2 : N <= Q:=by omega
   generalize cmpI N Q = ci at *
   go_wp2_with fail
   obtain ⟨V,hV⟩ : ∃ V,V = Q - N:=⟨_,rfl⟩
   have HT9 : Hid (T = (s',V,e)):=Hd (by rw [HTT.out]; rw [if_neg hss,if_neg hle]; rw [hV])
   have HC9 : Hid (∀ x,(Two w w.heap.size s A n c e (w.heap.size + 1) s' A' n' c' f (w.heap.size + 1 + 1) x /\ U x A2 n2 c2 b) -> Calls Tryz.prog 102 #[.slice A2 n2 c2,.slice A n c] x fun r w'=>∃ A3 c3,r = .returned (.slice A3 (Nt.dg 18446744073709551616 V).length c3) /\ U w' A3 (Nt.dg 18446744073709551616 V).length c3 (Nt.dg 18446744073709551616 V) /\ (Two w w.heap.size s A n c e (w.heap.size + 1) s' A' n' c' f (w.heap.size + 1 + 1) w' /\ U w' A2 n2 c2 b)) :=
    Hd (fun x hx=>by
     have h9:=HBUS.out x A2 c2 hx.1.2.2.1 hx.2 hle2
     rw [<- hV] at h9
     exact h9.mono fun r w' ⟨A3,c3,h1,h2,h3⟩=>⟨A3,c3,h1,h2,hx.1.go h3,hx.2.below h3⟩)
   have KEEP9 : Hid (∀ x,(Two w w.heap.size s A n c e (w.heap.size + 1) s' A' n' c' f (w.heap.size + 1 + 1) x /\ U x A2 n2 c2 b) -> ∀ q A5 n5 c5 e5,Two w w.heap.size s A n c e (w.heap.size + 1) s' A' n' c' f (w.heap.size + 1 + 1) (((x.setCell ⟨w.heap.size + 1 + 1,0,none⟩ (.bool q)).setCell ⟨w.heap.size + 1 + 1,1,none⟩ (.slice A5 n5 c5)).setCell ⟨w.heap.size + 1 + 1,2,none⟩ (.int .i64 e5)) /\ U (((x.setCell ⟨w.heap.size + 1 + 1,0,none⟩ (.bool q)).setCell ⟨w.heap.size + 1 + 1,1,none⟩ (.slice A5 n5 c5)).setCell ⟨w.heap.size + 1 + 1,2,none⟩ (.int .i64 e5)) A2 n2 c2 b):=Hd (fun x hx q A5 n5 c5 e5=>⟨Two.store hx.1 (by omega) (by omega) (by omega) q A5 n5 c5 e5,(Two.out hx.1 (by omega) hx.2 _ _ _).1⟩)
   clear hV
   generalize hlv : (Nt.dg 18446744073709551616 V) = lv at *
   generalize hkv : lv.length = kv at *
   have HLV:=Hd hlv
   have HKV:=Hd hkv
   clear hlv hkv
   go_region_held3 (fun x=>((x.cell? ⟨w.heap.size,0,none⟩ = some (.bool s) /\ x.cell? ⟨w.heap.size,1,none⟩ = some (.slice A n c) /\ x.cell? ⟨w.heap.size,2,none⟩ = some (.int .i64 e)) /\ (x.cell? ⟨w.heap.size + 1,0,none⟩ = some (.bool s') /\ x.cell? ⟨w.heap.size + 1,1,none⟩ = some (.slice A' n' c') /\ x.cell? ⟨w.heap.size + 1,2,none⟩ = some (.int .i64 f)) /\ Below w.heap.size w x /\ (w.heap.size < x.heap.size /\ w.heap.size + 1 < x.heap.size) /\ Shape x (w.heap.size + 1 + 1)) /\ U x A2 n2 c2 b) ((first | assumption | exact HS9.out | exact KEEP9.out _ (by assumption) _ _ _ _ _)) (first | (go_at_call 102; refine (HC9.out _ ?_).mono ?_; (assumption); rintro r w' ⟨A3,c3,rfl,hu3,hS⟩; have hS2:=hS; obtain ⟨⟨_,_,_,_,_,hfz,_,_,_,_,_,m0,m1,m2⟩,_⟩:=hS2; have z0:=hfz 0; have z1:=hfz 1; have z2:=hfz 2; clear hfz))
   have OUT:=Hd (Two.out (w:=w') hS.1 (by omega) hu3 (.bool s') (.slice A3 kv c3) (.int .i64 e))
   clear hS m0 m1 m2 z0 z1 z2 hu3 HC9 KEEP9 HS9 p1 p2 p3 p4 p5 p6 p7 p8
   go_wp2
   refine bodyPost_ret (v:=.agg #[.bool s',.slice A3 kv c3,.int .i64 e]) (by simp [results,Tryz.results54,go_sem,OUT.out.2.2.1,OUT.out.2.2.2.1,OUT.out.2.2.2.2]) rfl ⟨_,rfl,⟨A3,c3,by rw [HT9.out,HLV.out,HKV.out],by rw [HT9.out,HLV.out,HKV.out]; exact OUT.out.1⟩,OUT.out.2.1⟩
end
section
open Go.RowKit
def One (w0 : World) (g0 : Nat) (s0 : Bool) (A0 : Option Addr) (n0 c0 : Nat) (e0 : Int) (g2 : Nat) (w : World) : Prop :=
 Cells3 w g0 s0 A0 n0 c0 e0 /\ Below w0.heap.size w0 w /\ g0 < w.heap.size /\ Shape w g2
section
variable {w0 : World} {g0 : Nat} {s0 : Bool} {A0 : Option Addr} {n0 c0 : Nat} {e0 : Int} {g2 : Nat} {w : World}
theorem One.go (h : One w0 g0 s0 A0 n0 c0 e0 g2 w) {w' : World} (hb : Below w.heap.size w w') : One w0 g0 s0 A0 n0 c0 e0 g2 w':=by
 obtain ⟨h1,h2,h3,h4⟩:=h
 exact ⟨Cells3.below h1 h3 hb,h2.trans (hb.mono h2.size),Nat.lt_of_lt_of_le h3 hb.size,h4.below hb⟩
theorem One.out (h : One w0 g0 s0 A0 n0 c0 e0 g2 w) (hw : w0.heap.size <= g2) {A : Option Addr} {n c : Nat} {l : List Int} (hu : U w A n c l) (v1 v2 v3 : Value) :
  U (((w.setCell ⟨g2,0,none⟩ v1).setCell ⟨g2,1,none⟩ v2).setCell ⟨g2,2,none⟩ v3) A n c l /\ Below w0.heap.size w0 (((w.setCell ⟨g2,0,none⟩ v1).setCell ⟨g2,1,none⟩ v2).setCell ⟨g2,2,none⟩ v3) /\
  (((w.setCell ⟨g2,0,none⟩ v1).setCell ⟨g2,1,none⟩ v2).setCell ⟨g2,2,none⟩ v3).cell? ⟨g2,0,none⟩ = some v1 /\ (((w.setCell ⟨g2,0,none⟩ v1).setCell ⟨g2,1,none⟩ v2).setCell ⟨g2,2,none⟩ v3).cell? ⟨g2,1,none⟩ = some v2 /\ (((w.setCell ⟨g2,0,none⟩ v1).setCell ⟨g2,1,none⟩ v2).setCell ⟨g2,2,none⟩ v3).cell? ⟨g2,2,none⟩ = some v3:=by
 obtain ⟨h1,h2,h3,hg,_,s,A',n',c',e',k0,k1,k2⟩:=h
 obtain ⟨r1,r2,r3⟩:=num_store k0 k1 k2 hu v1 v2 v3
 exact ⟨r1,r2 _ _ hw h2,r3⟩
end
theorem One.start (w : World) (s0 : Bool) (A0 : Option Addr) (n0 c0 : Nat) (e0 : Int) (t : TypeId) :
  One w w.heap.size s0 A0 n0 c0 e0 (w.heap.size + 1) ((w.alloc (.cells #[.bool s0,.slice A0 n0 c0,.int .i64 e0] t)).alloc (.cells #[.bool false,.slice none 0 0,.int .i64 0] t)):=by
 have z1 : (w.alloc (.cells #[.bool s0,.slice A0 n0 c0,.int .i64 e0] t)).heap.size = w.heap.size + 1:=by simp
 generalize h1 : w.alloc (.cells #[.bool s0,.slice A0 n0 c0,.int .i64 e0] t) = W1 at *
 obtain ⟨a0,a1,a2,ha⟩:=new_cells w W1 (.bool s0) (.slice A0 n0 c0) (.int .i64 e0) t (by rw [h1]; exact Below.refl _ _)
 have z2 : (W1.alloc (.cells #[.bool false,.slice none 0 0,.int .i64 0] t)).heap.size = w.heap.size + 1 + 1:=by simp [z1]
 generalize h3 : W1.alloc (.cells #[.bool false,.slice none 0 0,.int .i64 0] t) = W3 at *
 obtain ⟨d0,d1,d2,hd⟩:=new_cells W1 W3 (.bool false) (.slice none 0 0) (.int .i64 0) t (by rw [h3]; exact Below.refl _ _)
 rw [z1] at d0 d1 d2
 have hfz : ∀ j,W3.frozen? ⟨w.heap.size + 1,j,none⟩ = false:=fun j=>by
  rw [<- h3,<- z1]
  exact frozen_of_row _ _ _ _ _ (heap_alloc_new W1 _)
 have e1 : Cells3 W3 w.heap.size s0 A0 n0 c0 e0:=Cells3.below ⟨a0,a1,a2⟩ (by omega) hd
 exact ⟨e1,ha.trans (hd.mono ha.size),by omega,by omega,hfz,_,_,_,_,_,d0,d1,d2⟩
def cutN (N : Nat) (e last : Int) : Bool × Nat × Int:=if N = 0 then (false,0,0) else if last <= e then (false,N,e) else (false,N / 2 ^ (last - e).toNat,last)
set_option maxRecDepth 400000 in
set_option maxHeartbeats 4000000 in
theorem cut_any (v : Value) (N : Nat) (e last : Int) (w : World) (hv : NumV w v false N e) (hl : (Nt.dg 18446744073709551616 N).length <= 50000000) (he1 : -100000000 <= e) (he2 : e <= 100000000) (hf1 : -100000000 <= last) (hf2 : last <= 100000000) :
  Calls Tryz.prog 162 #[v,.int .i64 last,.bool false] w (NumPost (cutN N e last) w):=by
 have hz:=fun x (hb : Below w.heap.size w x)=>zero_any v false N e x (hv.below hb) (by omega)
 obtain ⟨A,c,rfl,hu⟩:=hv
 obtain ⟨m,hm⟩ : ∃ m : Nat,m = (last - e).toNat:=⟨_,rfl⟩
 have hdn:=fun x (hb : Below w.heap.size w x)=>natDown_any A _ c _ m x (hu.below hb) (by omega) (Nt.dig_dg 18446744073709551616 (by decide) N) (by omega)
 rw [Nt.val_dg _ (by decide)] at hdn
 have HZ:=Hd hz
 have HDN:=Hd hdn
 have HU:=Hd hu
 clear hz hdn hu
 obtain ⟨l,hl2⟩ : ∃ l,l = Nt.dg 18446744073709551616 N:=⟨_,rfl⟩
 rw [<- hl2] at HZ HDN HU
 have HLN:=Hd hl2
 clear hl2
 obtain ⟨n,hn⟩ : ∃ n,n = l.length:=⟨_,rfl⟩
 rw [<- hn] at HZ HDN HU
 have HN:=Hd hn
 clear hn
 have hst:=One.start w false A n c e 52
 rw [<- HLN.out,<- HN.out]
 go_enter Tryz.func162,Tryz.ntmps162
 go_wp2_with fail
 generalize (w.alloc (.cells #[.bool false,.slice A n c,.int .i64 e] 52)).alloc (.cells #[.bool false,.slice none 0 0,.int .i64 0] 52) = W at *
 refine (HZ.out W hst.2.1).mono ?_
 rintro r w1 ⟨rfl,hb1⟩
 have ht1:=hst.go hb1
 have HT1:=Hd ht1
 obtain ⟨⟨p1,p2,p3⟩,_,p4,hsh⟩:=ht1
 clear hb1 hst
 by_cases hN : N = 0
 ·have dN : decide (N = 0) = true:=decide_eq_true hN
  rw [dN]
  have hcut : cutN N e last = (false,0,0):=by unfold cutN; rw [if_pos hN]
  have HCUT:=Hd hcut
  obtain ⟨_,hfz,_,_,_,_,_,m0,m1,m2⟩:=hsh
  have z0:=hfz 0
  have z1:=hfz 1
  have z2:=hfz 2
  have OUT:=Hd (HT1.out.out (by omega) (A:=none) (n:=0) (c:=0) (l:=[]) ⟨rfl,Nat.le_refl _,fun _=>rfl,fun k x hk=>by simp at hk⟩ (.bool false) (.slice none 0 0) (.int .i64 0))
  clear hfz hcut hN dN HZ HDN
  go_wp2
  refine bodyPost_ret (v:=.agg #[.bool false,.slice none 0 0,.int .i64 0]) (by simp [results,Tryz.results162,go_sem,OUT.out.2.2.1,OUT.out.2.2.2.1,OUT.out.2.2.2.2]) rfl ?_
  unfold NumPost
  rw [HCUT.out]
  exact ⟨_,rfl,⟨none,0,by simp [Nt.dg_zero],by simpa [Nt.dg_zero] using OUT.out.1⟩,OUT.out.2.1⟩
 ·have dN : decide (N = 0) = false:=decide_eq_false hN
  rw [dN]
  by_cases hle : last <= e
  ·have hcut : cutN N e last = (false,N,e):=by unfold cutN; rw [if_neg hN,if_pos hle]
   have HCUT:=Hd hcut
   obtain ⟨_,hfz,_,_,_,_,_,m0,m1,m2⟩:=hsh
   have z0:=hfz 0
   have z1:=hfz 1
   have z2:=hfz 2
   have OUT:=Hd (HT1.out.out (by omega) (HU.out.below HT1.out.2.1) (.bool false) (.slice A n c) (.int .i64 e))
   clear hfz hcut hN dN HZ HDN
   go_wp2
   refine bodyPost_ret (v:=.agg #[.bool false,.slice A n c,.int .i64 e]) (by simp [results,Tryz.results162,go_sem,OUT.out.2.2.1,OUT.out.2.2.2.1,OUT.out.2.2.2.2]) rfl ?_
   unfold NumPost
   rw [HCUT.out]
   exact ⟨_,rfl,⟨A,c,by rw [<- HLN.out,<- HN.out],by rw [<- HLN.out,<- HN.out]; exact OUT.out.1⟩,OUT.out.2.1⟩
  ·have hmi : (m : Int) = last - e:=by omega
   rw [hmi] at HDN
   have hcut : cutN N e last = (false,N / 2 ^ m,last):=by unfold cutN; rw [if_neg hN,if_neg hle,hm]
   have HCUT:=Hd hcut
   have hw : IntKind.i64.wrap (last - e) = last - e:=by rw [IntKind.wrap_i64]; omega
   clear hmi hm hsh hcut hN dN HZ
   obtain ⟨b,hb⟩ : ∃ b,b = decide (N % 2 ^ m ≠ 0):=⟨_,rfl⟩
   obtain ⟨Q,hQ⟩ : ∃ Q,Q = N / 2 ^ m:=⟨_,rfl⟩
   rw [<- hb,<- hQ] at HDN
   rw [<- hQ] at HCUT
   clear hb hQ
   obtain ⟨y,hy⟩ : ∃ y,y = Nt.dg 18446744073709551616 Q:=⟨_,rfl⟩
   rw [<- hy] at HDN
   have HY:=Hd hy
   obtain ⟨k,hk⟩ : ∃ k,k = y.length:=⟨_,rfl⟩
   rw [<- hk] at HDN
   have HKY:=Hd hk
   clear hy hk
   go_wp2_with fail
   refine (HDN.out w1 HT1.out.2.1).mono ?_
   rintro r w2 ⟨A3,c3,rfl,hu3,hb3⟩
   have ht2:=HT1.out.go hb3
   have HT2:=Hd ht2
   clear p1 p2 p3 p4 HT1 hb3
   obtain ⟨⟨p1,p2,p3⟩,_,p4,_,hfz,_,_,_,_,_,m0,m1,m2⟩:=ht2
   have z0:=hfz 0
   have z1:=hfz 1
   have z2:=hfz 2
   have OUT:=Hd (HT2.out.out (by omega) hu3 (.bool false) (.slice A3 k c3) (.int .i64 last))
   clear hfz hu3 HDN
   cases b
   all_goals
    go_wp2
    refine bodyPost_ret (v:=.agg #[.bool false,.slice A3 k c3,.int .i64 last]) (by simp [results,Tryz.results162,go_sem,OUT.out.2.2.1,OUT.out.2.2.2.1,OUT.out.2.2.2.2]) rfl ?_
    unfold NumPost
    rw [HCUT.out]
    exact ⟨_,rfl,⟨A3,c3,by rw [<- HY.out,<- HKY.out],by rw [<- HY.out,<- HKY.out]; exact OUT.out.1⟩,OUT.out.2.1⟩
end
end Go.Proofs.YtfpopdneokekiaaGreatDoor

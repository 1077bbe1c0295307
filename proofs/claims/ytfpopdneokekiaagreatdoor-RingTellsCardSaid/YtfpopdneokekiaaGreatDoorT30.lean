/-
rosetteref09's plus.
-/
import Derived.Test.YtfpopdneokekiaaGreatDoorT28
import Derived.Deep.RegionWith
import Derived.Lib.Hide
set_option linter.unusedVariables false
set_option linter.unusedSimpArgs false
namespace Go.Proofs.YtfpopdneokekiaaGreatDoor
section
namespace Fl
open Ieee
def Pos (x : Nat) : Prop:=rg x < I /\ 0 <= key x
theorem vl_le {x y : Nat} : vl x <= vl y ↔ key x <= key y:=by rw [vl_key,vl_key]; exact V_le_iff
theorem Pos.vl {x : Nat} (h : Pos x) : 0 <= vl x:=by rw [vl_key,<- V_zero]; exact V_le h.2
theorem DirW.exact (k d w : Nat) (hk : k < I) (h : key w = k) (hw : rg w <= I) : DirW true (V k * 2 ^ d) d w:=by
 refine ⟨hw,(k : Int),?_,?_⟩
 ·unfold Dir
  rw [if_pos rfl]
  exact ⟨Int.le_refl _,Int.mul_lt_mul_of_pos_right (V_lt (by omega)) (pow_pos_int d)⟩
 ·rw [h]
  unfold clamp
  rw [if_pos rfl]
  have : (0 : Int) < I:=by decide
  generalize I = i at *
  omega
theorem DirW.nonneg {n : Int} {d w : Nat} (h : DirW true n d w) (hn : 0 <= n) : 0 <= key w:=by
 have h0:=DirW.zero true d 0 (by decide)
 have:=DirW.mono h0 h (.inr rfl) (by rw [Int.zero_mul]; exact Int.mul_nonneg hn (Int.le_of_lt (pow_pos_int d)))
 rwa [show key 0 = 0 by decide] at this
theorem DirW.grow {n m : Int} {d w x : Nat} (h1 : DirW true n d w) (h2 : DirW true m d x) (h : n <= m) : key w <= key x :=
 DirW.mono h1 h2 (.inr rfl) (Int.mul_le_mul_of_nonneg_right h (Int.le_of_lt (pow_pos_int d)))
theorem key_pos_rg {x : Nat} (h : 0 <= key x) : key x = rg x:=by
 unfold key at *
 split
 ·rename_i hs; rw [if_pos hs] at h; omega
 ·rfl
theorem fin_of_le {x y : Nat} (hx : rg x <= I) (h : key x <= key y) (h0 : 0 <= key x) (hy : rg y < I) : rg x < I:=by
 rw [key_pos_rg h0] at h
 have:=(key_fin_range hy).2
 omega
theorem mul_dir {x y s : Nat} (hx : Pos x) (hy : Pos y) (h : Is (mulS x y true) s) : DirW true (vl x * vl y) E s:=by
 obtain ⟨r,h1,h2⟩:=mulS_dir x y true hx.1 hy.1
 rw [h1] at h
 have : s = r:=h
 rw [this]; exact h2
theorem add_dir {x y s : Nat} (wx : x < 2 * W) (wy : y < 2 * W) (hx : Pos x) (hy : Pos y) (h : Is (addS x y true) s) : DirW true (vl x + vl y) 0 s:=by
 have hd:=addF_dir x y true wx wy hx.1 hy.1
 unfold addS at h
 rw [if_pos ⟨hx.1,hy.1⟩] at h
 have : s = addF x y true:=h
 rw [this]; exact hd
theorem prod_mono {a b a' b' : Int} (h0 : 0 <= a) (h1 : 0 <= b) (ha : a <= a') (hb : b <= b') : a * b <= a' * b' :=
 Int.mul_le_mul ha hb h1 (Int.le_trans h0 ha)
theorem least_pos : Pos 103582791429521408:=by unfold Pos; decide
theorem step_pos {x y s X Y S : Nat} (hx : Pos x) (hy : Pos y) (h : Is (mulS x y true) s) (hX : Pos X) (hY : Pos Y) (hS : mulS X Y true = some S) (hf : rg S < I) (h1 : key x <= key X) (h2 : key y <= key Y) : Pos s /\ key s <= key S:=by
 have d1:=mul_dir hx hy h
 have d2 : DirW true (vl X * vl Y) E S:=mul_dir hX hY (by rw [hS]; rfl)
 have k0:=d1.nonneg (Int.mul_nonneg hx.vl hy.vl)
 have k1:=d1.grow d2 (prod_mono hx.vl hy.vl (vl_le.2 h1) (vl_le.2 h2))
 exact ⟨⟨fin_of_le d1.1 k1 k0 hf,k0⟩,k1⟩
theorem last_ge {u s : Nat} (wu : u < 2 * W) (hu : Pos u) (h : Is (addS u 103582791429521408 true) s) : key 103582791429521408 <= key s:=by
 have d1:=add_dir wu (by decide) hu least_pos h
 have k : key 103582791429521408 = (103582791429521408 : Nat):=by decide
 have d0:=DirW.exact 103582791429521408 0 103582791429521408 (by decide) k (by decide)
 refine d0.grow d1 ?_
 rw [Int.pow_zero,Int.mul_one,<- k,<- vl_key]
 have:=hu.vl
 omega
theorem last_fin {u s U S : Nat} (wu : u < 2 * W) (wU : U < 2 * W) (hu : Pos u) (hU : Pos U) (h : Is (addS u 103582791429521408 true) s) (hS : addS U 103582791429521408 true = some S) (hf : rg S < I) (h1 : key u <= key U) : Pos s /\ key s <= key S:=by
 have d1:=add_dir wu (by decide) hu least_pos h
 have d2 : DirW true (vl U + vl 103582791429521408) 0 S:=add_dir wU (by decide) hU least_pos (by rw [hS]; rfl)
 have k0:=d1.nonneg (by have:=hu.vl; have:=least_pos.vl; omega)
 have k1:=d1.grow d2 (by have:=vl_le.2 h1; omega)
 exact ⟨⟨fin_of_le d1.1 k1 k0 hf,k0⟩,k1⟩
end Fl
end
section
open Go.RowKit
theorem nextafter_up (x y : Nat) (w : World) (hx : 0 < x) (hxy : x < y) (hy : y <= Fl.I) : Calls Tryz.prog 158 #[.float .f64 x,.float .f64 y] w fun e w'=>e = .returned (.float .f64 (x + 1)) /\ w = w':=by
 have hIW:=Fl.I_lt_W
 have rx : Fl.rg x = x:=Nat.mod_eq_of_lt (by omega)
 have ry : Fl.rg y = y:=Nat.mod_eq_of_lt (by omega)
 have nx:=fun w=>isnan_no x w (by rw [rx]; omega)
 have ny:=fun w=>isnan_no y w (by rw [ry]; exact hy)
 have o1 : FloatKind.f64.format.order x y = some .lt:=by rw [Fl.ord_pos x y (by omega) hy,Fl.compare_int,if_pos (by omega)]
 have o2 : FloatKind.f64.format.order y x = some .gt:=by rw [Fl.ord_pos y x hy (by omega),Fl.compare_int,if_neg (by omega),if_neg (by omega)]
 have o3 : FloatKind.f64.format.order x 0 = some .gt:=by
  have e:=Fl.ord_pos x 0 (by omega) (Nat.zero_le _)
  rw [Fl.compare_int,if_neg (by omega),if_neg (by omega)] at e
  exact e
 have hb:=run_bits x
 have hf:=fun n=>run_from n
 have hw : IntKind.u64.wrap ((x : Int) + 1) = ((x + 1 : Nat) : Int):=by rw [IntKind.wrap_u64]; unfold Fl.I at hy; omega
 have NX:=Hd nx
 have NY:=Hd ny
 have HT : Hid ((((x + 1 : Nat) : Int)).toNat = x + 1):=Hd (by omega)
 clear nx ny rx ry hIW hx hxy hy
 go_enter Tryz.func158,Tryz.ntmps158
 go_wp2_with fail
 refine (NX.out _).mono ?_
 rintro e w' ⟨rfl,rfl⟩
 go_wp2_with fail
 refine (NY.out _).mono ?_
 rintro e w' ⟨rfl,rfl⟩
 go_wp2
 go_ret
 exact ⟨ret_fl (by first | rfl | exact HT.out | omega),rfl⟩
theorem z3_0 (s a b : Nat) : z3 s a b 0 = s:=rfl
theorem z3_1 (s a b : Nat) : z3 s a b 1 = a:=rfl
theorem z3_2 (s a b : Nat) : z3 s a b 2 = b:=rfl
theorem Is_some {o : Option Nat} {r s : Nat} (h : Fl.Is o s) (ho : o = some r) : s = r:=by rw [ho] at h; exact h
end
section
open Go.RowKit
theorem inf_up (w : World) : Calls Tryz.prog 133 #[.int .i64 1] w fun e w'=>e = .returned (.float .f64 Fl.I) /\ w = w':=by
 have hf:=run_from
 go_enter Tryz.func133,Tryz.ntmps133
 go_wp2
 go_ret
 exact ⟨rfl,rfl⟩
set_option maxRecDepth 400000 in
set_option maxHeartbeats 8000000 in
theorem up_fin (v : Value) (s : Bool) (N : Nat) (e : Int) (f g : Nat) (sf : Bool) (Nf : Nat) (ef : Int) (T2 : Int) (w : World) (hv : NumV w v s N e) (hf : f < 2 * Fl.W) (ff : Fl.rg f < Fl.I)
  (hnear : ∀ x,Below w.heap.size w x -> Calls Tryz.prog 157 #[v] x fun r w'=>r = .returned (.float .f64 f) /\ Below x.heap.size x w')
  (hflt : ∀ x,Calls Tryz.prog 135 #[.float .f64 f] x fun r w'=>∃ v',r = .returned v' /\ NumV w' v' sf Nf ef /\ Below x.heap.size x w')
  (hcmp : ∀ x u v',NumV x u sf Nf ef -> NumV x v' s N e -> Calls Tryz.prog 51 #[u,v'] x fun r w'=>r = .returned (.int .i64 T2) /\ Below x.heap.size x w')
  (hna : T2 < 0 -> ∀ x,Calls Tryz.prog 158 #[.float .f64 f,.float .f64 Fl.I] x fun r w'=>r = .returned (.float .f64 g) /\ x = w') :
  Calls Tryz.prog 134 #[v] w fun r w'=>r = .returned (.float .f64 (if T2 < 0 then g else f)) /\ Below w.heap.size w w':=by
 have HV:=Hd hv
 have hsub:=fun w=>run_float_arith (P:=Tryz.prog) w .sub 32 .f64 f f 0 (Fl.sub_self_fin f hf ff)
 have HNE:=Hd hnear
 have HFL:=Hd hflt
 have HCM:=Hd hcmp
 have HNA:=Hd hna
 have HI:=Hd inf_up
 obtain ⟨A,c,rfl,hu⟩:=hv
 clear hu hnear hflt hcmp hna hf ff
 generalize (Nt.dg 18446744073709551616 N).length = n at *
 generalize (Nt.dg 18446744073709551616 Nf) = lf at *
 obtain ⟨nf,hnf⟩ : ∃ nf,nf = lf.length:=⟨_,rfl⟩
 have HNF:=Hd hnf
 clear hnf
 obtain ⟨k0,k1,k2,hbw⟩:=new_cells w (w.alloc (.cells #[.bool s,.slice A n c,.int .i64 e] 52)) (.bool s) (.slice A n c) (.int .i64 e) 52 (Below.refl _ _)
 have hbx : Bx w w.heap.size s A n c e (w.alloc (.cells #[.bool s,.slice A n c,.int .i64 e] 52)):=⟨⟨k0,k1,k2⟩,hbw,alloc_lt w _⟩
 clear k0 k1 k2 hbw
 go_enter Tryz.func134,Tryz.ntmps134
 go_wp2_with fail
 generalize w.alloc (.cells #[.bool s,.slice A n c,.int .i64 e] 52) = W at *
 refine (HNE.out W hbx.2.1).mono ?_
 rintro r w1 ⟨rfl,hb1⟩
 have HX1:=Hd (hbx.go hb1)
 clear hb1 hbx HNE
 obtain ⟨⟨p1,p2,p3⟩,p4,p5⟩:=HX1.out
 have HS0 : Hid (Bx w w.heap.size s A n c e w1.drew):=Hd (HX1.out.go (Below.refl _ _).drew)
 have HC1 : Hid (∀ x,Bx w w.heap.size s A n c e x -> Calls Tryz.prog 135 #[.float .f64 f] x fun r w'=>∃ A3 c3,r = .returned (.agg #[.bool sf,.slice A3 (Nt.dg 18446744073709551616 Nf).length c3,.int .i64 ef]) /\ U w' A3 (Nt.dg 18446744073709551616 Nf).length c3 (Nt.dg 18446744073709551616 Nf) /\ Bx w w.heap.size s A n c e w') :=
  Hd (fun x hx=>(HFL.out x).mono fun r w' ⟨v',g1,⟨A3,c3,g2,g3⟩,g4⟩=>⟨A3,c3,by rw [g1,g2],g3,hx.go g4⟩)
 have HC2 : Hid (∀ x A3 c3,Bx w w.heap.size s A n c e x -> U x A3 (Nt.dg 18446744073709551616 Nf).length c3 (Nt.dg 18446744073709551616 Nf) -> Calls Tryz.prog 51 #[.agg #[.bool sf,.slice A3 (Nt.dg 18446744073709551616 Nf).length c3,.int .i64 ef],.agg #[.bool s,.slice A n c,.int .i64 e]] x fun r w'=>r = .returned (.int .i64 T2) /\ Bx w w.heap.size s A n c e w') :=
  Hd (fun x A3 c3 hx hu=>(HCM.out x _ _ ⟨A3,c3,rfl,hu⟩ (HV.out.below hx.2.1)).mono fun r w' ⟨g1,g2⟩=>⟨g1,hx.go g2⟩)
 obtain ⟨lg,hlg⟩ : ∃ lg,lg = Nt.dg 18446744073709551616 Nf:=⟨_,rfl⟩
 rw [<- hlg] at HC1 HC2
 obtain ⟨ng,hng⟩ : ∃ ng,ng = lg.length:=⟨_,rfl⟩
 rw [<- hng] at HC1 HC2
 clear hlg hng HFL HCM HV
 go_wp2_with fail
 go_region_held3 (fun x=>(x.cell? ⟨w.heap.size,0,none⟩ = some (.bool s) /\ x.cell? ⟨w.heap.size,1,none⟩ = some (.slice A n c) /\ x.cell? ⟨w.heap.size,2,none⟩ = some (.int .i64 e)) /\ Below w.heap.size w x /\ w.heap.size < x.heap.size) ((first | assumption | exact HS0.out)) (first | (go_at_call 135; refine (HC1.out _ ?_).mono ?_; (assumption); rintro r w' ⟨A3,c3,rfl,hu3,hS⟩) | (go_at_call 51; refine (HC2.out _ _ _ ?_ ?_).mono ?_; (assumption); (assumption); rintro r w' ⟨rfl,hS5⟩))
 have HX9:=Hd hS5
 clear hS5 hu3 HC1 HC2 HS0 p1 p2 p3 p4 p5
 by_cases ht : T2 < 0
 ·have HN2:=Hd (HNA.out ht)
  have HE : Hid ((if T2 < 0 then g else f) = g):=Hd (if_pos ht)
  go_wp2_with fail
  refine (HI.out _).mono ?_
  rintro r w2 ⟨rfl,rfl⟩
  go_wp2_with fail
  refine (HN2.out _).mono ?_
  rintro r w2 ⟨rfl,rfl⟩
  go_wp2
  go_ret
  exact ⟨by first | rfl | (rw [HE.out]; rfl),HX9.out.2.1⟩
 ·have HE : Hid ((if T2 < 0 then g else f) = f):=Hd (if_neg ht)
  go_wp2
  go_ret
  exact ⟨by first | rfl | (rw [HE.out]; rfl),HX9.out.2.1⟩
theorem nextafter_zero (w : World) : Calls Tryz.prog 158 #[.float .f64 0,.float .f64 Fl.I] w fun e w'=>e = .returned (.float .f64 1) /\ w = w':=by
 have NX:=Hd (fun w=>isnan_no 0 w (by decide))
 have NY:=Hd (fun w=>isnan_no Fl.I w (by decide))
 have o1 : FloatKind.f64.format.order 0 Fl.I = some .lt:=by decide +kernel
 have o3 : FloatKind.f64.format.order 0 0 = some .eq:=by decide +kernel
 have HCS:=Hd (fun w=>copysign_any 1 Fl.I w (by decide) (by decide))
 have hf:=run_from 1
 generalize hI : Fl.I = I' at *
 go_enter Tryz.func158,Tryz.ntmps158
 go_wp2_with fail
 refine (NX.out _).mono ?_
 rintro e w' ⟨rfl,rfl⟩
 go_wp2_with fail
 refine (NY.out _).mono ?_
 rintro e w' ⟨rfl,rfl⟩
 go_wp2_with fail
 refine (HCS.out _).mono ?_
 rintro e w' ⟨rfl,rfl⟩
 go_wp2
 go_ret
 exact ⟨by subst hI; rfl,rfl⟩
end
section
open Go.RowKit
set_option maxRecDepth 400000 in
set_option maxHeartbeats 8000000 in
theorem up_inf (v : Value) (s : Bool) (N : Nat) (e : Int) (f : Nat) (w : World) (hv : NumV w v s N e) (ff : ¬ Fl.rg f < Fl.I)
  (hnear : ∀ x,Below w.heap.size w x -> Calls Tryz.prog 157 #[v] x fun r w'=>r = .returned (.float .f64 f) /\ Below x.heap.size x w') :
  Calls Tryz.prog 134 #[v] w fun r w'=>r = .returned (.float .f64 f) /\ Below w.heap.size w w':=by
 have HNE:=Hd hnear
 obtain ⟨A,c,rfl,hu⟩:=hv
 clear hu hnear
 generalize (Nt.dg 18446744073709551616 N).length = n at *
 obtain ⟨k0,k1,k2,hbw⟩:=new_cells w (w.alloc (.cells #[.bool s,.slice A n c,.int .i64 e] 52)) (.bool s) (.slice A n c) (.int .i64 e) 52 (Below.refl _ _)
 have hbx : Bx w w.heap.size s A n c e (w.alloc (.cells #[.bool s,.slice A n c,.int .i64 e] 52)):=⟨⟨k0,k1,k2⟩,hbw,alloc_lt w _⟩
 clear k0 k1 k2 hbw
 go_enter Tryz.func134,Tryz.ntmps134
 go_wp2_with fail
 generalize w.alloc (.cells #[.bool s,.slice A n c,.int .i64 e] 52) = W at *
 refine (HNE.out W hbx.2.1).mono ?_
 rintro r w1 ⟨rfl,hb1⟩
 have HX1:=Hd (hbx.go hb1)
 clear hb1 hbx HNE
 have hnone : floatBits .sub .f64 f f = none:=Fl.sub_self_not f ff
 obtain ⟨nz,hnz,hor⟩ : ∃ nz : World -> Nat,(∀ w : World,(binOp .sub 32 (.float .f64 f) (.float .f64 f)).run Tryz.prog w = .ok (.float .f64 (nz w)) w.drew) /\ ∀ w,FloatKind.f64.format.order (nz w) 0 = none :=
  ⟨fun w=>(w.tape w.drawn (.nanBits .f64 f f) % 2) * 2 ^ 63 + 0x7ff0000000000000 + 1 + (w.tape w.drawn (.nanBits .f64 f f) / 2) % (2 ^ 52 - 1),fun w=>by
   simp only [floatBits] at hnone
   simp [binOp,Op.floatArith,hnone,Question.forced,Question.cut],fun w=>nan_order _ (Fl.nan_draw _).1⟩
 clear hnone ff
 have HS0 : Hid (∀ x,Bx w w.heap.size s A n c e x -> Bx w w.heap.size s A n c e x.drew):=Hd (fun x hx=>hx.go (Below.refl _ _).drew)
 obtain ⟨⟨p1,p2,p3⟩,p4,p5⟩:=HX1.out
 have hor2 : ∀ w,(FloatKind.f64.format.order (nz w) 0 == some .eq) = false:=fun w=>by rw [hor]; rfl
 clear hor
 go_wp2_with fail
 first | go_region_with (fail) | fail
 all_goals
  go_wp2
  go_ret
  exact ⟨rfl,(HS0.out _ (HS0.out _ HX1.out)).2.1⟩
end
section
open Go.RowKit
theorem plusN_exp9 (s : Bool) (N : Nat) (e : Int) (s' : Bool) (M : Nat) (f : Int) : (plusN s N e s' M f).2.2 = e \/ (plusN s N e s' M f).2.2 = f:=by
 unfold plusN
 split
 ·exact .inr rfl
 ·split
  ·exact .inl rfl
  ·split <;> (unfold plusC; first | (split <;> first | exact .inl rfl | exact .inr rfl | (split <;> first | exact .inl rfl | exact .inr rfl)))
theorem nearest_zero (v : Value) (s : Bool) (e : Int) (w : World) (hv : NumV w v s 0 e) :
  Calls Tryz.prog 157 #[v] w fun r w'=>r = .returned (.float .f64 0) /\ Below w.heap.size w w':=by
 have HZ:=Hd (fun x (hb : Below w.heap.size w x)=>zero_any v s 0 e x (hv.below hb) (by rw [Nt.dg_zero]; decide))
 obtain ⟨A,c,rfl,hu⟩:=hv
 clear hu
 generalize (Nt.dg 18446744073709551616 0).length = n at *
 obtain ⟨k0,k1,k2,hbw⟩:=new_cells w (w.alloc (.cells #[.bool s,.slice A n c,.int .i64 e] 52)) (.bool s) (.slice A n c) (.int .i64 e) 52 (Below.refl _ _)
 have HB:=Hd hbw
 clear k0 k1 k2 hbw
 go_enter Tryz.func157,Tryz.ntmps157
 go_wp2_with fail
 refine (HZ.out _ HB.out).mono ?_
 rintro r w1 ⟨rfl,hb1⟩
 have HB1:=Hd (HB.out.trans (hb1.mono HB.out.size))
 clear hb1 HZ
 go_wp2
 go_ret
 exact ⟨rfl,HB1.out⟩
theorem nearest_any (v : Value) (N p : Nat) (e : Int) (w : World) (hv : NumV w v false N e) (hN : N ≠ 0) (hp : N < 2 ^ p) (hp2 : p <= 5000) (he1 : -2148 <= e) (he2 : e <= 5000) :
  Calls Tryz.prog 157 #[v] w fun r w'=>r = .returned (.float .f64 (fL (nearN (lowN N e (lastN N e)) (halfN N e (lastN N e))) (lastN N e))) /\ Below w.heap.size w w':=by
 obtain ⟨last,hlast⟩ : ∃ last,last = lastN N e:=⟨_,rfl⟩
 rw [<- hlast]
 have hl : -1074 <= last:=by rw [hlast]; unfold lastN; omega
 obtain ⟨b1,b2,b3⟩:=Nt.bits_range N hN
 have hbp : bitsN N <= p:=by
  have h:=Nat.lt_of_le_of_lt b2 hp
  have:=(Nat.pow_lt_pow_iff_right (a:=2) (by decide)).1 h
  omega
 have hl2 : last <= 10000:=by rw [hlast]; unfold lastN; omega
 obtain ⟨s,hs⟩ : ∃ s : Nat,last + 1074 = s:=⟨(last + 1074).toNat,by omega⟩
 obtain ⟨n1,n2⟩:=near_next N e last s hN (by omega) he2 hs hlast
 obtain ⟨M,hM⟩ : ∃ M,M = (cutN N e last).2.1:=⟨_,rfl⟩
 obtain ⟨f,hf⟩ : ∃ f,f = (cutN N e last).2.2:=⟨_,rfl⟩
 have hcut : cutN N e last = (false,M,f):=by
  rw [hM,hf]; unfold cutN; rw [if_neg hN]; split <;> rfl
 have hMN : M <= N:=by
  rw [hM]; unfold cutN; rw [if_neg hN]; split
  ·exact Nat.le_refl _
  ·exact Nat.div_le_self _ _
 have hfe : f = e \/ f = last:=by
  rw [hf]; unfold cutN; rw [if_neg hN]; split
  ·exact .inl rfl
  ·exact .inr rfl
 have hfl : last <= f:=by
  rw [hf]; unfold cutN; rw [if_neg hN]; split
  ·rename_i h; exact h
  ·exact Int.le_refl _
 have lenN:=Nt.len_of_lt N p hp
 have lenM:=Nt.len_of_lt M p (Nat.lt_of_le_of_lt hMN hp)
 have hD:=Nt.plusN_lt false N e true M f p 30000 hp (Nat.lt_of_le_of_lt hMN hp) (by omega) (by omega)
 have hDe:=plusN_exp9 false N e true M f
 have lenD:=Nt.len_of_lt _ _ hD
 have h1 : (1 : Nat) < 2 ^ (p + 30000 + 1):=Nat.one_lt_two_pow (by omega)
 have hD2:=Nt.plusN_lt (plusN false N e true M f).1 (plusN false N e true M f).2.1 (plusN false N e true M f).2.2 true 1 (last - 1) (p + 30000 + 1) 30000 hD h1 (by omega) (by omega)
 have lenD2:=Nt.len_of_lt _ _ hD2
 have hr : restN N e last = plusN false N e true M f:=by unfold restN; rw [<- hM,<- hf]
 have hh : halfN N e last = cmpN (plusN false N e true M f).1 (plusN false N e true M f).2.1 (plusN false N e true M f).2.2 false 1 (last - 1):=by unfold halfN; rw [hr]
 have hlw : lowN N e last = M * 2 ^ (f - last).toNat:=by unfold lowN; rw [<- hM,<- hf]
 clear hD hD2 h1
 obtain ⟨D,hDD⟩ : ∃ D,D = plusN false N e true M f:=⟨_,rfl⟩
 rw [<- hDD] at hDe lenD lenD2 hh
 obtain ⟨D1,D2,D3⟩:=D
 dsimp only at hDe lenD lenD2 hh
 exact nearest_go v N e last M f D1 D2 D3 _ (lowN N e last) w hv hN (by omega) (by omega) he2 (by rw [hlast]; rfl) (by omega) hcut (by omega) hfl (by omega) hlw n1 hDD.symm (by omega) (by omega) (by omega) (by omega) hh
end
section
open Go.RowKit
def Fl.UpW (X k : Nat) : Prop:=∃ q,k = min q Fl.I /\ X <= Fl.rv q * 2 ^ 1074 /\ (0 < q -> Fl.rv (q - 1) * 2 ^ 1074 < X)
theorem nv_word (f : Nat) (hf : f < Fl.I) : Fl.sg f = false /\ Fl.rg f = f /\ Nt.nv (Fl.sg f) (Fl.mant (Fl.rg f)) (Fl.pl f) 2148 = ((Fl.rv f * 2 ^ 1074 : Nat) : Int):=by
 have hW:=Nat.lt_trans hf Fl.I_lt_W
 have hr : Fl.rg f = f:=Nat.mod_eq_of_lt hW
 have hs : Fl.sg f = false:=by
  have e : Fl.sg f = (f / Fl.W % 2 == 1):=rfl
  rw [e,Nat.div_eq_of_lt hW]; rfl
 refine ⟨hs,hr,?_⟩
 rw [hs,hr]
 unfold Nt.nv Nt.sz Fl.pl Fl.rv
 rw [hr,if_neg (by simp),show (-1074 + ((Fl.ex f : Nat) : Int) + 2148).toNat = Fl.ex f + 1074 by omega,Nat.pow_add,Nat.mul_assoc]
theorem up_any (v : Value) (s : Bool) (N p : Nat) (e : Int) (w : World) (hv : NumV w v s N e) (hs : N ≠ 0 -> s = false) (hp : N < 2 ^ p) (hp2 : p <= 5000) (he1 : -2148 <= e) (he2 : e <= 5000) :
  Calls Tryz.prog 134 #[v] w fun r w'=>∃ k,r = .returned (.float .f64 k) /\ k <= Fl.I /\ Fl.UpW (N * 2 ^ (e + 2148).toNat) k /\ Below w.heap.size w w':=by
 have hIW:=Fl.I_lt_W
 have lenN:=Nt.len_of_lt N p hp
 -- of a float below infinity
 have fin : ∀ f g : Nat,f < Fl.I -> (∀ x,Below w.heap.size w x -> Calls Tryz.prog 157 #[v] x fun r w'=>r = .returned (.float .f64 f) /\ Below x.heap.size x w') ->
   (Fl.rv f * 2 ^ 1074 < N * 2 ^ (e + 2148).toNat -> ∀ x,Calls Tryz.prog 158 #[.float .f64 f,.float .f64 Fl.I] x fun r w'=>r = .returned (.float .f64 g) /\ x = w') ->
   Calls Tryz.prog 134 #[v] w fun r w'=>r = .returned (.float .f64 (if Fl.rv f * 2 ^ 1074 < N * 2 ^ (e + 2148).toNat then g else f)) /\ Below w.heap.size w w':=by
  intro f g hf hn hg
  obtain ⟨e1,e2,e3⟩:=nv_word f hf
  have hm:=Fl.mant_lt (Fl.rg f)
  have hm2 : Fl.mant (Fl.rg f) < 2 ^ 53:=by unfold Fl.B at hm; omega
  have lenF:=Nt.len_of_lt _ 53 hm2
  have hpl : -1074 <= Fl.pl f /\ Fl.pl f <= 1100:=by
   have hx : Fl.ex (Fl.rg f) <= 2047:=by
    rw [e2]; unfold Fl.ex
    have : f / Fl.B <= 2047:=by unfold Fl.B; unfold Fl.I at hf; omega
    omega
   unfold Fl.pl; omega
  obtain ⟨P,hP⟩ : ∃ P,P = 5053:=⟨_,rfl⟩
  have hD:=Nt.plusN_lt (Fl.sg f) (Fl.mant (Fl.rg f)) (Fl.pl f) (!s) N e P 10000 (Nat.lt_of_lt_of_le hm2 (Nat.pow_le_pow_right (by decide) (by omega))) (Nat.lt_of_lt_of_le hp (Nat.pow_le_pow_right (by decide) (by omega))) (by omega) (by omega)
  have lenD:=Nt.len_of_lt _ _ hD
  have hnv : Nt.nv s N e 2148 = ((N * 2 ^ (e + 2148).toNat : Nat) : Int):=by
   unfold Nt.nv Nt.sz
   by_cases h0 : N = 0
   ·rw [h0,Nat.zero_mul]; split <;> rfl
   ·rw [hs h0,if_neg (by simp)]
  have hval:=Nt.cmpN_val (Fl.sg f) (Fl.mant (Fl.rg f)) (Fl.pl f) s N e 2148 (by omega) (by omega)
  rw [e3,hnv] at hval
  have hT : (cmpN (Fl.sg f) (Fl.mant (Fl.rg f)) (Fl.pl f) s N e < 0) ↔ Fl.rv f * 2 ^ 1074 < N * 2 ^ (e + 2148).toNat:=by
   rw [hval]
   unfold Nt.ordI
   generalize Fl.rv f * 2 ^ 1074 = Y
   generalize N * 2 ^ (e + 2148).toNat = X
   constructor
   ·intro h; split at h
    ·omega
    ·split at h <;> omega
   ·intro h; rw [if_pos (by omega)]; decide
  clear hD
  have h:=up_fin v s N e f g (Fl.sg f) (Fl.mant (Fl.rg f)) (Fl.pl f) (cmpN (Fl.sg f) (Fl.mant (Fl.rg f)) (Fl.pl f) s N e) w hv (by omega) (by rw [e2]; exact hf) hn (fun x=>float_any f x (by omega))
   (fun x u v' hu hv'=>compare_any u _ _ _ v' s N e x hu hv' (by omega) (by omega) (by omega) (by omega) (by omega) (by omega) (by omega)) (fun ht=>hg (hT.1 ht))
  refine h.mono fun r w' ⟨k1,k2⟩=>⟨?_,k2⟩
  rw [k1]
  by_cases hc : Fl.rv f * 2 ^ 1074 < N * 2 ^ (e + 2148).toNat
  ·rw [if_pos hc,if_pos (hT.2 hc)]
  ·rw [if_neg hc,if_neg (fun hh=>hc (hT.1 hh))]
 by_cases hN : N = 0
 ·subst hN
  have h:=fin 0 0 (by decide) (fun x hb=>nearest_zero v s e x (hv.below hb)) (fun hh=>by rw [Nat.zero_mul] at hh; omega)
  refine h.mono fun r w' ⟨k1,k2⟩=>⟨0,?_,Nat.zero_le _,⟨0,(Nat.zero_min _).symm,by rw [Nat.zero_mul]; exact Nat.zero_le _,fun hh=>absurd hh (Nat.lt_irrefl 0)⟩,k2⟩
  rw [k1]; split <;> rfl
 ·obtain rfl:=hs hN
  obtain ⟨r,r1,r2,r3⟩:=nearest_next N e hN (by omega) he2
  have hnear:=fun x (hb : Below w.heap.size w x)=>nearest_any v N p e x (hv.below hb) hN hp hp2 he1 he2
  rw [r1] at hnear
  have hwd : Fl.wd false (min r Fl.I) = min r Fl.I:=rfl
  rw [hwd] at hnear
  clear r1
  generalize hX : N * 2 ^ (e + 2148).toNat = X at *
  have mono : Fl.rv r * 2 ^ 1074 < Fl.rv (r + 1) * 2 ^ 1074:=Nat.mul_lt_mul_of_pos_right (Fl.rv_lt_succ r) (Nat.two_pow_pos 1074)
  generalize hA : Fl.rv r * 2 ^ 1074 = A at *
  have hup : ∀ k,(k = min (r + 1) Fl.I /\ A < X) \/ (k = min r Fl.I /\ X <= A) -> Fl.UpW X k:=by
   intro k hk
   rcases hk with ⟨h1,h2⟩ | ⟨h1,h2⟩
   ·exact ⟨r + 1,h1,Nat.le_of_lt r2,fun _=>by rw [Nat.add_sub_cancel,hA]; exact h2⟩
   ·exact ⟨r,h1,by rw [hA]; exact h2,r3⟩
  by_cases hr : r < Fl.I
  ·rw [Nat.min_eq_left (Nat.le_of_lt hr)] at hnear
   have h:=fin r (r + 1) hr hnear (fun _ x=>by
    rcases Nat.eq_zero_or_pos r with h0 | h0
    ·subst h0; exact nextafter_zero x
    ·exact nextafter_up r Fl.I x h0 hr (Nat.le_refl _))
   rw [hA] at h
   refine h.mono fun r' w' ⟨k1,k2⟩=>⟨_,k1,?_,hup _ ?_,k2⟩
   ·split <;> omega
   ·by_cases hc : A < X
    ·rw [if_pos hc]; exact .inl ⟨(Nat.min_eq_left hr).symm,hc⟩
    ·rw [if_neg hc]; exact .inr ⟨(Nat.min_eq_left (Nat.le_of_lt hr)).symm,by omega⟩
  ·rw [Nat.min_eq_right (by omega)] at hnear
   have h:=up_inf v false N e Fl.I w hv (by decide) hnear
   refine h.mono fun r' w' ⟨k1,k2⟩=>⟨Fl.I,k1,Nat.le_refl _,hup _ ?_,k2⟩
   by_cases hc : A < X
   ·exact .inl ⟨(Nat.min_eq_right (by omega)).symm,hc⟩
   ·exact .inr ⟨(Nat.min_eq_right (by omega)).symm,by omega⟩
end
section
open Go.RowKit
theorem sg_of_pos {a : Nat} (h : 0 <= Fl.key a) (h0 : Fl.mant (Fl.rg a) ≠ 0) : Fl.sg a = false:=by
 have hr : 0 < Fl.rg a:=by
  rcases Nat.eq_zero_or_pos (Fl.rg a) with hz | hz
  ·rw [hz] at h0; exact absurd (by decide) h0
  ·exact hz
 rw [Fl.key_of] at h
 unfold Fl.sgz at h
 cases hs : Fl.sg a
 ·rfl
 ·rw [hs] at h; simp at h; omega
theorem rtimes_fin (a b : Nat) (w : World) (ha : a < 2 * Fl.W) (hb : b < 2 * Fl.W) (fa : Fl.rg a < Fl.I) (fb : Fl.rg b < Fl.I) (pa : 0 <= Fl.key a) (pb : 0 <= Fl.key b) :
  Calls Tryz.prog 85 #[.float .f64 a,.float .f64 b] w fun r w'=>∃ k,r = .returned (.float .f64 k) /\ k <= Fl.I /\ Fl.UpW (Fl.rv (Fl.rg a) * Fl.rv (Fl.rg b)) k /\ Below w.heap.size w w':=by
 have r1:=fun w=>run_float_arith (P:=Tryz.prog) w .sub 32 .f64 a a 0 (Fl.sub_self_fin a ha fa)
 have r2:=fun w=>run_float_arith (P:=Tryz.prog) w .sub 32 .f64 b b 0 (Fl.sub_self_fin b hb fb)
 have o1 : FloatKind.f64.format.order 0 0 = some .eq:=by decide
 have ma : Fl.mant (Fl.rg a) < 2 ^ 53:=by have:=Fl.mant_lt (Fl.rg a); unfold Fl.B at this; omega
 have mb : Fl.mant (Fl.rg b) < 2 ^ 53:=by have:=Fl.mant_lt (Fl.rg b); unfold Fl.B at this; omega
 have la:=Nt.len_of_lt _ _ ma
 have lb:=Nt.len_of_lt _ _ mb
 have ex : ∀ x,Fl.rg x < Fl.I -> -1074 <= Fl.pl x /\ Fl.pl x <= 1100:=fun x hx=>by
  have h2 : Fl.ex (Fl.rg x) <= 2047:=by
   unfold Fl.ex
   have : Fl.rg x / Fl.B <= 2047:=by unfold Fl.B; unfold Fl.I at hx; omega
   omega
  unfold Fl.pl; omega
 have ea:=ex a fa
 have eb:=ex b fb
 have hsn : Fl.mant (Fl.rg a) * Fl.mant (Fl.rg b) ≠ 0 -> (Fl.sg a != Fl.sg b) = false:=fun h=>by
  rw [sg_of_pos pa (fun hz=>h (by rw [hz,Nat.zero_mul])),sg_of_pos pb (fun hz=>h (by rw [hz,Nat.mul_zero]))]; rfl
 have hX : Fl.mant (Fl.rg a) * Fl.mant (Fl.rg b) * 2 ^ (Fl.pl a + Fl.pl b + 2148).toNat = Fl.rv (Fl.rg a) * Fl.rv (Fl.rg b):=by
  unfold Fl.rv Fl.pl
  rw [show (-1074 + ((Fl.ex (Fl.rg a) : Nat) : Int) + (-1074 + ((Fl.ex (Fl.rg b) : Nat) : Int)) + 2148).toNat = Fl.ex (Fl.rg a) + Fl.ex (Fl.rg b) by omega,Nat.pow_add]
  ac_rfl
 have hlt : Fl.mant (Fl.rg a) * Fl.mant (Fl.rg b) < 2 ^ 106:=by
  have : Fl.mant (Fl.rg a) * Fl.mant (Fl.rg b) < 2 ^ 53 * 2 ^ 53:=Nat.mul_lt_mul'' ma mb
  rwa [<- Nat.pow_add] at this
 have HT:=Hd (fun x u v hu hv=>times_any u (Fl.sg a) (Fl.mant (Fl.rg a)) (Fl.pl a) v (Fl.sg b) (Fl.mant (Fl.rg b)) (Fl.pl b) x hu hv (by omega) (by omega) (by omega) (by omega) (by omega) (by omega))
 have hup:=fun x u hu=>up_any u (Fl.sg a != Fl.sg b) (Fl.mant (Fl.rg a) * Fl.mant (Fl.rg b)) 106 (Fl.pl a + Fl.pl b) x hu hsn hlt (by omega) (by omega) (by omega)
 rw [hX] at hup
 have HU:=Hd hup
 clear hup hX hsn hlt ma mb la lb ea eb ex
 generalize Fl.rv (Fl.rg a) * Fl.rv (Fl.rg b) = X at *
 go_enter Tryz.func85,Tryz.ntmps85
 go_wp2_with fail
 refine (float_any a _ ha).mono ?_
 rintro e w1 ⟨va,rfl,hva,hb1⟩
 have HVA:=Hd hva
 have HB1:=Hd hb1
 clear hva hb1
 go_wp2_with fail
 refine (float_any b _ hb).mono ?_
 rintro e w2 ⟨vb,rfl,hvb,hb2⟩
 have HVB:=Hd hvb
 have HVA2:=Hd (HVA.out.below hb2)
 have HB2:=Hd (HB1.out.trans (hb2.mono HB1.out.size))
 clear hvb hb2 HVA
 go_wp2_with fail
 refine (HT.out w2 va vb HVA2.out HVB.out).mono ?_
 rintro e w3 ⟨vs,rfl,hvs,hb3⟩
 have HVS:=Hd hvs
 have HB3:=Hd (HB2.out.trans (hb3.mono HB2.out.size))
 clear hvs hb3 HVB HVA2
 go_wp2_with fail
 refine (HU.out w3 vs HVS.out).mono ?_
 rintro e w4 ⟨k,rfl,hk,huk,hb4⟩
 have HK:=Hd hk
 have HUK:=Hd huk
 have HB4:=Hd (HB3.out.trans (hb4.mono HB3.out.size))
 clear hb4 hk huk
 go_wp2
 go_ret
 exact ⟨k,rfl,HK.out,HUK.out,HB4.out⟩
end
section
open Go.RowKit
theorem nv_pos9 {a : Nat} (h : 0 <= Fl.key a) : Nt.nv (Fl.sg a) (Fl.mant (Fl.rg a)) (Fl.pl a) 2148 = ((Fl.rv (Fl.rg a) * 2 ^ 1074 : Nat) : Int):=by
 have e : Fl.mant (Fl.rg a) * 2 ^ (Fl.pl a + 2148).toNat = Fl.rv (Fl.rg a) * 2 ^ 1074:=by
  unfold Fl.rv Fl.pl
  rw [show (-1074 + ((Fl.ex (Fl.rg a) : Nat) : Int) + 2148).toNat = Fl.ex (Fl.rg a) + 1074 by omega,Nat.pow_add,Nat.mul_assoc]
 unfold Nt.nv Nt.sz
 by_cases h0 : Fl.mant (Fl.rg a) = 0
 ·have hz : Fl.rv (Fl.rg a) = 0:=by unfold Fl.rv; rw [h0,Nat.zero_mul]
  have z1 : Fl.mant (Fl.rg a) * 2 ^ (Fl.pl a + 2148).toNat = 0:=by rw [h0,Nat.zero_mul]
  rw [e] at z1
  rw [e,z1]; split <;> rfl
 ·rw [sg_of_pos h h0,if_neg (by simp),e]
theorem rplus_fin (a b : Nat) (w : World) (ha : a < 2 * Fl.W) (hb : b < 2 * Fl.W) (fa : Fl.rg a < Fl.I) (fb : Fl.rg b < Fl.I) (pa : 0 <= Fl.key a) (pb : 0 <= Fl.key b) :
  Calls Tryz.prog 88 #[.float .f64 a,.float .f64 b] w fun r w'=>∃ k,r = .returned (.float .f64 k) /\ k <= Fl.I /\ Fl.UpW ((Fl.rv (Fl.rg a) + Fl.rv (Fl.rg b)) * 2 ^ 1074) k /\ Below w.heap.size w w':=by
 have r1:=fun w=>run_float_arith (P:=Tryz.prog) w .sub 32 .f64 a a 0 (Fl.sub_self_fin a ha fa)
 have o1 : FloatKind.f64.format.order 0 0 = some .eq:=by decide
 have ma : Fl.mant (Fl.rg a) < 2 ^ 53:=by have:=Fl.mant_lt (Fl.rg a); unfold Fl.B at this; omega
 have mb : Fl.mant (Fl.rg b) < 2 ^ 53:=by have:=Fl.mant_lt (Fl.rg b); unfold Fl.B at this; omega
 have la:=Nt.len_of_lt _ _ ma
 have lb:=Nt.len_of_lt _ _ mb
 have ex : ∀ x,Fl.rg x < Fl.I -> -1074 <= Fl.pl x /\ Fl.pl x <= 1100:=fun x hx=>by
  have h2 : Fl.ex (Fl.rg x) <= 2047:=by
   unfold Fl.ex
   have : Fl.rg x / Fl.B <= 2047:=by unfold Fl.B; unfold Fl.I at hx; omega
   omega
  unfold Fl.pl; omega
 have ea:=ex a fa
 have eb:=ex b fb
 obtain ⟨g1,g2⟩:=Nt.plusN_val (Fl.sg a) (Fl.mant (Fl.rg a)) (Fl.pl a) (Fl.sg b) (Fl.mant (Fl.rg b)) (Fl.pl b) 2148 (by omega) (by omega)
 rw [nv_pos9 pa,nv_pos9 pb] at g2
 have hD:=Nt.plusN_lt (Fl.sg a) (Fl.mant (Fl.rg a)) (Fl.pl a) (Fl.sg b) (Fl.mant (Fl.rg b)) (Fl.pl b) 53 2500 ma mb (by omega) (by omega)
 have hDe:=plusN_exp9 (Fl.sg a) (Fl.mant (Fl.rg a)) (Fl.pl a) (Fl.sg b) (Fl.mant (Fl.rg b)) (Fl.pl b)
 have HP:=Hd (fun x u v hu hv=>plus_any u (Fl.sg a) (Fl.mant (Fl.rg a)) (Fl.pl a) v (Fl.sg b) (Fl.mant (Fl.rg b)) (Fl.pl b) x hu hv (by omega) (by omega) (by omega) (by omega) (by omega) (by omega))
 obtain ⟨D,hDD⟩ : ∃ D,D = plusN (Fl.sg a) (Fl.mant (Fl.rg a)) (Fl.pl a) (Fl.sg b) (Fl.mant (Fl.rg b)) (Fl.pl b):=⟨_,rfl⟩
 rw [<- hDD] at g1 g2 hD hDe HP
 obtain ⟨D1,D2,D3⟩:=D
 dsimp only at g1 g2 hD hDe
 have hpos : 0 < 2 ^ (D3 + 2148).toNat:=Nat.two_pow_pos _
 have hX : D2 * 2 ^ (D3 + 2148).toNat = (Fl.rv (Fl.rg a) + Fl.rv (Fl.rg b)) * 2 ^ 1074 /\ (D2 ≠ 0 -> D1 = false):=by
  unfold Nt.nv Nt.sz at g2
  rw [Nat.add_mul]
  have hm : D2 ≠ 0 -> 0 < D2 * 2 ^ (D3 + 2148).toNat:=fun h=>Nat.mul_pos (Nat.pos_of_ne_zero h) hpos
  generalize D2 * 2 ^ (D3 + 2148).toNat = Z at *
  generalize Fl.rv (Fl.rg a) * 2 ^ 1074 = A at *
  generalize Fl.rv (Fl.rg b) * 2 ^ 1074 = B at *
  cases D1
  ·rw [if_neg (by simp)] at g2
   exact ⟨by omega,fun _=>rfl⟩
  ·rw [if_pos rfl] at g2
   exact ⟨by omega,fun h=>by have:=hm h; omega⟩
 have hup:=fun x u hu=>up_any u D1 D2 (53 + 2500 + 1) D3 x hu hX.2 hD (by omega) (by omega) (by omega)
 rw [hX.1] at hup
 have HU:=Hd hup
 clear hup hX hD hDe hDD g1 g2 ma mb la lb ea eb ex hpos
 generalize (Fl.rv (Fl.rg a) + Fl.rv (Fl.rg b)) * 2 ^ 1074 = X at *
 unfold NumPost at HP
 dsimp only at HP
 go_enter Tryz.func88,Tryz.ntmps88
 go_wp2_with fail
 refine (float_any a _ ha).mono ?_
 rintro e w1 ⟨va,rfl,hva,hb1⟩
 have HVA:=Hd hva
 have HB1:=Hd hb1
 clear hva hb1
 go_wp2_with fail
 refine (float_any b _ hb).mono ?_
 rintro e w2 ⟨vb,rfl,hvb,hb2⟩
 have HVB:=Hd hvb
 have HVA2:=Hd (HVA.out.below hb2)
 have HB2:=Hd (HB1.out.trans (hb2.mono HB1.out.size))
 clear hvb hb2 HVA
 go_wp2_with fail
 refine (HP.out w2 va vb HVA2.out HVB.out).mono ?_
 rintro e w3 ⟨vs,rfl,hvs,hb3⟩
 have HVS:=Hd hvs
 have HB3:=Hd (HB2.out.trans (hb3.mono HB2.out.size))
 clear hvs hb3 HVB HVA2
 go_wp2_with fail
 refine (HU.out w3 vs HVS.out).mono ?_
 rintro e w4 ⟨k,rfl,hk,huk,hb4⟩
 have HK:=Hd hk
 have HUK:=Hd huk
 have HB4:=Hd (HB3.out.trans (hb4.mono HB3.out.size))
 clear hb4 hk huk
 go_wp2
 go_ret
 exact ⟨k,rfl,HK.out,HUK.out,HB4.out⟩
theorem rplus_inf (a b : Nat) (w : World) (fa : ¬ Fl.rg a < Fl.I) :
  Calls Tryz.prog 88 #[.float .f64 a,.float .f64 b] w fun r w'=>r = .returned (.float .f64 a) /\ Below w.heap.size w w':=by
 obtain ⟨s,w1,hr,hs,hw1⟩:=run_float_any .sub 32 a a w (by simp)
 have hs1 : Fl.Is none s:=by rw [<- Fl.sub_self_not a fa]; exact hs
 have ho:=nan_order s hs1.1
 have HD : Hid (Dr w w1):=by rcases hw1 with rfl | rfl; exact Dr.refl _; exact Dr.drew _
 clear hs hs1 hw1 fa
 go_enter Tryz.func88,Tryz.ntmps88
 go_wp2
 go_ret
 exact ⟨rfl,HD.out.below2 _⟩
end
end Go.Proofs.YtfpopdneokekiaaGreatDoor

/-
Walk: angle's reduced. Out of genred.py.
-/
import Derived.Test.YtnpanpkahbcecaaGreatDoorP21
import Derived.WalkMore
import Derived.Lib.Hide
set_option linter.unusedVariables false
set_option linter.unusedSimpArgs false
namespace Go.Proofs.YtnpanpkahbcecaaGreatDoor
section
open Go.RowKit
def cmpZ (x y : Int) : Int:=if x < y then -1 else if y < x then 1 else 0
theorem ret_i64 {a b : Int} (h : a = b) : Ending.returned (.int .i64 a) = .returned (.int .i64 b):=by rw [h]
set_option maxRecDepth 100000 in
set_option maxHeartbeats 2000000 in
theorem bcmp_any (gx gy : Nat) (x y : Int) (w : World) (hx : BI w gx x) (hy : BI w gy y) :
  Calls Tryz.prog 228 #[.pointer (some ⟨gx,0,none⟩),.pointer (some ⟨gy,0,none⟩)] w fun e w'=>e = .returned (.int .i64 (cmpZ x y)) /\ Below w.heap.size w w':=by
 obtain ⟨A,n,c,⟨h1,h2⟩,_,h5,h6⟩:=id hx
 obtain ⟨A',n',c',⟨h1',h2'⟩,_,h5',h6'⟩:=id hy
 obtain ⟨D,hD⟩ : ∃ D,D = cmpZ x y:=⟨_,rfl⟩
 rw [<- hD]
 rcases (show (x < 0 /\ y < 0) \/ (x < 0 /\ ¬ y < 0) \/ (¬ x < 0 /\ y < 0) \/ (¬ x < 0 /\ ¬ y < 0) by omega) with ⟨a1,a2⟩ | ⟨a1,a2⟩ | ⟨a1,a2⟩ | ⟨a1,a2⟩
 ·rw [decide_eq_true a1] at h1
  rw [decide_eq_true a2] at h1'
  have HO:=Hd (fun v (h : Below w.heap.size w v)=>Ld.of ⟨h1,h2⟩ h6 h)
  have HO':=Hd (fun v (h : Below w.heap.size w v)=>Ld.of ⟨h1',h2'⟩ h6' h)
  have HC:=Hd (fun v (h : Below w.heap.size w v)=>bcompare_any A' n' c' y.natAbs A n c x.natAbs v (h5'.below h) (h5.below h))
  have HE : Hid ((if y.natAbs < x.natAbs then (-1 : Int) else if x.natAbs < y.natAbs then 1 else 0) = D):=Hd (by
   rw [hD]; unfold cmpZ
   rcases Int.lt_trichotomy x y with h | h | h
   ·rw [if_pos (by omega),if_pos h]
   ·rw [if_neg (by omega),if_neg (by omega),if_neg (by omega),if_neg (by omega)]
   ·rw [if_neg (by omega),if_pos (by omega),if_neg (by omega),if_pos h])
  obtain ⟨C,hC⟩ : ∃ C : Int,C = (if y.natAbs < x.natAbs then (-1 : Int) else if x.natAbs < y.natAbs then 1 else 0):=⟨_,rfl⟩
  rw [<- hC] at HC HE
  clear hx hy h5 h5' hD a1 a2 hC
  go_enter Tryz.func228,Tryz.ntmps228
  go_wp2_with fail
  go_quiet (fail)
  rename_i nq
  have HB0:=Hd (Below.drewN' (Below.refl w.heap.size w) nq)
  obtain ⟨_,k1,k2⟩:=HO.out _ HB0.out
  obtain ⟨_,k3,k4⟩:=HO'.out _ HB0.out
  generalize w.drewN nq = w0 at *
  go_wp2_with fail
  go_quiet (fail)
  rename_i nq
  have HB9:=Hd (Below.drewN' HB0.out nq)
  clear HB0 k1 k2 k3 k4
  have HB0:=HB9
  clear HB9
  obtain ⟨_,k1,k2⟩:=HO.out _ HB0.out
  obtain ⟨_,k3,k4⟩:=HO'.out _ HB0.out
  generalize w0.drewN nq = w9 at *
  go_wp2_with fail
  refine wp_region_hl (fun v=>Below w.heap.size w v /\ (v.cell? ⟨gx,0,none⟩ = some (.bool true) /\ v.cell? ⟨gx,1,none⟩ = some (.slice A n c)) /\ (v.cell? ⟨gy,0,none⟩ = some (.bool true) /\ v.cell? ⟨gy,1,none⟩ = some (.slice A' n' c'))) [true,true,true,true,true,true,true,true,false,true] (by kernel_rfl) (by kernel_rfl) (fun _ _ _ _ _ h=>h) ?_ ?_
  ·exact ⟨below_drew HB0.out,(HO.out _ (below_drew HB0.out)).2,(HO'.out _ (below_drew HB0.out)).2⟩
  iterate 8
   refine wpHL_take ?_ (by rfl) ?_ ?_
   rotate_left
   ·rintro v ⟨_,⟨_,_⟩,_,_⟩; go_simp; try with_reducible rfl
   simp only [Act.put,List.setIfInBounds_toArray,List.set_cons_zero,List.set_cons_succ]
  refine wpHL_call (by rfl) (fun K hK=>?_)
  have HK:=Hd hK
  clear hK
  go_simp
  refine (HC.out _ ?_).mono ?_
  ·exact below_drew HB0.out
  rintro e w1 ⟨rfl,hb1⟩
  have HB1:=Hd ((below_drew HB0.out).trans (hb1.mono (below_drew HB0.out).size))
  clear hb1
  refine HK.out _ _ ⟨HB1.out,(HO.out _ HB1.out).2,(HO'.out _ HB1.out).2⟩ ?_
  clear HK
  try simp only [Act.put,List.setIfInBounds_toArray,List.set_cons_zero,List.set_cons_succ]
  iterate 1
   refine wpHL_take ?_ (by rfl) ?_ ?_
   rotate_left
   ·rintro v ⟨_,⟨_,_⟩,_,_⟩; go_simp; try with_reducible rfl
   simp only [Act.put,List.setIfInBounds_toArray,List.set_cons_zero,List.set_cons_succ]
  refine wpHL_nil ?_
  go_wp2
  go_ret
  exact ⟨ret_i64 HE.out,HB1.out⟩
 ·rw [decide_eq_true a1] at h1
  rw [decide_eq_false a2] at h1'
  have HO:=Hd (fun v (h : Below w.heap.size w v)=>Ld.of ⟨h1,h2⟩ h6 h)
  have HO':=Hd (fun v (h : Below w.heap.size w v)=>Ld.of ⟨h1',h2'⟩ h6' h)
  have HE : Hid (-1 = D):=Hd (by rw [hD]; unfold cmpZ; rw [if_pos (by omega)])
  clear hx hy h5 h5' hD a1 a2
  go_enter Tryz.func228,Tryz.ntmps228
  go_wp2_with fail
  go_quiet (fail)
  rename_i nq
  have HB0:=Hd (Below.drewN' (Below.refl w.heap.size w) nq)
  obtain ⟨_,k1,k2⟩:=HO.out _ HB0.out
  obtain ⟨_,k3,k4⟩:=HO'.out _ HB0.out
  generalize w.drewN nq = w0 at *
  go_wp2_with fail
  go_ret
  exact ⟨ret_i64 HE.out,HB0.out⟩
 ·rw [decide_eq_false a1] at h1
  rw [decide_eq_true a2] at h1'
  have HO:=Hd (fun v (h : Below w.heap.size w v)=>Ld.of ⟨h1,h2⟩ h6 h)
  have HO':=Hd (fun v (h : Below w.heap.size w v)=>Ld.of ⟨h1',h2'⟩ h6' h)
  have HE : Hid (1 = D):=Hd (by rw [hD]; unfold cmpZ; rw [if_neg (by omega),if_pos (by omega)])
  clear hx hy h5 h5' hD a1 a2
  go_enter Tryz.func228,Tryz.ntmps228
  go_wp2_with fail
  go_quiet (fail)
  rename_i nq
  have HB0:=Hd (Below.drewN' (Below.refl w.heap.size w) nq)
  obtain ⟨_,k1,k2⟩:=HO.out _ HB0.out
  obtain ⟨_,k3,k4⟩:=HO'.out _ HB0.out
  generalize w.drewN nq = w0 at *
  go_wp2_with fail
  go_quiet (fail)
  rename_i nq
  have HB9:=Hd (Below.drewN' HB0.out nq)
  clear HB0 k1 k2 k3 k4
  have HB0:=HB9
  clear HB9
  obtain ⟨_,k1,k2⟩:=HO.out _ HB0.out
  obtain ⟨_,k3,k4⟩:=HO'.out _ HB0.out
  generalize w0.drewN nq = w9 at *
  go_wp2_with fail
  go_ret
  exact ⟨ret_i64 HE.out,HB0.out⟩
 ·rw [decide_eq_false a1] at h1
  rw [decide_eq_false a2] at h1'
  have HO:=Hd (fun v (h : Below w.heap.size w v)=>Ld.of ⟨h1,h2⟩ h6 h)
  have HO':=Hd (fun v (h : Below w.heap.size w v)=>Ld.of ⟨h1',h2'⟩ h6' h)
  have HC:=Hd (fun v (h : Below w.heap.size w v)=>bcompare_any A n c x.natAbs A' n' c' y.natAbs v (h5.below h) (h5'.below h))
  have HE : Hid ((if x.natAbs < y.natAbs then (-1 : Int) else if y.natAbs < x.natAbs then 1 else 0) = D):=Hd (by
   rw [hD]; unfold cmpZ
   rcases Int.lt_trichotomy x y with h | h | h
   ·rw [if_pos (by omega),if_pos h]
   ·rw [if_neg (by omega),if_neg (by omega),if_neg (by omega),if_neg (by omega)]
   ·rw [if_neg (by omega),if_pos (by omega),if_neg (by omega),if_pos h])
  obtain ⟨C,hC⟩ : ∃ C : Int,C = (if x.natAbs < y.natAbs then (-1 : Int) else if y.natAbs < x.natAbs then 1 else 0):=⟨_,rfl⟩
  rw [<- hC] at HC HE
  clear hx hy h5 h5' hD a1 a2 hC
  go_enter Tryz.func228,Tryz.ntmps228
  go_wp2_with fail
  go_quiet (fail)
  rename_i nq
  have HB0:=Hd (Below.drewN' (Below.refl w.heap.size w) nq)
  obtain ⟨_,k1,k2⟩:=HO.out _ HB0.out
  obtain ⟨_,k3,k4⟩:=HO'.out _ HB0.out
  generalize w.drewN nq = w0 at *
  go_wp2_with fail
  go_quiet (fail)
  rename_i nq
  have HB9:=Hd (Below.drewN' HB0.out nq)
  clear HB0 k1 k2 k3 k4
  have HB0:=HB9
  clear HB9
  obtain ⟨_,k1,k2⟩:=HO.out _ HB0.out
  obtain ⟨_,k3,k4⟩:=HO'.out _ HB0.out
  generalize w0.drewN nq = w9 at *
  go_wp2_with fail
  refine wp_region_hl (fun v=>Below w.heap.size w v /\ (v.cell? ⟨gx,0,none⟩ = some (.bool false) /\ v.cell? ⟨gx,1,none⟩ = some (.slice A n c)) /\ (v.cell? ⟨gy,0,none⟩ = some (.bool false) /\ v.cell? ⟨gy,1,none⟩ = some (.slice A' n' c'))) [true,true,true,true,true,true,true,true,false,true] (by kernel_rfl) (by kernel_rfl) (fun _ _ _ _ _ h=>h) ?_ ?_
  ·exact ⟨below_drew HB0.out,(HO.out _ (below_drew HB0.out)).2,(HO'.out _ (below_drew HB0.out)).2⟩
  iterate 8
   refine wpHL_take ?_ (by rfl) ?_ ?_
   rotate_left
   ·rintro v ⟨_,⟨_,_⟩,_,_⟩; go_simp; try with_reducible rfl
   simp only [Act.put,List.setIfInBounds_toArray,List.set_cons_zero,List.set_cons_succ]
  refine wpHL_call (by rfl) (fun K hK=>?_)
  have HK:=Hd hK
  clear hK
  go_simp
  refine (HC.out _ ?_).mono ?_
  ·exact below_drew HB0.out
  rintro e w1 ⟨rfl,hb1⟩
  have HB1:=Hd ((below_drew HB0.out).trans (hb1.mono (below_drew HB0.out).size))
  clear hb1
  refine HK.out _ _ ⟨HB1.out,(HO.out _ HB1.out).2,(HO'.out _ HB1.out).2⟩ ?_
  clear HK
  try simp only [Act.put,List.setIfInBounds_toArray,List.set_cons_zero,List.set_cons_succ]
  iterate 1
   refine wpHL_take ?_ (by rfl) ?_ ?_
   rotate_left
   ·rintro v ⟨_,⟨_,_⟩,_,_⟩; go_simp; try with_reducible rfl
   simp only [Act.put,List.setIfInBounds_toArray,List.set_cons_zero,List.set_cons_succ]
  refine wpHL_nil ?_
  go_wp2
  go_ret
  exact ⟨ret_i64 HE.out,HB1.out⟩
end
section
open Go.RowKit
def valV (v : An.Val) : Value:=.agg #[.bool v.neg,.bool v.whole,.bool v.sine,.int .i64 v.n,.int .i64 v.step,.int .i64 v.of]
namespace An
theorem floorM_some {P : Nat} {v : Val} {F : Nat} (h : floorM P v = some F) : ∃ s : Int,seriesM (P * (2 * v.step) / v.of) 164 v.sine = some s /\ (16777216 <= s /\ s < 2 ^ 1000 /\ (s - 16777216) / 18446744073709551616 = (s + 16777216) / 18446744073709551616) /\ (F : Int) = (s - 16777216) / 18446744073709551616:=by
 unfold floorM at h
 cases hs : seriesM (P * (2 * v.step) / v.of) 164 v.sine with
 | none=>rw [hs] at h; cases h
 | some s =>
   rw [hs] at h
   simp only at h
   by_cases hc : 16777216 <= s /\ s < 2 ^ 1000 /\ (s - 16777216) / 18446744073709551616 = (s + 16777216) / 18446744073709551616
   ·rw [if_pos hc] at h
    refine ⟨s,rfl,hc,?_⟩
    have h2:=Option.some.inj h
    rw [<- h2,Int.toNat_of_nonneg (Int.ediv_nonneg (by omega) (by decide))]
   ·rw [if_neg hc] at h; cases h
end An
set_option maxRecDepth 100000 in
set_option maxHeartbeats 4000000 in
theorem floor_any (v : An.Val) (P F : Nat) (w : World) (hP : An.piM 164 = some (P : Int)) (hPb : P < 2 ^ 200) (ho1 : 1 <= v.of) (ho2 : v.of <= 65536) (hs : v.step <= 65536) (h : An.floorM P v = some F) :
  Calls Tryz.prog 219 #[valV v,.int .i64 100] w (PPost (F : Int) w):=by
 obtain ⟨s,hser,⟨hs1,hs2,hs3⟩,hF⟩:=An.floorM_some h
 obtain ⟨neg,whole,sine,nn,step,of⟩:=v
 simp only at ho1 ho2 hs hser
 have hb:=(Below.refl w.heap.size w).alloc (Nat.le_refl _) (.cells #[.bool neg,.bool whole,.bool sine,.int .i64 nn,.int .i64 step,.int .i64 of] 235)
 obtain ⟨W,hW⟩ : ∃ W,W = w.alloc (.cells #[.bool neg,.bool whole,.bool sine,.int .i64 nn,.int .i64 step,.int .i64 of] 235):=⟨_,rfl⟩
 have k2 : W.cell? ⟨w.heap.size,2,none⟩ = some (.bool sine):=by rw [hW]; simp
 have k4 : W.cell? ⟨w.heap.size,4,none⟩ = some (.int .i64 step):=by rw [hW]; simp
 have k5 : W.cell? ⟨w.heap.size,5,none⟩ = some (.int .i64 of):=by rw [hW]; simp
 have hWs : W.heap.size = w.heap.size + 1:=by rw [hW]; simp
 rw [<- hW] at hb
 have HB:=Hd hb
 have HK : Hid (∀ u,Below W.heap.size W u -> u.cell? ⟨w.heap.size,2,none⟩ = some (.bool sine) /\ u.cell? ⟨w.heap.size,4,none⟩ = some (.int .i64 step) /\ u.cell? ⟨w.heap.size,5,none⟩ = some (.int .i64 of)):=Hd (fun u hu =>
  ⟨(hu.cell (p:=⟨w.heap.size,2,none⟩) (by show w.heap.size < W.heap.size; omega)).trans k2,(hu.cell (p:=⟨w.heap.size,4,none⟩) (by show w.heap.size < W.heap.size; omega)).trans k4,(hu.cell (p:=⟨w.heap.size,5,none⟩) (by show w.heap.size < W.heap.size; omega)).trans k5⟩)
 have HPI:=Hd (fun u=>pi_any 164 (P : Int) u (by decide) hP)
 have HPL : Hid (P * (2 * step) < An.LIM):=Hd (by
  have h4 : An.LIM = 2 ^ 1800:=by unfold An.LIM; rfl
  obtain ⟨K,hK⟩ : ∃ K : Nat,K = 1800:=⟨_,rfl⟩
  rw [<- hK] at h4
  rw [h4]
  refine Nat.lt_of_lt_of_le (Nat.lt_of_le_of_lt (Nat.mul_le_mul_left P (show 2 * step <= 2 ^ 17 by omega)) (Nat.mul_lt_mul_of_pos_right hPb (by decide))) ?_
  rw [<- Nat.pow_add]
  exact Nat.pow_le_pow_right (by decide) (by omega))
 obtain ⟨M,hM⟩ : ∃ M,M = P * (2 * step):=⟨_,rfl⟩
 obtain ⟨X,hX⟩ : ∃ X,X = M / of:=⟨_,rfl⟩
 rw [<- hM,<- hX] at hser
 rw [<- hM] at HPL
 have HME : Hid ((P : Int) * (2 * (step : Int)) = (M : Int)):=Hd (by rw [hM]; simp)
 have HXE : Hid ((M : Int).tdiv (of : Int) = (X : Int)):=Hd (by rw [tdiv_nat2,hX])
 have HXL : Hid (X < An.LIM):=Hd (by rw [hX]; exact Nat.lt_of_le_of_lt (Nat.div_le_self _ _) HPL.out)
 have HSE:=Hd (fun u g (hg : BI u g (X : Int))=>series_any g X 164 sine s u hg (by decide) HXL.out hser)
 have HSB : Hid (s.natAbs + 16777216 + 1 < BL):=Hd (by
  have e:=BL_pow
  obtain ⟨Z,hZ⟩ : ∃ Z : Nat,Z = 1920:=⟨_,rfl⟩
  obtain ⟨K,hK⟩ : ∃ K : Nat,K = 1000:=⟨_,rfl⟩
  rw [<- hZ] at e
  rw [<- hK] at hs2
  have h1 : (2 : Nat) ^ (K + 1) = 2 * 2 ^ K:=by rw [Nat.pow_succ,Nat.mul_comm]
  have h2 : (2 : Nat) ^ (K + 1) < 2 ^ Z:=Nat.pow_lt_pow_right (by decide) (by omega)
  have h3 : (2 : Nat) ^ 30 <= 2 ^ K:=Nat.pow_le_pow_right (by decide) (by omega)
  have h4 : ((2 : Int) ^ K) = ((2 ^ K : Nat) : Int):=by simp
  rw [h4] at hs2
  rw [e]
  omega)
 have HFE : Hid ((s - 16777216) / 18446744073709551616 = (F : Int) /\ (s + 16777216) / 18446744073709551616 = (F : Int)):=Hd ⟨hF.symm,by rw [<- hs3]; exact hF.symm⟩
 have w1 : IntKind.i64.wrap (2 * (step : Int)) = 2 * (step : Int):=by rw [IntKind.wrap_i64]; omega
 clear k2 k4 k5 hb hs1 hs2 hs3 hF hser hP hPb h hM hX
 unfold valV
 go_enter Tryz.func219,Tryz.ntmps219
 go_wp2_with fail
 go_step3
 go_wp2_with fail
 go_step3
 go_wp2_with fail
 rw [<- hW]
 have HO0:=Hd ((Own.nil (Below.refl W.heap.size W)).new 68)
 obtain ⟨gl,hgl⟩ : ∃ gl,gl = W.heap.size:=⟨_,rfl⟩
 rw [<- hgl] at HO0
 have e0 : w.heap.size + 1 = gl:=by rw [hgl,hWs]
 have HG:=Hd hgl
 have HWS:=Hd hWs
 rw [e0]
 clear hW hgl hWs e0
 generalize W.alloc (.cells #[.bool false,.slice none 0 0] 68) = W1 at *
 go_loopw [6] (fun pv wr=>pv = .int .u64 164 /\ Hid (Own W wr [(gl,0)])) (fun _ _=>0)
 case atStart=>exact ⟨rfl,HO0⟩
 case round =>
  clear HO0
  obtain ⟨rfl,HO⟩:=hrel
  obtain ⟨wo,rfl⟩ : ∃ wo : World,wo = wr:=⟨_,rfl⟩
  go_wp2_with fail
  refine (HPI.out _).mono ?_
  rintro e w2 ⟨gx,rfl,hb,hg,hw⟩
  have HO1:=Hd (HO.out.add hb hg hw)
  clear hb hg hw HO
  obtain ⟨q2,q4,q5⟩:=HK.out _ HO1.out.1
  go_wp2_with fail
  refine (bnew_any (2 * (step : Int)) _ (by omega) (by omega)).mono ?_
  rintro e w3 ⟨gk,rfl,hb,hg,hw⟩
  have HO2:=Hd (HO1.out.add hb hg hw)
  clear hb hg hw HO1 q2 q4 q5
  go_wp2_with fail
  refine (bmul_any gx gx gk (P : Int) (P : Int) (2 * (step : Int)) w3 (HO2.out.bi (by simp)) (HO2.out.bi (by simp)) (HO2.out.bi (by simp)) (by have h:=LIM_BL2 HPL.out LIM_pos; have e:=HME.out; rw [<- Int.natAbs_mul,e,Int.natAbs_natCast]; omega)).mono ?_
  rintro e w4 ⟨rfl,hb,ht⟩
  rw [HME.out] at hb
  have HO3 : Hid (Own W w4 [(gx,(M : Int)),(gl,0)]):=Hd ((HO2.out.upd [(gk,(2 * (step : Int)))] hb ht).sub (List.sublist_cons_self _ _))
  clear hb ht HO2
  obtain ⟨q2,q4,q5⟩:=HK.out _ HO3.out.1
  go_wp2_with fail
  refine (bnew_any (of : Int) _ (by omega) (by omega)).mono ?_
  rintro e w5 ⟨gk2,rfl,hb,hg,hw⟩
  have HO4:=Hd (HO3.out.add hb hg hw)
  clear hb hg hw HO3 q2 q4 q5
  go_wp2_with fail
  refine (bquo_any gx gx gk2 (M : Int) (M : Int) (of : Int) w5 (HO4.out.bi (by simp)) (HO4.out.bi (by simp)) (HO4.out.bi (by simp)) (by omega) (by omega)).mono ?_
  rintro e w6 ⟨rfl,hb,ht⟩
  rw [HXE.out] at hb
  have HO5 : Hid (Own W w6 [(gx,(X : Int)),(gl,0)]):=Hd ((HO4.out.upd [(gk2,(of : Int))] hb ht).sub (List.sublist_cons_self _ _))
  clear hb ht HO4
  obtain ⟨q2,q4,q5⟩:=HK.out _ HO5.out.1
  go_wp2_with fail
  refine (HSE.out _ gx (HO5.out.bi (by simp))).mono ?_
  rintro e w7 ⟨gs,rfl,hb,hg,hw⟩
  have HO6:=Hd (HO5.out.add hb hg hw)
  clear hb hg hw HO5 q2 q4 q5
  go_wp2_with fail
  refine (point_any 1 24 _ (by decide) (by decide) (by decide)).mono ?_
  rintro e w8 ⟨gf,rfl,hb,hg,hw⟩
  have HO7 : Hid (Own W w8 [(gf,16777216),(gs,s),(gx,(X : Int)),(gl,0)]):=Hd (HO6.out.add hb hg hw)
  clear hb hg hw HO6
  go_wp2_with fail
  refine (bsub_any gl gs gf 0 s 16777216 w8 (HO7.out.bi (by simp)) (HO7.out.bi (by simp)) (HO7.out.bi (by simp)) (by have:=HSB.out; omega)).mono ?_
  rintro e w9 ⟨rfl,hb,ht⟩
  have HO8 : Hid (Own W w9 [(gf,16777216),(gs,s),(gx,(X : Int)),(gl,s - 16777216)]):=Hd (HO7.out.upd [(gf,16777216),(gs,s),(gx,(X : Int))] hb ht)
  clear hb ht HO7
  go_wp2_with fail
  refine (brsh_any gl gl (s - 16777216) (s - 16777216) 64 w9 (HO8.out.bi (by simp)) (HO8.out.bi (by simp)) (by decide) (by have:=HSB.out; omega)).mono ?_
  rintro e w10 ⟨rfl,hb,ht⟩
  rw [show ((2 : Int) ^ 64) = 18446744073709551616 by decide,HFE.out.1] at hb
  have HO9 : Hid (Own W w10 [(gf,16777216),(gs,s),(gx,(X : Int)),(gl,(F : Int))]):=Hd (HO8.out.upd [(gf,16777216),(gs,s),(gx,(X : Int))] hb ht)
  clear hb ht HO8
  go_wp2_with fail
  refine (badd_any gs gs gf s s 16777216 w10 (HO9.out.bi (by simp)) (HO9.out.bi (by simp)) (HO9.out.bi (by simp)) (by have:=HSB.out; omega)).mono ?_
  rintro e w11 ⟨rfl,hb,ht⟩
  have HO10 : Hid (Own W w11 [(gf,16777216),(gs,s + 16777216),(gx,(X : Int)),(gl,(F : Int))]):=Hd (HO9.out.upd [(gf,16777216)] hb ht)
  clear hb ht HO9
  go_wp2_with fail
  refine (brsh_any gs gs (s + 16777216) (s + 16777216) 64 w11 (HO10.out.bi (by simp)) (HO10.out.bi (by simp)) (by decide) (by have:=HSB.out; omega)).mono ?_
  rintro e w12 ⟨rfl,hb,ht⟩
  rw [show ((2 : Int) ^ 64) = 18446744073709551616 by decide,HFE.out.2] at hb
  have HO11 : Hid (Own W w12 [(gf,16777216),(gs,(F : Int)),(gx,(X : Int)),(gl,(F : Int))]):=Hd (HO10.out.upd [(gf,16777216)] hb ht)
  clear hb ht HO10
  go_wp2_with fail
  refine (bcmp_any gs gl (F : Int) (F : Int) w12 (HO11.out.bi (by simp)) (HO11.out.bi (by simp))).mono ?_
  rintro e w13 ⟨rfl,hb⟩
  have HO12:=Hd (HO11.out.below hb)
  have hc0 : cmpZ (F : Int) (F : Int) = 0:=by unfold cmpZ; rw [if_neg (by omega),if_neg (by omega)]
  rw [hc0]
  clear hb HO11 hc0
  go_wp2_with fail
  first | go_ret | (rw [Exit.noGoto_ret]; go_ret)
  obtain ⟨a1,a2,a3⟩:=HO12.out.post (g:=gl) (z:=(F : Int)) (by simp)
  exact ⟨_,rfl,a1,by have:=HG.out; have:=HWS.out; omega,HB.out.trans (a3.mono (by have:=HWS.out; omega))⟩
end
section
open Go.RowKit
namespace An
def redN (n a1 : Nat) : Val :=
 let a2:=if a1 > 2 * n then 4 * n - a1 else a1
 let neg:=decide (a2 > n)
 let a3:=if a2 > n then 2 * n - a2 else a2
 if a3 = 0 then ⟨neg,true,false,1,0,0⟩
 else if a3 = n then ⟨false,true,false,0,0,0⟩
 else if 2 * a3 > n then ⟨neg,false,true,0,n - a3,4 * n⟩
 else ⟨neg,false,false,0,a3,4 * n⟩
theorem reduced_redN (order step : Nat) (sine : Bool) : reducedM order step sine = redN (2 ^ order) (if sine then (step % 2 ^ order * 4 + 3 * 2 ^ order) % (4 * 2 ^ order) else step % 2 ^ order * 4):=rfl
theorem redN_of {n a1 a2 a3 : Nat} {neg : Bool} (h2 : a2 = if a1 > 2 * n then 4 * n - a1 else a1) (hn : neg = decide (a2 > n)) (h3 : a3 = if a2 > n then 2 * n - a2 else a2) :
  redN n a1 = if a3 = 0 then ⟨neg,true,false,1,0,0⟩ else if a3 = n then ⟨false,true,false,0,0,0⟩ else if 2 * a3 > n then ⟨neg,false,true,0,n - a3,4 * n⟩ else ⟨neg,false,false,0,a3,4 * n⟩:=by
 subst h3; subst hn; subst h2; rfl
end An
theorem i64_mask (x k : Nat) (hx : x < 9223372036854775808) (hk : k <= 30) : bits BinOp.and IntKind.i64 (x : Int) ((2 ^ k : Nat) - 1 : Int) = ((x % 2 ^ k : Nat) : Int):=by
 have hp : 2 ^ k <= 2 ^ 30:=Nat.pow_le_pow_right (by decide) hk
 have h1:=Nat.two_pow_pos k
 have e : (((2 ^ k : Nat) : Int) - 1) = ((2 ^ k - 1 : Nat) : Int):=by omega
 have hb:=bits_nat .i64 63 (by decide) (by intro n h0 h1; rw [IntKind.wrap_i64]; omega) x (2 ^ k - 1) (by omega) (by omega)
 rw [e,hb.1,Nat.and_two_pow_sub_one_eq_mod]
set_option maxRecDepth 100000 in
set_option maxHeartbeats 4000000 in
theorem reduced_true (order step : Nat) (w : World) (ho : order <= 14) (hs : step <= 1048576) :
  Calls Tryz.prog 213 #[.int .i64 order,.int .i64 step,.bool true] w fun e w'=>e = .returned (valV (An.reducedM order step true)) /\ Below w.heap.size w w':=by
 have hred:=An.reduced_redN order step true
 have hmask:=i64_mask step order (by omega) (by omega)
 have hp : 2 ^ order <= 2 ^ 14:=Nat.pow_le_pow_right (by decide) ho
 have hp1:=Nat.two_pow_pos order
 have hsh : IntKind.i64.wrap ((1 : Int) * 2 ^ order) = ((2 ^ order : Nat) : Int):=by
  rw [Int.one_mul,show (2 : Int) ^ order = ((2 ^ order : Nat) : Int) by simp,IntKind.wrap_i64]; omega
 have hsh2 : IntKind.i64.wrap ((2 : Int) ^ order) = ((2 ^ order : Nat) : Int):=by
  rw [show (2 : Int) ^ order = ((2 ^ order : Nat) : Int) by simp,IntKind.wrap_i64]; omega
 obtain ⟨n,hn⟩ : ∃ n : Nat,n = 2 ^ order:=⟨_,rfl⟩
 rw [<- hn] at hred hmask hp hp1 hsh hsh2
 have hmod : step % n < n:=Nat.mod_lt _ hp1
 obtain ⟨r,hr⟩ : ∃ r,r = step % n:=⟨_,rfl⟩
 rw [<- hr] at hred hmask hmod
 have u0 : IntKind.i64.wrap ((n : Int) - 1) = (n : Int) - 1:=by rw [IntKind.wrap_i64]; omega
 have u1 : IntKind.i64.wrap ((r : Int) * 4) = (r : Int) * 4:=by rw [IntKind.wrap_i64]; omega
 have u2 : IntKind.i64.wrap (4 * (n : Int)) = 4 * (n : Int):=by rw [IntKind.wrap_i64]; omega
 have u3 : IntKind.i64.wrap (2 * (n : Int)) = 2 * (n : Int):=by rw [IntKind.wrap_i64]; omega
 have v1 : IntKind.i64.wrap (3 * (n : Int)) = 3 * (n : Int):=by rw [IntKind.wrap_i64]; omega
 have v2 : IntKind.i64.wrap ((r : Int) * 4 + 3 * (n : Int)) = (r : Int) * 4 + 3 * (n : Int):=by rw [IntKind.wrap_i64]; omega
 obtain ⟨a,ha⟩ : ∃ a : Nat,a = (r * 4 + 3 * n) % (4 * n):=⟨_,rfl⟩
 have hab : a < 4 * n:=by rw [ha]; exact Nat.mod_lt _ (by omega)
 have v3 : Int.tmod ((r : Int) * 4 + 3 * (n : Int)) (4 * (n : Int)) = (a : Int):=by
  rw [Int.tmod_eq_emod_of_nonneg (by omega),ha,Int.natCast_emod]; simp
 have v3' : ((r : Int) * 4 + 3 * (n : Int)) % (4 * (n : Int)) = (a : Int):=by
  rw [ha,Int.natCast_emod]; simp
 have v4 : ((4 * (n : Int)) == 0) = false:=by simp; omega
 have hred2 : An.reducedM order step true = An.redN n a:=by rw [hred,ha]; rfl
 have HRED:=Hd hred2
 have HB2 : Hid (∀ o o',Below w.heap.size w ((w.alloc o).alloc o')):=Hd (fun o o'=>((Below.refl w.heap.size w).alloc (Nat.le_refl _) o).alloc ((Below.refl w.heap.size w).alloc (Nat.le_refl _) o).size o')
 clear hred hred2 hn hr ha
 by_cases c1 : 2 * n < a
 ·have f1 : decide (2 * (n : Int) < (a : Int)) = true:=decide_eq_true (by omega)
  obtain ⟨a2,ha2⟩ : ∃ a2 : Nat,a2 = 4 * n - a:=⟨_,rfl⟩
  by_cases c2 : n < a2
  ·obtain ⟨a3,ha3⟩ : ∃ a3 : Nat,a3 = 2 * n - a2:=⟨_,rfl⟩
   have f2 : decide ((n : Int) < 4 * (n : Int) - (a : Int)) = true:=decide_eq_true (by omega)
   have z3 : (a3 : Int) = 2 * (n : Int) - (4 * (n : Int) - (a : Int)):=by omega
   rcases (show a3 = 0 \/ (a3 ≠ 0 /\ a3 = n) \/ (a3 ≠ 0 /\ a3 ≠ n /\ n < 2 * a3) \/ (a3 ≠ 0 /\ a3 ≠ n /\ ¬ n < 2 * a3) by omega) with c3 | c3 | c3 | c3
   ·have f3 : ((2 * (n : Int) - (4 * (n : Int) - (a : Int))) == 0) = true:=by simp; omega
    have HEQ : Hid (valV (An.reducedM order step true) = .agg #[.bool true,.bool true,.bool false,.int .i64 (1),.int .i64 (0),.int .i64 (0)]):=Hd (by
     rw [HRED.out,An.redN_of (a2:=a2) (neg:=true) (a3:=a3) (by rw [if_pos c1]; exact ha2) (by exact (decide_eq_true c2).symm) (by rw [if_pos c2]; exact ha3)]
     rw [if_pos c3]; rfl)
    clear c3 c1 c2 ha2 ha3 z3
    go_enter Tryz.func213,Tryz.ntmps213
    go_wp2_with fail
    refine bodyPost_ret (v:=.agg #[.bool true,.bool true,.bool false,.int .i64 (1),.int .i64 (0),.int .i64 (0)]) (by simp [results,Tryz.results213,go_sem]) rfl ⟨by rw [HEQ.out],HB2.out _ _⟩
   ·exfalso; omega
   ·have f3 : ((2 * (n : Int) - (4 * (n : Int) - (a : Int))) == 0) = false:=by simp; omega
    have f4 : ((2 * (n : Int) - (4 * (n : Int) - (a : Int))) == (n : Int)) = false:=by simp; omega
    have f5 : decide ((n : Int) < 2 * (2 * (n : Int) - (4 * (n : Int) - (a : Int)))) = true:=decide_eq_true (by omega)
    have HEQ : Hid (valV (An.reducedM order step true) = .agg #[.bool true,.bool false,.bool true,.int .i64 (0),.int .i64 ((n : Int) - (2 * (n : Int) - (4 * (n : Int) - (a : Int)))),.int .i64 (4 * (n : Int))]):=Hd (by
     rw [HRED.out,An.redN_of (a2:=a2) (neg:=true) (a3:=a3) (by rw [if_pos c1]; exact ha2) (by exact (decide_eq_true c2).symm) (by rw [if_pos c2]; exact ha3)]
     rw [if_neg c3.1,if_neg c3.2.1,if_pos c3.2.2]; simp only [valV]; rw [show ((n - a3 : Nat) : Int) = (n : Int) - (2 * (n : Int) - (4 * (n : Int) - (a : Int))) by omega,show ((4 * n : Nat) : Int) = 4 * (n : Int) by omega]; rfl)
    clear c3 c1 c2 ha2 ha3 z3
    go_enter Tryz.func213,Tryz.ntmps213
    go_wp2_with fail
    refine bodyPost_ret (v:=.agg #[.bool true,.bool false,.bool true,.int .i64 (0),.int .i64 ((n : Int) - (2 * (n : Int) - (4 * (n : Int) - (a : Int)))),.int .i64 (4 * (n : Int))]) (by simp [results,Tryz.results213,go_sem]) rfl ⟨by rw [HEQ.out],HB2.out _ _⟩
   ·have f3 : ((2 * (n : Int) - (4 * (n : Int) - (a : Int))) == 0) = false:=by simp; omega
    have f4 : ((2 * (n : Int) - (4 * (n : Int) - (a : Int))) == (n : Int)) = false:=by simp; omega
    have f5 : decide ((n : Int) < 2 * (2 * (n : Int) - (4 * (n : Int) - (a : Int)))) = false:=decide_eq_false (by omega)
    have HEQ : Hid (valV (An.reducedM order step true) = .agg #[.bool true,.bool false,.bool false,.int .i64 (0),.int .i64 (2 * (n : Int) - (4 * (n : Int) - (a : Int))),.int .i64 (4 * (n : Int))]):=Hd (by
     rw [HRED.out,An.redN_of (a2:=a2) (neg:=true) (a3:=a3) (by rw [if_pos c1]; exact ha2) (by exact (decide_eq_true c2).symm) (by rw [if_pos c2]; exact ha3)]
     rw [if_neg c3.1,if_neg c3.2.1,if_neg c3.2.2]; simp only [valV]; rw [z3,show ((4 * n : Nat) : Int) = 4 * (n : Int) by omega]; rfl)
    clear c3 c1 c2 ha2 ha3 z3
    go_enter Tryz.func213,Tryz.ntmps213
    go_wp2_with fail
    refine bodyPost_ret (v:=.agg #[.bool true,.bool false,.bool false,.int .i64 (0),.int .i64 (2 * (n : Int) - (4 * (n : Int) - (a : Int))),.int .i64 (4 * (n : Int))]) (by simp [results,Tryz.results213,go_sem]) rfl ⟨by rw [HEQ.out],HB2.out _ _⟩
  ·obtain ⟨a3,ha3⟩ : ∃ a3 : Nat,a3 = a2:=⟨_,rfl⟩
   have f2 : decide ((n : Int) < 4 * (n : Int) - (a : Int)) = false:=decide_eq_false (by omega)
   have z3 : (a3 : Int) = 4 * (n : Int) - (a : Int):=by omega
   rcases (show a3 = 0 \/ (a3 ≠ 0 /\ a3 = n) \/ (a3 ≠ 0 /\ a3 ≠ n /\ n < 2 * a3) \/ (a3 ≠ 0 /\ a3 ≠ n /\ ¬ n < 2 * a3) by omega) with c3 | c3 | c3 | c3
   ·exfalso; omega
   ·have f3 : ((4 * (n : Int) - (a : Int)) == 0) = false:=by simp; omega
    have f4 : ((4 * (n : Int) - (a : Int)) == (n : Int)) = true:=by simp; omega
    have HEQ : Hid (valV (An.reducedM order step true) = .agg #[.bool false,.bool true,.bool false,.int .i64 (0),.int .i64 (0),.int .i64 (0)]):=Hd (by
     rw [HRED.out,An.redN_of (a2:=a2) (neg:=false) (a3:=a3) (by rw [if_pos c1]; exact ha2) (by exact (decide_eq_false c2).symm) (by rw [if_neg c2]; exact ha3)]
     rw [if_neg c3.1,if_pos c3.2]; rfl)
    clear c3 c1 c2 ha2 ha3 z3
    go_enter Tryz.func213,Tryz.ntmps213
    go_wp2_with fail
    refine bodyPost_ret (v:=.agg #[.bool false,.bool true,.bool false,.int .i64 (0),.int .i64 (0),.int .i64 (0)]) (by simp [results,Tryz.results213,go_sem]) rfl ⟨by rw [HEQ.out],HB2.out _ _⟩
   ·have f3 : ((4 * (n : Int) - (a : Int)) == 0) = false:=by simp; omega
    have f4 : ((4 * (n : Int) - (a : Int)) == (n : Int)) = false:=by simp; omega
    have f5 : decide ((n : Int) < 2 * (4 * (n : Int) - (a : Int))) = true:=decide_eq_true (by omega)
    have HEQ : Hid (valV (An.reducedM order step true) = .agg #[.bool false,.bool false,.bool true,.int .i64 (0),.int .i64 ((n : Int) - (4 * (n : Int) - (a : Int))),.int .i64 (4 * (n : Int))]):=Hd (by
     rw [HRED.out,An.redN_of (a2:=a2) (neg:=false) (a3:=a3) (by rw [if_pos c1]; exact ha2) (by exact (decide_eq_false c2).symm) (by rw [if_neg c2]; exact ha3)]
     rw [if_neg c3.1,if_neg c3.2.1,if_pos c3.2.2]; simp only [valV]; rw [show ((n - a3 : Nat) : Int) = (n : Int) - (4 * (n : Int) - (a : Int)) by omega,show ((4 * n : Nat) : Int) = 4 * (n : Int) by omega]; rfl)
    clear c3 c1 c2 ha2 ha3 z3
    go_enter Tryz.func213,Tryz.ntmps213
    go_wp2_with fail
    refine bodyPost_ret (v:=.agg #[.bool false,.bool false,.bool true,.int .i64 (0),.int .i64 ((n : Int) - (4 * (n : Int) - (a : Int))),.int .i64 (4 * (n : Int))]) (by simp [results,Tryz.results213,go_sem]) rfl ⟨by rw [HEQ.out],HB2.out _ _⟩
   ·have f3 : ((4 * (n : Int) - (a : Int)) == 0) = false:=by simp; omega
    have f4 : ((4 * (n : Int) - (a : Int)) == (n : Int)) = false:=by simp; omega
    have f5 : decide ((n : Int) < 2 * (4 * (n : Int) - (a : Int))) = false:=decide_eq_false (by omega)
    have HEQ : Hid (valV (An.reducedM order step true) = .agg #[.bool false,.bool false,.bool false,.int .i64 (0),.int .i64 (4 * (n : Int) - (a : Int)),.int .i64 (4 * (n : Int))]):=Hd (by
     rw [HRED.out,An.redN_of (a2:=a2) (neg:=false) (a3:=a3) (by rw [if_pos c1]; exact ha2) (by exact (decide_eq_false c2).symm) (by rw [if_neg c2]; exact ha3)]
     rw [if_neg c3.1,if_neg c3.2.1,if_neg c3.2.2]; simp only [valV]; rw [z3,show ((4 * n : Nat) : Int) = 4 * (n : Int) by omega]; rfl)
    clear c3 c1 c2 ha2 ha3 z3
    go_enter Tryz.func213,Tryz.ntmps213
    go_wp2_with fail
    refine bodyPost_ret (v:=.agg #[.bool false,.bool false,.bool false,.int .i64 (0),.int .i64 (4 * (n : Int) - (a : Int)),.int .i64 (4 * (n : Int))]) (by simp [results,Tryz.results213,go_sem]) rfl ⟨by rw [HEQ.out],HB2.out _ _⟩
 ·have f1 : decide (2 * (n : Int) < (a : Int)) = false:=decide_eq_false (by omega)
  obtain ⟨a2,ha2⟩ : ∃ a2 : Nat,a2 = a:=⟨_,rfl⟩
  by_cases c2 : n < a2
  ·obtain ⟨a3,ha3⟩ : ∃ a3 : Nat,a3 = 2 * n - a2:=⟨_,rfl⟩
   have f2 : decide (n < a) = true:=decide_eq_true (by omega)
   have z3 : (a3 : Int) = 2 * (n : Int) - (a : Int):=by omega
   rcases (show a3 = 0 \/ (a3 ≠ 0 /\ a3 = n) \/ (a3 ≠ 0 /\ a3 ≠ n /\ n < 2 * a3) \/ (a3 ≠ 0 /\ a3 ≠ n /\ ¬ n < 2 * a3) by omega) with c3 | c3 | c3 | c3
   ·have f3 : ((2 * (n : Int) - (a : Int)) == 0) = true:=by simp; omega
    have HEQ : Hid (valV (An.reducedM order step true) = .agg #[.bool true,.bool true,.bool false,.int .i64 (1),.int .i64 (0),.int .i64 (0)]):=Hd (by
     rw [HRED.out,An.redN_of (a2:=a2) (neg:=true) (a3:=a3) (by rw [if_neg c1]; exact ha2) (by exact (decide_eq_true c2).symm) (by rw [if_pos c2]; exact ha3)]
     rw [if_pos c3]; rfl)
    clear c3 c1 c2 ha2 ha3 z3
    go_enter Tryz.func213,Tryz.ntmps213
    go_wp2_with fail
    refine bodyPost_ret (v:=.agg #[.bool true,.bool true,.bool false,.int .i64 (1),.int .i64 (0),.int .i64 (0)]) (by simp [results,Tryz.results213,go_sem]) rfl ⟨by rw [HEQ.out],HB2.out _ _⟩
   ·exfalso; omega
   ·have f3 : ((2 * (n : Int) - (a : Int)) == 0) = false:=by simp; omega
    have f4 : ((2 * (n : Int) - (a : Int)) == (n : Int)) = false:=by simp; omega
    have f5 : decide ((n : Int) < 2 * (2 * (n : Int) - (a : Int))) = true:=decide_eq_true (by omega)
    have HEQ : Hid (valV (An.reducedM order step true) = .agg #[.bool true,.bool false,.bool true,.int .i64 (0),.int .i64 ((n : Int) - (2 * (n : Int) - (a : Int))),.int .i64 (4 * (n : Int))]):=Hd (by
     rw [HRED.out,An.redN_of (a2:=a2) (neg:=true) (a3:=a3) (by rw [if_neg c1]; exact ha2) (by exact (decide_eq_true c2).symm) (by rw [if_pos c2]; exact ha3)]
     rw [if_neg c3.1,if_neg c3.2.1,if_pos c3.2.2]; simp only [valV]; rw [show ((n - a3 : Nat) : Int) = (n : Int) - (2 * (n : Int) - (a : Int)) by omega,show ((4 * n : Nat) : Int) = 4 * (n : Int) by omega]; rfl)
    clear c3 c1 c2 ha2 ha3 z3
    go_enter Tryz.func213,Tryz.ntmps213
    go_wp2_with fail
    refine bodyPost_ret (v:=.agg #[.bool true,.bool false,.bool true,.int .i64 (0),.int .i64 ((n : Int) - (2 * (n : Int) - (a : Int))),.int .i64 (4 * (n : Int))]) (by simp [results,Tryz.results213,go_sem]) rfl ⟨by rw [HEQ.out],HB2.out _ _⟩
   ·have f3 : ((2 * (n : Int) - (a : Int)) == 0) = false:=by simp; omega
    have f4 : ((2 * (n : Int) - (a : Int)) == (n : Int)) = false:=by simp; omega
    have f5 : decide ((n : Int) < 2 * (2 * (n : Int) - (a : Int))) = false:=decide_eq_false (by omega)
    have HEQ : Hid (valV (An.reducedM order step true) = .agg #[.bool true,.bool false,.bool false,.int .i64 (0),.int .i64 (2 * (n : Int) - (a : Int)),.int .i64 (4 * (n : Int))]):=Hd (by
     rw [HRED.out,An.redN_of (a2:=a2) (neg:=true) (a3:=a3) (by rw [if_neg c1]; exact ha2) (by exact (decide_eq_true c2).symm) (by rw [if_pos c2]; exact ha3)]
     rw [if_neg c3.1,if_neg c3.2.1,if_neg c3.2.2]; simp only [valV]; rw [z3,show ((4 * n : Nat) : Int) = 4 * (n : Int) by omega]; rfl)
    clear c3 c1 c2 ha2 ha3 z3
    go_enter Tryz.func213,Tryz.ntmps213
    go_wp2_with fail
    refine bodyPost_ret (v:=.agg #[.bool true,.bool false,.bool false,.int .i64 (0),.int .i64 (2 * (n : Int) - (a : Int)),.int .i64 (4 * (n : Int))]) (by simp [results,Tryz.results213,go_sem]) rfl ⟨by rw [HEQ.out],HB2.out _ _⟩
  ·obtain ⟨a3,ha3⟩ : ∃ a3 : Nat,a3 = a2:=⟨_,rfl⟩
   have f2 : decide (n < a) = false:=decide_eq_false (by omega)
   have z3 : (a3 : Int) = (a : Int):=by omega
   rcases (show a3 = 0 \/ (a3 ≠ 0 /\ a3 = n) \/ (a3 ≠ 0 /\ a3 ≠ n /\ n < 2 * a3) \/ (a3 ≠ 0 /\ a3 ≠ n /\ ¬ n < 2 * a3) by omega) with c3 | c3 | c3 | c3
   ·have f3 : (((a : Int)) == 0) = true:=by simp; omega
    have HEQ : Hid (valV (An.reducedM order step true) = .agg #[.bool false,.bool true,.bool false,.int .i64 (1),.int .i64 (0),.int .i64 (0)]):=Hd (by
     rw [HRED.out,An.redN_of (a2:=a2) (neg:=false) (a3:=a3) (by rw [if_neg c1]; exact ha2) (by exact (decide_eq_false c2).symm) (by rw [if_neg c2]; exact ha3)]
     rw [if_pos c3]; rfl)
    clear c3 c1 c2 ha2 ha3 z3
    go_enter Tryz.func213,Tryz.ntmps213
    go_wp2_with fail
    refine bodyPost_ret (v:=.agg #[.bool false,.bool true,.bool false,.int .i64 (1),.int .i64 (0),.int .i64 (0)]) (by simp [results,Tryz.results213,go_sem]) rfl ⟨by rw [HEQ.out],HB2.out _ _⟩
   ·have f3 : (((a : Int)) == 0) = false:=by simp; omega
    have f4 : (((a : Int)) == (n : Int)) = true:=by simp; omega
    have HEQ : Hid (valV (An.reducedM order step true) = .agg #[.bool false,.bool true,.bool false,.int .i64 (0),.int .i64 (0),.int .i64 (0)]):=Hd (by
     rw [HRED.out,An.redN_of (a2:=a2) (neg:=false) (a3:=a3) (by rw [if_neg c1]; exact ha2) (by exact (decide_eq_false c2).symm) (by rw [if_neg c2]; exact ha3)]
     rw [if_neg c3.1,if_pos c3.2]; rfl)
    clear c3 c1 c2 ha2 ha3 z3
    go_enter Tryz.func213,Tryz.ntmps213
    go_wp2_with fail
    refine bodyPost_ret (v:=.agg #[.bool false,.bool true,.bool false,.int .i64 (0),.int .i64 (0),.int .i64 (0)]) (by simp [results,Tryz.results213,go_sem]) rfl ⟨by rw [HEQ.out],HB2.out _ _⟩
   ·have f3 : (((a : Int)) == 0) = false:=by simp; omega
    have f4 : (((a : Int)) == (n : Int)) = false:=by simp; omega
    have f5 : decide ((n : Int) < 2 * ((a : Int))) = true:=decide_eq_true (by omega)
    have HEQ : Hid (valV (An.reducedM order step true) = .agg #[.bool false,.bool false,.bool true,.int .i64 (0),.int .i64 ((n : Int) - ((a : Int))),.int .i64 (4 * (n : Int))]):=Hd (by
     rw [HRED.out,An.redN_of (a2:=a2) (neg:=false) (a3:=a3) (by rw [if_neg c1]; exact ha2) (by exact (decide_eq_false c2).symm) (by rw [if_neg c2]; exact ha3)]
     rw [if_neg c3.1,if_neg c3.2.1,if_pos c3.2.2]; simp only [valV]; rw [show ((n - a3 : Nat) : Int) = (n : Int) - ((a : Int)) by omega,show ((4 * n : Nat) : Int) = 4 * (n : Int) by omega]; rfl)
    clear c3 c1 c2 ha2 ha3 z3
    go_enter Tryz.func213,Tryz.ntmps213
    go_wp2_with fail
    refine bodyPost_ret (v:=.agg #[.bool false,.bool false,.bool true,.int .i64 (0),.int .i64 ((n : Int) - ((a : Int))),.int .i64 (4 * (n : Int))]) (by simp [results,Tryz.results213,go_sem]) rfl ⟨by rw [HEQ.out],HB2.out _ _⟩
   ·have f3 : (((a : Int)) == 0) = false:=by simp; omega
    have f4 : (((a : Int)) == (n : Int)) = false:=by simp; omega
    have f5 : decide ((n : Int) < 2 * ((a : Int))) = false:=decide_eq_false (by omega)
    have HEQ : Hid (valV (An.reducedM order step true) = .agg #[.bool false,.bool false,.bool false,.int .i64 (0),.int .i64 ((a : Int)),.int .i64 (4 * (n : Int))]):=Hd (by
     rw [HRED.out,An.redN_of (a2:=a2) (neg:=false) (a3:=a3) (by rw [if_neg c1]; exact ha2) (by exact (decide_eq_false c2).symm) (by rw [if_neg c2]; exact ha3)]
     rw [if_neg c3.1,if_neg c3.2.1,if_neg c3.2.2]; simp only [valV]; rw [z3,show ((4 * n : Nat) : Int) = 4 * (n : Int) by omega]; rfl)
    clear c3 c1 c2 ha2 ha3 z3
    go_enter Tryz.func213,Tryz.ntmps213
    go_wp2_with fail
    refine bodyPost_ret (v:=.agg #[.bool false,.bool false,.bool false,.int .i64 (0),.int .i64 ((a : Int)),.int .i64 (4 * (n : Int))]) (by simp [results,Tryz.results213,go_sem]) rfl ⟨by rw [HEQ.out],HB2.out _ _⟩
set_option maxRecDepth 100000 in
set_option maxHeartbeats 4000000 in
theorem reduced_false (order step : Nat) (w : World) (ho : order <= 14) (hs : step <= 1048576) :
  Calls Tryz.prog 213 #[.int .i64 order,.int .i64 step,.bool false] w fun e w'=>e = .returned (valV (An.reducedM order step false)) /\ Below w.heap.size w w':=by
 have hred:=An.reduced_redN order step false
 have hmask:=i64_mask step order (by omega) (by omega)
 have hp : 2 ^ order <= 2 ^ 14:=Nat.pow_le_pow_right (by decide) ho
 have hp1:=Nat.two_pow_pos order
 have hsh : IntKind.i64.wrap ((1 : Int) * 2 ^ order) = ((2 ^ order : Nat) : Int):=by
  rw [Int.one_mul,show (2 : Int) ^ order = ((2 ^ order : Nat) : Int) by simp,IntKind.wrap_i64]; omega
 have hsh2 : IntKind.i64.wrap ((2 : Int) ^ order) = ((2 ^ order : Nat) : Int):=by
  rw [show (2 : Int) ^ order = ((2 ^ order : Nat) : Int) by simp,IntKind.wrap_i64]; omega
 obtain ⟨n,hn⟩ : ∃ n : Nat,n = 2 ^ order:=⟨_,rfl⟩
 rw [<- hn] at hred hmask hp hp1 hsh hsh2
 have hmod : step % n < n:=Nat.mod_lt _ hp1
 obtain ⟨r,hr⟩ : ∃ r,r = step % n:=⟨_,rfl⟩
 rw [<- hr] at hred hmask hmod
 have u0 : IntKind.i64.wrap ((n : Int) - 1) = (n : Int) - 1:=by rw [IntKind.wrap_i64]; omega
 have u1 : IntKind.i64.wrap ((r : Int) * 4) = (r : Int) * 4:=by rw [IntKind.wrap_i64]; omega
 have u2 : IntKind.i64.wrap (4 * (n : Int)) = 4 * (n : Int):=by rw [IntKind.wrap_i64]; omega
 have u3 : IntKind.i64.wrap (2 * (n : Int)) = 2 * (n : Int):=by rw [IntKind.wrap_i64]; omega
 obtain ⟨a,ha⟩ : ∃ a : Nat,a = r * 4:=⟨_,rfl⟩
 have hab : a < 4 * n:=by omega
 have v3 : (r : Int) * 4 = (a : Int):=by omega
 have v4 : IntKind.i64.wrap (a : Int) = (a : Int):=by rw [IntKind.wrap_i64]; omega
 rw [v3] at u1
 have hred2 : An.reducedM order step false = An.redN n a:=by rw [hred,ha]; rfl
 have HRED:=Hd hred2
 have HB2 : Hid (∀ o o',Below w.heap.size w ((w.alloc o).alloc o')):=Hd (fun o o'=>((Below.refl w.heap.size w).alloc (Nat.le_refl _) o).alloc ((Below.refl w.heap.size w).alloc (Nat.le_refl _) o).size o')
 clear hred hred2 hn hr ha
 by_cases c1 : 2 * n < a
 ·have f1 : decide (2 * (n : Int) < (a : Int)) = true:=decide_eq_true (by omega)
  obtain ⟨a2,ha2⟩ : ∃ a2 : Nat,a2 = 4 * n - a:=⟨_,rfl⟩
  by_cases c2 : n < a2
  ·obtain ⟨a3,ha3⟩ : ∃ a3 : Nat,a3 = 2 * n - a2:=⟨_,rfl⟩
   have f2 : decide ((n : Int) < 4 * (n : Int) - (a : Int)) = true:=decide_eq_true (by omega)
   have z3 : (a3 : Int) = 2 * (n : Int) - (4 * (n : Int) - (a : Int)):=by omega
   rcases (show a3 = 0 \/ (a3 ≠ 0 /\ a3 = n) \/ (a3 ≠ 0 /\ a3 ≠ n /\ n < 2 * a3) \/ (a3 ≠ 0 /\ a3 ≠ n /\ ¬ n < 2 * a3) by omega) with c3 | c3 | c3 | c3
   ·have f3 : ((2 * (n : Int) - (4 * (n : Int) - (a : Int))) == 0) = true:=by simp; omega
    have HEQ : Hid (valV (An.reducedM order step false) = .agg #[.bool true,.bool true,.bool false,.int .i64 (1),.int .i64 (0),.int .i64 (0)]):=Hd (by
     rw [HRED.out,An.redN_of (a2:=a2) (neg:=true) (a3:=a3) (by rw [if_pos c1]; exact ha2) (by exact (decide_eq_true c2).symm) (by rw [if_pos c2]; exact ha3)]
     rw [if_pos c3]; rfl)
    clear c3 c1 c2 ha2 ha3 z3
    go_enter Tryz.func213,Tryz.ntmps213
    go_wp2_with fail
    refine bodyPost_ret (v:=.agg #[.bool true,.bool true,.bool false,.int .i64 (1),.int .i64 (0),.int .i64 (0)]) (by simp [results,Tryz.results213,go_sem]) rfl ⟨by rw [HEQ.out],HB2.out _ _⟩
   ·exfalso; omega
   ·have f3 : ((2 * (n : Int) - (4 * (n : Int) - (a : Int))) == 0) = false:=by simp; omega
    have f4 : ((2 * (n : Int) - (4 * (n : Int) - (a : Int))) == (n : Int)) = false:=by simp; omega
    have f5 : decide ((n : Int) < 2 * (2 * (n : Int) - (4 * (n : Int) - (a : Int)))) = true:=decide_eq_true (by omega)
    have HEQ : Hid (valV (An.reducedM order step false) = .agg #[.bool true,.bool false,.bool true,.int .i64 (0),.int .i64 ((n : Int) - (2 * (n : Int) - (4 * (n : Int) - (a : Int)))),.int .i64 (4 * (n : Int))]):=Hd (by
     rw [HRED.out,An.redN_of (a2:=a2) (neg:=true) (a3:=a3) (by rw [if_pos c1]; exact ha2) (by exact (decide_eq_true c2).symm) (by rw [if_pos c2]; exact ha3)]
     rw [if_neg c3.1,if_neg c3.2.1,if_pos c3.2.2]; simp only [valV]; rw [show ((n - a3 : Nat) : Int) = (n : Int) - (2 * (n : Int) - (4 * (n : Int) - (a : Int))) by omega,show ((4 * n : Nat) : Int) = 4 * (n : Int) by omega]; rfl)
    clear c3 c1 c2 ha2 ha3 z3
    go_enter Tryz.func213,Tryz.ntmps213
    go_wp2_with fail
    refine bodyPost_ret (v:=.agg #[.bool true,.bool false,.bool true,.int .i64 (0),.int .i64 ((n : Int) - (2 * (n : Int) - (4 * (n : Int) - (a : Int)))),.int .i64 (4 * (n : Int))]) (by simp [results,Tryz.results213,go_sem]) rfl ⟨by rw [HEQ.out],HB2.out _ _⟩
   ·have f3 : ((2 * (n : Int) - (4 * (n : Int) - (a : Int))) == 0) = false:=by simp; omega
    have f4 : ((2 * (n : Int) - (4 * (n : Int) - (a : Int))) == (n : Int)) = false:=by simp; omega
    have f5 : decide ((n : Int) < 2 * (2 * (n : Int) - (4 * (n : Int) - (a : Int)))) = false:=decide_eq_false (by omega)
    have HEQ : Hid (valV (An.reducedM order step false) = .agg #[.bool true,.bool false,.bool false,.int .i64 (0),.int .i64 (2 * (n : Int) - (4 * (n : Int) - (a : Int))),.int .i64 (4 * (n : Int))]):=Hd (by
     rw [HRED.out,An.redN_of (a2:=a2) (neg:=true) (a3:=a3) (by rw [if_pos c1]; exact ha2) (by exact (decide_eq_true c2).symm) (by rw [if_pos c2]; exact ha3)]
     rw [if_neg c3.1,if_neg c3.2.1,if_neg c3.2.2]; simp only [valV]; rw [z3,show ((4 * n : Nat) : Int) = 4 * (n : Int) by omega]; rfl)
    clear c3 c1 c2 ha2 ha3 z3
    go_enter Tryz.func213,Tryz.ntmps213
    go_wp2_with fail
    refine bodyPost_ret (v:=.agg #[.bool true,.bool false,.bool false,.int .i64 (0),.int .i64 (2 * (n : Int) - (4 * (n : Int) - (a : Int))),.int .i64 (4 * (n : Int))]) (by simp [results,Tryz.results213,go_sem]) rfl ⟨by rw [HEQ.out],HB2.out _ _⟩
  ·obtain ⟨a3,ha3⟩ : ∃ a3 : Nat,a3 = a2:=⟨_,rfl⟩
   have f2 : decide ((n : Int) < 4 * (n : Int) - (a : Int)) = false:=decide_eq_false (by omega)
   have z3 : (a3 : Int) = 4 * (n : Int) - (a : Int):=by omega
   rcases (show a3 = 0 \/ (a3 ≠ 0 /\ a3 = n) \/ (a3 ≠ 0 /\ a3 ≠ n /\ n < 2 * a3) \/ (a3 ≠ 0 /\ a3 ≠ n /\ ¬ n < 2 * a3) by omega) with c3 | c3 | c3 | c3
   ·exfalso; omega
   ·have f3 : ((4 * (n : Int) - (a : Int)) == 0) = false:=by simp; omega
    have f4 : ((4 * (n : Int) - (a : Int)) == (n : Int)) = true:=by simp; omega
    have HEQ : Hid (valV (An.reducedM order step false) = .agg #[.bool false,.bool true,.bool false,.int .i64 (0),.int .i64 (0),.int .i64 (0)]):=Hd (by
     rw [HRED.out,An.redN_of (a2:=a2) (neg:=false) (a3:=a3) (by rw [if_pos c1]; exact ha2) (by exact (decide_eq_false c2).symm) (by rw [if_neg c2]; exact ha3)]
     rw [if_neg c3.1,if_pos c3.2]; rfl)
    clear c3 c1 c2 ha2 ha3 z3
    go_enter Tryz.func213,Tryz.ntmps213
    go_wp2_with fail
    refine bodyPost_ret (v:=.agg #[.bool false,.bool true,.bool false,.int .i64 (0),.int .i64 (0),.int .i64 (0)]) (by simp [results,Tryz.results213,go_sem]) rfl ⟨by rw [HEQ.out],HB2.out _ _⟩
   ·have f3 : ((4 * (n : Int) - (a : Int)) == 0) = false:=by simp; omega
    have f4 : ((4 * (n : Int) - (a : Int)) == (n : Int)) = false:=by simp; omega
    have f5 : decide ((n : Int) < 2 * (4 * (n : Int) - (a : Int))) = true:=decide_eq_true (by omega)
    have HEQ : Hid (valV (An.reducedM order step false) = .agg #[.bool false,.bool false,.bool true,.int .i64 (0),.int .i64 ((n : Int) - (4 * (n : Int) - (a : Int))),.int .i64 (4 * (n : Int))]):=Hd (by
     rw [HRED.out,An.redN_of (a2:=a2) (neg:=false) (a3:=a3) (by rw [if_pos c1]; exact ha2) (by exact (decide_eq_false c2).symm) (by rw [if_neg c2]; exact ha3)]
     rw [if_neg c3.1,if_neg c3.2.1,if_pos c3.2.2]; simp only [valV]; rw [show ((n - a3 : Nat) : Int) = (n : Int) - (4 * (n : Int) - (a : Int)) by omega,show ((4 * n : Nat) : Int) = 4 * (n : Int) by omega]; rfl)
    clear c3 c1 c2 ha2 ha3 z3
    go_enter Tryz.func213,Tryz.ntmps213
    go_wp2_with fail
    refine bodyPost_ret (v:=.agg #[.bool false,.bool false,.bool true,.int .i64 (0),.int .i64 ((n : Int) - (4 * (n : Int) - (a : Int))),.int .i64 (4 * (n : Int))]) (by simp [results,Tryz.results213,go_sem]) rfl ⟨by rw [HEQ.out],HB2.out _ _⟩
   ·have f3 : ((4 * (n : Int) - (a : Int)) == 0) = false:=by simp; omega
    have f4 : ((4 * (n : Int) - (a : Int)) == (n : Int)) = false:=by simp; omega
    have f5 : decide ((n : Int) < 2 * (4 * (n : Int) - (a : Int))) = false:=decide_eq_false (by omega)
    have HEQ : Hid (valV (An.reducedM order step false) = .agg #[.bool false,.bool false,.bool false,.int .i64 (0),.int .i64 (4 * (n : Int) - (a : Int)),.int .i64 (4 * (n : Int))]):=Hd (by
     rw [HRED.out,An.redN_of (a2:=a2) (neg:=false) (a3:=a3) (by rw [if_pos c1]; exact ha2) (by exact (decide_eq_false c2).symm) (by rw [if_neg c2]; exact ha3)]
     rw [if_neg c3.1,if_neg c3.2.1,if_neg c3.2.2]; simp only [valV]; rw [z3,show ((4 * n : Nat) : Int) = 4 * (n : Int) by omega]; rfl)
    clear c3 c1 c2 ha2 ha3 z3
    go_enter Tryz.func213,Tryz.ntmps213
    go_wp2_with fail
    refine bodyPost_ret (v:=.agg #[.bool false,.bool false,.bool false,.int .i64 (0),.int .i64 (4 * (n : Int) - (a : Int)),.int .i64 (4 * (n : Int))]) (by simp [results,Tryz.results213,go_sem]) rfl ⟨by rw [HEQ.out],HB2.out _ _⟩
 ·have f1 : decide (2 * (n : Int) < (a : Int)) = false:=decide_eq_false (by omega)
  obtain ⟨a2,ha2⟩ : ∃ a2 : Nat,a2 = a:=⟨_,rfl⟩
  by_cases c2 : n < a2
  ·obtain ⟨a3,ha3⟩ : ∃ a3 : Nat,a3 = 2 * n - a2:=⟨_,rfl⟩
   have f2 : decide (n < a) = true:=decide_eq_true (by omega)
   have z3 : (a3 : Int) = 2 * (n : Int) - (a : Int):=by omega
   rcases (show a3 = 0 \/ (a3 ≠ 0 /\ a3 = n) \/ (a3 ≠ 0 /\ a3 ≠ n /\ n < 2 * a3) \/ (a3 ≠ 0 /\ a3 ≠ n /\ ¬ n < 2 * a3) by omega) with c3 | c3 | c3 | c3
   ·have f3 : ((2 * (n : Int) - (a : Int)) == 0) = true:=by simp; omega
    have HEQ : Hid (valV (An.reducedM order step false) = .agg #[.bool true,.bool true,.bool false,.int .i64 (1),.int .i64 (0),.int .i64 (0)]):=Hd (by
     rw [HRED.out,An.redN_of (a2:=a2) (neg:=true) (a3:=a3) (by rw [if_neg c1]; exact ha2) (by exact (decide_eq_true c2).symm) (by rw [if_pos c2]; exact ha3)]
     rw [if_pos c3]; rfl)
    clear c3 c1 c2 ha2 ha3 z3
    go_enter Tryz.func213,Tryz.ntmps213
    go_wp2_with fail
    refine bodyPost_ret (v:=.agg #[.bool true,.bool true,.bool false,.int .i64 (1),.int .i64 (0),.int .i64 (0)]) (by simp [results,Tryz.results213,go_sem]) rfl ⟨by rw [HEQ.out],HB2.out _ _⟩
   ·exfalso; omega
   ·have f3 : ((2 * (n : Int) - (a : Int)) == 0) = false:=by simp; omega
    have f4 : ((2 * (n : Int) - (a : Int)) == (n : Int)) = false:=by simp; omega
    have f5 : decide ((n : Int) < 2 * (2 * (n : Int) - (a : Int))) = true:=decide_eq_true (by omega)
    have HEQ : Hid (valV (An.reducedM order step false) = .agg #[.bool true,.bool false,.bool true,.int .i64 (0),.int .i64 ((n : Int) - (2 * (n : Int) - (a : Int))),.int .i64 (4 * (n : Int))]):=Hd (by
     rw [HRED.out,An.redN_of (a2:=a2) (neg:=true) (a3:=a3) (by rw [if_neg c1]; exact ha2) (by exact (decide_eq_true c2).symm) (by rw [if_pos c2]; exact ha3)]
     rw [if_neg c3.1,if_neg c3.2.1,if_pos c3.2.2]; simp only [valV]; rw [show ((n - a3 : Nat) : Int) = (n : Int) - (2 * (n : Int) - (a : Int)) by omega,show ((4 * n : Nat) : Int) = 4 * (n : Int) by omega]; rfl)
    clear c3 c1 c2 ha2 ha3 z3
    go_enter Tryz.func213,Tryz.ntmps213
    go_wp2_with fail
    refine bodyPost_ret (v:=.agg #[.bool true,.bool false,.bool true,.int .i64 (0),.int .i64 ((n : Int) - (2 * (n : Int) - (a : Int))),.int .i64 (4 * (n : Int))]) (by simp [results,Tryz.results213,go_sem]) rfl ⟨by rw [HEQ.out],HB2.out _ _⟩
   ·have f3 : ((2 * (n : Int) - (a : Int)) == 0) = false:=by simp; omega
    have f4 : ((2 * (n : Int) - (a : Int)) == (n : Int)) = false:=by simp; omega
    have f5 : decide ((n : Int) < 2 * (2 * (n : Int) - (a : Int))) = false:=decide_eq_false (by omega)
    have HEQ : Hid (valV (An.reducedM order step false) = .agg #[.bool true,.bool false,.bool false,.int .i64 (0),.int .i64 (2 * (n : Int) - (a : Int)),.int .i64 (4 * (n : Int))]):=Hd (by
     rw [HRED.out,An.redN_of (a2:=a2) (neg:=true) (a3:=a3) (by rw [if_neg c1]; exact ha2) (by exact (decide_eq_true c2).symm) (by rw [if_pos c2]; exact ha3)]
     rw [if_neg c3.1,if_neg c3.2.1,if_neg c3.2.2]; simp only [valV]; rw [z3,show ((4 * n : Nat) : Int) = 4 * (n : Int) by omega]; rfl)
    clear c3 c1 c2 ha2 ha3 z3
    go_enter Tryz.func213,Tryz.ntmps213
    go_wp2_with fail
    refine bodyPost_ret (v:=.agg #[.bool true,.bool false,.bool false,.int .i64 (0),.int .i64 (2 * (n : Int) - (a : Int)),.int .i64 (4 * (n : Int))]) (by simp [results,Tryz.results213,go_sem]) rfl ⟨by rw [HEQ.out],HB2.out _ _⟩
  ·obtain ⟨a3,ha3⟩ : ∃ a3 : Nat,a3 = a2:=⟨_,rfl⟩
   have f2 : decide (n < a) = false:=decide_eq_false (by omega)
   have z3 : (a3 : Int) = (a : Int):=by omega
   rcases (show a3 = 0 \/ (a3 ≠ 0 /\ a3 = n) \/ (a3 ≠ 0 /\ a3 ≠ n /\ n < 2 * a3) \/ (a3 ≠ 0 /\ a3 ≠ n /\ ¬ n < 2 * a3) by omega) with c3 | c3 | c3 | c3
   ·have f3 : (((a : Int)) == 0) = true:=by simp; omega
    have HEQ : Hid (valV (An.reducedM order step false) = .agg #[.bool false,.bool true,.bool false,.int .i64 (1),.int .i64 (0),.int .i64 (0)]):=Hd (by
     rw [HRED.out,An.redN_of (a2:=a2) (neg:=false) (a3:=a3) (by rw [if_neg c1]; exact ha2) (by exact (decide_eq_false c2).symm) (by rw [if_neg c2]; exact ha3)]
     rw [if_pos c3]; rfl)
    clear c3 c1 c2 ha2 ha3 z3
    go_enter Tryz.func213,Tryz.ntmps213
    go_wp2_with fail
    refine bodyPost_ret (v:=.agg #[.bool false,.bool true,.bool false,.int .i64 (1),.int .i64 (0),.int .i64 (0)]) (by simp [results,Tryz.results213,go_sem]) rfl ⟨by rw [HEQ.out],HB2.out _ _⟩
   ·have f3 : (((a : Int)) == 0) = false:=by simp; omega
    have f4 : (((a : Int)) == (n : Int)) = true:=by simp; omega
    have HEQ : Hid (valV (An.reducedM order step false) = .agg #[.bool false,.bool true,.bool false,.int .i64 (0),.int .i64 (0),.int .i64 (0)]):=Hd (by
     rw [HRED.out,An.redN_of (a2:=a2) (neg:=false) (a3:=a3) (by rw [if_neg c1]; exact ha2) (by exact (decide_eq_false c2).symm) (by rw [if_neg c2]; exact ha3)]
     rw [if_neg c3.1,if_pos c3.2]; rfl)
    clear c3 c1 c2 ha2 ha3 z3
    go_enter Tryz.func213,Tryz.ntmps213
    go_wp2_with fail
    refine bodyPost_ret (v:=.agg #[.bool false,.bool true,.bool false,.int .i64 (0),.int .i64 (0),.int .i64 (0)]) (by simp [results,Tryz.results213,go_sem]) rfl ⟨by rw [HEQ.out],HB2.out _ _⟩
   ·have f3 : (((a : Int)) == 0) = false:=by simp; omega
    have f4 : (((a : Int)) == (n : Int)) = false:=by simp; omega
    have f5 : decide ((n : Int) < 2 * ((a : Int))) = true:=decide_eq_true (by omega)
    have HEQ : Hid (valV (An.reducedM order step false) = .agg #[.bool false,.bool false,.bool true,.int .i64 (0),.int .i64 ((n : Int) - ((a : Int))),.int .i64 (4 * (n : Int))]):=Hd (by
     rw [HRED.out,An.redN_of (a2:=a2) (neg:=false) (a3:=a3) (by rw [if_neg c1]; exact ha2) (by exact (decide_eq_false c2).symm) (by rw [if_neg c2]; exact ha3)]
     rw [if_neg c3.1,if_neg c3.2.1,if_pos c3.2.2]; simp only [valV]; rw [show ((n - a3 : Nat) : Int) = (n : Int) - ((a : Int)) by omega,show ((4 * n : Nat) : Int) = 4 * (n : Int) by omega]; rfl)
    clear c3 c1 c2 ha2 ha3 z3
    go_enter Tryz.func213,Tryz.ntmps213
    go_wp2_with fail
    refine bodyPost_ret (v:=.agg #[.bool false,.bool false,.bool true,.int .i64 (0),.int .i64 ((n : Int) - ((a : Int))),.int .i64 (4 * (n : Int))]) (by simp [results,Tryz.results213,go_sem]) rfl ⟨by rw [HEQ.out],HB2.out _ _⟩
   ·have f3 : (((a : Int)) == 0) = false:=by simp; omega
    have f4 : (((a : Int)) == (n : Int)) = false:=by simp; omega
    have f5 : decide ((n : Int) < 2 * ((a : Int))) = false:=decide_eq_false (by omega)
    have HEQ : Hid (valV (An.reducedM order step false) = .agg #[.bool false,.bool false,.bool false,.int .i64 (0),.int .i64 ((a : Int)),.int .i64 (4 * (n : Int))]):=Hd (by
     rw [HRED.out,An.redN_of (a2:=a2) (neg:=false) (a3:=a3) (by rw [if_neg c1]; exact ha2) (by exact (decide_eq_false c2).symm) (by rw [if_neg c2]; exact ha3)]
     rw [if_neg c3.1,if_neg c3.2.1,if_neg c3.2.2]; simp only [valV]; rw [z3,show ((4 * n : Nat) : Int) = 4 * (n : Int) by omega]; rfl)
    clear c3 c1 c2 ha2 ha3 z3
    go_enter Tryz.func213,Tryz.ntmps213
    go_wp2_with fail
    refine bodyPost_ret (v:=.agg #[.bool false,.bool false,.bool false,.int .i64 (0),.int .i64 ((a : Int)),.int .i64 (4 * (n : Int))]) (by simp [results,Tryz.results213,go_sem]) rfl ⟨by rw [HEQ.out],HB2.out _ _⟩
end
end Go.Proofs.YtnpanpkahbcecaaGreatDoor

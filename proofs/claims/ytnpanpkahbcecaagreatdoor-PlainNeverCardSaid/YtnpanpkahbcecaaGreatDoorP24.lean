/-
Walk: angle's gap. Out of gengap.py.
-/
import Derived.Test.YtnpanpkahbcecaaGreatDoorP22
import Derived.Test.YtnpanpkahbcecaaGreatDoorP23
import Derived.Deep.RegionHeld3
import Derived.Lib.Hide
set_option linter.unusedVariables false
set_option linter.unusedSimpArgs false
namespace Go.Proofs.YtnpanpkahbcecaaGreatDoor
section
open Go.RowKit
def DZ (z x : Int) (s : Bool) (N : Nat) (y : Int) : Prop:=(z = 0 /\ s = false /\ N = 0 /\ y = 0) \/ ∃ t m : Nat,z.natAbs = 2 ^ t * (2 * m + 1) /\ s = decide (z < 0) /\ N = 2 * m + 1 /\ y = x + t /\ t <= 2000 /\ z.natAbs + 1 < BL
theorem dyad_any (g : Nat) (z x : Int) (s : Bool) (N : Nat) (y : Int) (w : World) (hg : BI w g z) (hT : TabAt 2 Lib.deBruijn64tab w) (hT2 : 2 < w.heap.size) (hx1 : -100000 <= x) (hx2 : x <= 100000) (h : DZ z x s N y) :
  Calls Tryz.prog 221 #[.pointer (some ⟨g,0,none⟩),.int .i64 x] w (DPost s N y w):=by
 rcases h with ⟨rfl,rfl,rfl,rfl⟩ | ⟨t,m,h1,rfl,rfl,rfl,h2,h3⟩
 ·exact dyad_zero g x w hg
 ·exact dyad_some g z x t m w hg hT hT2 h1 h2 hx1 hx2 h3
theorem cs_other (w : World) (g i j : Nat) (v : Value) (h : i ≠ j) : (w.setCell ⟨g,i,none⟩ v).cell? ⟨g,j,none⟩ = w.cell? ⟨g,j,none⟩:=World.cell?_setCell_other _ _ _ _ (by simp only [ne_eq,Addr.mk.injEq,not_and]; intro _ e; exact absurd e h)
theorem cs_same (w : World) (g i : Nat) (v u : Value) (h : w.cell? ⟨g,i,none⟩ = some u) : (w.setCell ⟨g,i,none⟩ v).cell? ⟨g,i,none⟩ = some v:=World.cell?_setCell_same _ _ _ h
def put6 (w : World) (g : Nat) (v0 v1 v2 v3 v4 v5 : Value) : World:=(((((w.setCell ⟨g,0,none⟩ v0).setCell ⟨g,1,none⟩ v1).setCell ⟨g,2,none⟩ v2).setCell ⟨g,3,none⟩ v3).setCell ⟨g,4,none⟩ v4).setCell ⟨g,5,none⟩ v5
def GC (g : Nat) (w : World) : Prop:=((w.cell? ⟨g,0,none⟩ = some (.bool false) /\ w.cell? ⟨g,1,none⟩ = some (.slice none 0 0) /\ w.cell? ⟨g,2,none⟩ = some (.int .i64 0)) /\ (w.cell? ⟨g,3,none⟩ = some (.bool false) /\ w.cell? ⟨g,4,none⟩ = some (.slice none 0 0) /\ w.cell? ⟨g,5,none⟩ = some (.int .i64 0))) /\ (w.frozen? ⟨g,0,none⟩ = false /\ w.frozen? ⟨g,1,none⟩ = false /\ w.frozen? ⟨g,2,none⟩ = false /\ w.frozen? ⟨g,3,none⟩ = false /\ w.frozen? ⟨g,4,none⟩ = false /\ w.frozen? ⟨g,5,none⟩ = false)
theorem gap_store {w : World} {g : Nat} (h : GC g w) (v0 v1 v2 v3 v4 v5 : Value) :
  (∀ A n c l,U w A n c l -> U (put6 w g v0 v1 v2 v3 v4 v5) A n c l) /\ (∀ B (wb : World),B <= g -> Below B wb w -> Below B wb (put6 w g v0 v1 v2 v3 v4 v5)) /\
  ((put6 w g v0 v1 v2 v3 v4 v5).cell? ⟨g,0,none⟩ = some v0 /\ (put6 w g v0 v1 v2 v3 v4 v5).cell? ⟨g,1,none⟩ = some v1 /\ (put6 w g v0 v1 v2 v3 v4 v5).cell? ⟨g,2,none⟩ = some v2 /\ (put6 w g v0 v1 v2 v3 v4 v5).cell? ⟨g,3,none⟩ = some v3 /\ (put6 w g v0 v1 v2 v3 v4 v5).cell? ⟨g,4,none⟩ = some v4 /\ (put6 w g v0 v1 v2 v3 v4 v5).cell? ⟨g,5,none⟩ = some v5):=by
 obtain ⟨⟨⟨h0,h1,h2⟩,h3,h4,h5⟩,_⟩:=h
 unfold put6
 have a1:=(cs_other w g 0 1 v0 (by decide)).trans h1
 have a2:=(cs_other (w.setCell ⟨g,0,none⟩ v0) g 1 2 v1 (by decide)).trans ((cs_other w g 0 2 v0 (by decide)).trans h2)
 have a3:=(cs_other ((w.setCell ⟨g,0,none⟩ v0).setCell ⟨g,1,none⟩ v1) g 2 3 v2 (by decide)).trans ((cs_other (w.setCell ⟨g,0,none⟩ v0) g 1 3 v1 (by decide)).trans ((cs_other w g 0 3 v0 (by decide)).trans h3))
 have a4:=(cs_other (((w.setCell ⟨g,0,none⟩ v0).setCell ⟨g,1,none⟩ v1).setCell ⟨g,2,none⟩ v2) g 3 4 v3 (by decide)).trans ((cs_other ((w.setCell ⟨g,0,none⟩ v0).setCell ⟨g,1,none⟩ v1) g 2 4 v2 (by decide)).trans ((cs_other (w.setCell ⟨g,0,none⟩ v0) g 1 4 v1 (by decide)).trans ((cs_other w g 0 4 v0 (by decide)).trans h4)))
 have a5:=(cs_other ((((w.setCell ⟨g,0,none⟩ v0).setCell ⟨g,1,none⟩ v1).setCell ⟨g,2,none⟩ v2).setCell ⟨g,3,none⟩ v3) g 4 5 v4 (by decide)).trans ((cs_other (((w.setCell ⟨g,0,none⟩ v0).setCell ⟨g,1,none⟩ v1).setCell ⟨g,2,none⟩ v2) g 3 5 v3 (by decide)).trans ((cs_other ((w.setCell ⟨g,0,none⟩ v0).setCell ⟨g,1,none⟩ v1) g 2 5 v2 (by decide)).trans ((cs_other (w.setCell ⟨g,0,none⟩ v0) g 1 5 v1 (by decide)).trans ((cs_other w g 0 5 v0 (by decide)).trans h5))))
 refine ⟨fun A n c l hu=>(((((hu.store _ _ v0 h0 (fun x hx=>by cases hx)).store _ _ v1 a1 (fun x hx=>by cases hx)).store _ _ v2 a2 (fun x hx=>by cases hx)).store _ _ v3 a3 (fun x hx=>by cases hx)).store _ _ v4 a4 (fun x hx=>by cases hx)).store _ _ v5 a5 (fun x hx=>by cases hx),fun B wb hB hb=>(((((hb.setCell (p:=⟨g,0,none⟩) hB _).setCell (p:=⟨g,1,none⟩) hB _).setCell (p:=⟨g,2,none⟩) hB _).setCell (p:=⟨g,3,none⟩) hB _).setCell (p:=⟨g,4,none⟩) hB _).setCell (p:=⟨g,5,none⟩) hB _,?_,?_,?_,?_,?_,cs_same _ _ _ _ _ a5⟩
 ·rw [cs_other _ _ _ _ _ (by decide),cs_other _ _ _ _ _ (by decide),cs_other _ _ _ _ _ (by decide),cs_other _ _ _ _ _ (by decide),cs_other _ _ _ _ _ (by decide)]; exact cs_same _ _ _ _ _ h0
 ·rw [cs_other _ _ _ _ _ (by decide),cs_other _ _ _ _ _ (by decide),cs_other _ _ _ _ _ (by decide),cs_other _ _ _ _ _ (by decide)]; exact cs_same _ _ _ _ _ a1
 ·rw [cs_other _ _ _ _ _ (by decide),cs_other _ _ _ _ _ (by decide),cs_other _ _ _ _ _ (by decide)]; exact cs_same _ _ _ _ _ a2
 ·rw [cs_other _ _ _ _ _ (by decide),cs_other _ _ _ _ _ (by decide)]; exact cs_same _ _ _ _ _ a3
 ·rw [cs_other _ _ _ _ _ (by decide)]; exact cs_same _ _ _ _ _ a4
def GPost (s1 : Bool) (N1 : Nat) (y1 : Int) (s2 : Bool) (N2 : Nat) (y2 : Int) (w : World) (e : Ending) (w' : World) : Prop :=
 ∃ A n c A' n' c',e = .returned (.agg #[.bool s1,.slice A n c,.int .i64 y1,.bool s2,.slice A' n' c',.int .i64 y2]) /\ NU w' A n c N1 /\ NU w' A' n' c' N2 /\ Below w.heap.size w w'
set_option maxRecDepth 100000 in
set_option maxHeartbeats 4000000 in
theorem gap_frac_pos (sine : Bool) (nn step of : Nat) (P F : Nat) (s1 : Bool) (N1 : Nat) (y1 : Int) (s2 : Bool) (N2 : Nat) (y2 : Int) (w : World) (hT : TabAt 2 Lib.deBruijn64tab w) (hT2 : 2 < w.heap.size) (hn : nn <= 1) (hP : An.piM 164 = some (P : Int)) (hPb : P < 2 ^ 200) (ho1 : 1 <= of) (ho2 : of <= 65536) (hs : step <= 65536) (hF : An.floorM P ⟨false,false,sine,nn,step,of⟩ = some F) (hFb : F < 2 ^ 190) (h1 : DZ (F : Int) (-100) s1 N1 y1) (h2 : DZ ((F : Int) + 1) (-100) s2 N2 y2) :
  Calls Tryz.prog 216 #[valV ⟨false,false,sine,nn,step,of⟩,.int .i64 100] w (GPost s1 N1 y1 s2 N2 y2 w):=by
 have hb1:=(Below.refl w.heap.size w).alloc (Nat.le_refl _) (.cells #[.bool false,.bool false,.bool sine,.int .i64 nn,.int .i64 step,.int .i64 of] 235)
 have hb:=hb1.alloc hb1.size (.cells #[.bool false,.slice none 0 0,.int .i64 0,.bool false,.slice none 0 0,.int .i64 0] 180)
 obtain ⟨W,hW⟩ : ∃ W,W = (w.alloc (.cells #[.bool false,.bool false,.bool sine,.int .i64 nn,.int .i64 step,.int .i64 of] 235)).alloc (.cells #[.bool false,.slice none 0 0,.int .i64 0,.bool false,.slice none 0 0,.int .i64 0] 180):=⟨_,rfl⟩
 have hWs : W.heap.size = w.heap.size + 1 + 1:=by rw [hW]; simp
 have k : ((W.cell? ⟨w.heap.size,0,none⟩ = some (.bool false) /\ W.cell? ⟨w.heap.size,1,none⟩ = some (.bool false) /\ W.cell? ⟨w.heap.size,2,none⟩ = some (.bool sine)) /\ (W.cell? ⟨w.heap.size,3,none⟩ = some (.int .i64 nn) /\ W.cell? ⟨w.heap.size,4,none⟩ = some (.int .i64 step) /\ W.cell? ⟨w.heap.size,5,none⟩ = some (.int .i64 of))) /\ GC (w.heap.size + 1) W:=by
  rw [hW]; unfold GC
  refine ⟨⟨⟨by simp,by simp,by simp⟩,by simp,by simp,by simp⟩,⟨⟨by simp,by simp,by simp⟩,by simp,by simp,by simp⟩,by simp,by simp,by simp,by simp,by simp,by simp⟩
 rw [<- hW] at hb
 have HB:=Hd hb
 have HWS:=Hd hWs
 have HK : Hid (∀ u,Below W.heap.size W u -> ((u.cell? ⟨w.heap.size,0,none⟩ = some (.bool false) /\ u.cell? ⟨w.heap.size,1,none⟩ = some (.bool false) /\ u.cell? ⟨w.heap.size,2,none⟩ = some (.bool sine)) /\ (u.cell? ⟨w.heap.size,3,none⟩ = some (.int .i64 nn) /\ u.cell? ⟨w.heap.size,4,none⟩ = some (.int .i64 step) /\ u.cell? ⟨w.heap.size,5,none⟩ = some (.int .i64 of))) /\ GC (w.heap.size + 1) u):=Hd (fun u hu=>by
  have a:=fun j=>hu.cell (p:=⟨w.heap.size,j,none⟩) (by show w.heap.size < W.heap.size; omega)
  have b:=fun j=>hu.cell (p:=⟨w.heap.size + 1,j,none⟩) (by show w.heap.size + 1 < W.heap.size; omega)
  have f:=fun j=>hu.frozen (p:=⟨w.heap.size + 1,j,none⟩) (by show w.heap.size + 1 < W.heap.size; omega)
  unfold GC at k ⊢
  simp only [a,b,f]
  exact k)
 have HT : Hid (∀ u,Below w.heap.size w u -> TabAt 2 Lib.deBruijn64tab u /\ 2 < u.heap.size):=Hd (fun u hu=>⟨hT.below hu hT2,Nat.lt_of_lt_of_le hT2 hu.size⟩)
 have HD1:=Hd (fun u g (hg : BI u g (F : Int)) (hu : Below w.heap.size w u)=>dyad_any g (F : Int) (-100) s1 N1 y1 u hg (HT.out u hu).1 (HT.out u hu).2 (by decide) (by decide) h1)
 have HD2:=Hd (fun u g (hg : BI u g ((F : Int) + 1)) (hu : Below w.heap.size w u)=>dyad_any g ((F : Int) + 1) (-100) s2 N2 y2 u hg (HT.out u hu).1 (HT.out u hu).2 (by decide) (by decide) h2)
 have HFL:=Hd (fun u=>floor_any ⟨false,false,sine,nn,step,of⟩ P F u hP hPb ho1 ho2 hs hF)
 have HFB : Hid (F + 2 < BL):=Hd (by
  have e:=BL_pow
  obtain ⟨Z,hZ⟩ : ∃ Z : Nat,Z = 1920:=⟨_,rfl⟩
  rw [<- hZ] at e
  have h2 : (2 : Nat) ^ 191 <= 2 ^ Z:=Nat.pow_le_pow_right (by decide) (by omega)
  rw [e]; omega)
 unfold valV at HFL
 simp only at HFL
 clear hP hPb ho1 ho2 hs hF hFb
 clear h1 h2 hT hT2 hb hb1 k
 unfold valV
 go_enter Tryz.func216,Tryz.ntmps216
 go_wp2_with fail
 rw [<- hW]
 clear hW hWs
 refine (bnew_any 1 _ (by decide) (by decide)).mono ?_
 rintro e w1 ⟨g1,rfl,hb,hg,hw⟩
 have HO1:=Hd ((Own.nil (Below.refl W.heap.size W)).add hb hg hw)
 clear hb hg hw
 have HN:=Hd (fun u=>bnew_any (nn : Int) u (by omega) (by omega))
 have HKS:=Hd (fun u (h : Below w1.heap.size w1 u)=>(show u.cell? ⟨w.heap.size,3,none⟩ = some (.int .i64 nn) /\ Hid (Below w1.heap.size w1 u) from ⟨(HK.out u (HO1.out.1.trans (h.mono HO1.out.1.size))).1.2.1,Hd h⟩))
 go_wp2_with fail
 go_region_held3 (fun u=>u.cell? ⟨w.heap.size,3,none⟩ = some (.int .i64 nn) /\ Hid (Below w1.heap.size w1 u)) ((first | exact HKS.out _ (below_drew (Below.refl _ _)) | exact HKS.out _ HB2.out | exact HKS.out _ HB3.out)) (first
  | (go_at_call 218; refine (HN.out _).mono ?_; rintro e w3 ⟨g3,rfl,hb,hg,hw⟩; have HB3:=Hd (HB2.out.trans (hw.mono HB2.out.size)); have HO3:=Hd (HO2.out.add hb hg hw); clear hb hg hw)
  | (go_at_call 218; refine (HN.out _).mono ?_; rintro e w2 ⟨g2,rfl,hb,hg,hw⟩; have HB2:=Hd ((below_drew (Below.refl w1.heap.size w1)).trans hw); have HO2:=Hd ((HO1.out.below (below_drew (Below.refl w1.heap.size w1))).add hb hg hw); clear hb hg hw))
 clear HB2 HB3 HO1 HO2 HKS HN
 obtain ⟨⟨⟨k0,k1,k2⟩,k3,k4,k5⟩,_⟩:=HK.out _ HO3.out.1
 go_wp2_with fail
 refine (HFL.out _).mono ?_
 rintro e w4 ⟨gF,rfl,hb,hg,hw⟩
 have HO4 : Hid (Own W w4 [(gF,(F : Int)),(g3,(nn : Int)),(g2,(nn : Int)),(g1,1)]):=Hd (HO3.out.add hb hg hw)
 clear hb hg hw HO3 k0 k1 k2 k3 k4 k5
 go_wp2_with fail
 refine (badd_any g3 gF g1 (nn : Int) (F : Int) 1 w4 (HO4.out.bi (by simp)) (HO4.out.bi (by simp)) (HO4.out.bi (by simp)) (by have:=HFB.out; omega)).mono ?_
 rintro e w5 ⟨rfl,hb,ht⟩
 have HO5 : Hid (Own W w5 [(gF,(F : Int)),(g3,(F : Int) + 1),(g2,(nn : Int)),(g1,1)]):=Hd (HO4.out.upd [(gF,(F : Int))] hb ht)
 clear hb ht HO4
 obtain ⟨⟨⟨k0,k1,k2⟩,k3,k4,k5⟩,_⟩:=HK.out _ HO5.out.1
 go_wp2_with fail
 refine (HD1.out _ gF (HO5.out.bi (by simp)) (HB.out.trans (HO5.out.1.mono (by have:=HWS.out; omega)))).mono ?_
 rintro e w8 ⟨A,n,c,rfl,hu,hb⟩
 have HU1:=Hd hu
 have HO8:=Hd (HO5.out.below hb)
 clear hu hb
 go_wp2_with fail
 refine (HD2.out _ g3 (HO8.out.bi (by simp)) (HB.out.trans (HO8.out.1.mono (by have:=HWS.out; omega)))).mono ?_
 rintro e w9 ⟨A',n',c',rfl,hu,hb⟩
 have HU2:=Hd hu
 have HU3:=Hd (HU1.out.below hb)
 have HO9:=Hd (HO8.out.below hb)
 have hgc:=(HK.out _ HO9.out.1).2
 have HST:=Hd (gap_store hgc (.bool s1) (.slice A n c) (.int .i64 y1) (.bool s2) (.slice A' n' c') (.int .i64 y2))
 obtain ⟨⟨⟨r0,r1,r2⟩,r3,r4,r5⟩,q0,q1,q2,q3,q4,q5⟩:=hgc
 have hz : w.heap.size + 1 < w9.heap.size:=by have:=HO9.out.1.size; have:=HWS.out; omega
 clear hu hb HU1 HO8
 go_wp2_with fail
 have hs:=HST.out
 unfold put6 at hs
 have HS:=Hd hs
 clear hs HST
 generalize (((((w9.setCell ⟨w.heap.size + 1,0,none⟩ (.bool s1)).setCell ⟨w.heap.size + 1,1,none⟩ (.slice A n c)).setCell ⟨w.heap.size + 1,2,none⟩ (.int .i64 y1)).setCell ⟨w.heap.size + 1,3,none⟩ (.bool s2)).setCell ⟨w.heap.size + 1,4,none⟩ (.slice A' n' c')).setCell ⟨w.heap.size + 1,5,none⟩ (.int .i64 y2) = W9 at *
 refine bodyPost_ret (v:=.agg #[.bool s1,.slice A n c,.int .i64 y1,.bool s2,.slice A' n' c',.int .i64 y2]) (by simp [results,Tryz.results216,go_sem,HS.out.2.2.1,HS.out.2.2.2.1,HS.out.2.2.2.2.1,HS.out.2.2.2.2.2.1,HS.out.2.2.2.2.2.2.1,HS.out.2.2.2.2.2.2.2]) rfl ⟨A,n,c,A',n',c',rfl,⟨HS.out.1 _ _ _ _ HU3.out.1,HU3.out.2⟩,⟨HS.out.1 _ _ _ _ HU2.out.1,HU2.out.2⟩,HS.out.2.1 _ _ (by omega) (HB.out.trans (HO9.out.1.mono (by have:=HWS.out; omega)))⟩
set_option maxRecDepth 100000 in
set_option maxHeartbeats 4000000 in
theorem gap_frac_neg (sine : Bool) (nn step of : Nat) (P F : Nat) (s1 : Bool) (N1 : Nat) (y1 : Int) (s2 : Bool) (N2 : Nat) (y2 : Int) (w : World) (hT : TabAt 2 Lib.deBruijn64tab w) (hT2 : 2 < w.heap.size) (hn : nn <= 1) (hP : An.piM 164 = some (P : Int)) (hPb : P < 2 ^ 200) (ho1 : 1 <= of) (ho2 : of <= 65536) (hs : step <= 65536) (hF : An.floorM P ⟨true,false,sine,nn,step,of⟩ = some F) (hFb : F < 2 ^ 190) (h1 : DZ (-((F : Int) + 1)) (-100) s1 N1 y1) (h2 : DZ (-(F : Int)) (-100) s2 N2 y2) :
  Calls Tryz.prog 216 #[valV ⟨true,false,sine,nn,step,of⟩,.int .i64 100] w (GPost s1 N1 y1 s2 N2 y2 w):=by
 have hb1:=(Below.refl w.heap.size w).alloc (Nat.le_refl _) (.cells #[.bool true,.bool false,.bool sine,.int .i64 nn,.int .i64 step,.int .i64 of] 235)
 have hb:=hb1.alloc hb1.size (.cells #[.bool false,.slice none 0 0,.int .i64 0,.bool false,.slice none 0 0,.int .i64 0] 180)
 obtain ⟨W,hW⟩ : ∃ W,W = (w.alloc (.cells #[.bool true,.bool false,.bool sine,.int .i64 nn,.int .i64 step,.int .i64 of] 235)).alloc (.cells #[.bool false,.slice none 0 0,.int .i64 0,.bool false,.slice none 0 0,.int .i64 0] 180):=⟨_,rfl⟩
 have hWs : W.heap.size = w.heap.size + 1 + 1:=by rw [hW]; simp
 have k : ((W.cell? ⟨w.heap.size,0,none⟩ = some (.bool true) /\ W.cell? ⟨w.heap.size,1,none⟩ = some (.bool false) /\ W.cell? ⟨w.heap.size,2,none⟩ = some (.bool sine)) /\ (W.cell? ⟨w.heap.size,3,none⟩ = some (.int .i64 nn) /\ W.cell? ⟨w.heap.size,4,none⟩ = some (.int .i64 step) /\ W.cell? ⟨w.heap.size,5,none⟩ = some (.int .i64 of))) /\ GC (w.heap.size + 1) W:=by
  rw [hW]; unfold GC
  refine ⟨⟨⟨by simp,by simp,by simp⟩,by simp,by simp,by simp⟩,⟨⟨by simp,by simp,by simp⟩,by simp,by simp,by simp⟩,by simp,by simp,by simp,by simp,by simp,by simp⟩
 rw [<- hW] at hb
 have HB:=Hd hb
 have HWS:=Hd hWs
 have HK : Hid (∀ u,Below W.heap.size W u -> ((u.cell? ⟨w.heap.size,0,none⟩ = some (.bool true) /\ u.cell? ⟨w.heap.size,1,none⟩ = some (.bool false) /\ u.cell? ⟨w.heap.size,2,none⟩ = some (.bool sine)) /\ (u.cell? ⟨w.heap.size,3,none⟩ = some (.int .i64 nn) /\ u.cell? ⟨w.heap.size,4,none⟩ = some (.int .i64 step) /\ u.cell? ⟨w.heap.size,5,none⟩ = some (.int .i64 of))) /\ GC (w.heap.size + 1) u):=Hd (fun u hu=>by
  have a:=fun j=>hu.cell (p:=⟨w.heap.size,j,none⟩) (by show w.heap.size < W.heap.size; omega)
  have b:=fun j=>hu.cell (p:=⟨w.heap.size + 1,j,none⟩) (by show w.heap.size + 1 < W.heap.size; omega)
  have f:=fun j=>hu.frozen (p:=⟨w.heap.size + 1,j,none⟩) (by show w.heap.size + 1 < W.heap.size; omega)
  unfold GC at k ⊢
  simp only [a,b,f]
  exact k)
 have HT : Hid (∀ u,Below w.heap.size w u -> TabAt 2 Lib.deBruijn64tab u /\ 2 < u.heap.size):=Hd (fun u hu=>⟨hT.below hu hT2,Nat.lt_of_lt_of_le hT2 hu.size⟩)
 have HD1:=Hd (fun u g (hg : BI u g (-((F : Int) + 1))) (hu : Below w.heap.size w u)=>dyad_any g (-((F : Int) + 1)) (-100) s1 N1 y1 u hg (HT.out u hu).1 (HT.out u hu).2 (by decide) (by decide) h1)
 have HD2:=Hd (fun u g (hg : BI u g (-(F : Int))) (hu : Below w.heap.size w u)=>dyad_any g (-(F : Int)) (-100) s2 N2 y2 u hg (HT.out u hu).1 (HT.out u hu).2 (by decide) (by decide) h2)
 have HFL:=Hd (fun u=>floor_any ⟨true,false,sine,nn,step,of⟩ P F u hP hPb ho1 ho2 hs hF)
 have HFB : Hid (F + 2 < BL):=Hd (by
  have e:=BL_pow
  obtain ⟨Z,hZ⟩ : ∃ Z : Nat,Z = 1920:=⟨_,rfl⟩
  rw [<- hZ] at e
  have h2 : (2 : Nat) ^ 191 <= 2 ^ Z:=Nat.pow_le_pow_right (by decide) (by omega)
  rw [e]; omega)
 unfold valV at HFL
 simp only at HFL
 clear hP hPb ho1 ho2 hs hF hFb
 clear h1 h2 hT hT2 hb hb1 k
 unfold valV
 go_enter Tryz.func216,Tryz.ntmps216
 go_wp2_with fail
 rw [<- hW]
 clear hW hWs
 refine (bnew_any 1 _ (by decide) (by decide)).mono ?_
 rintro e w1 ⟨g1,rfl,hb,hg,hw⟩
 have HO1:=Hd ((Own.nil (Below.refl W.heap.size W)).add hb hg hw)
 clear hb hg hw
 have HN:=Hd (fun u=>bnew_any (nn : Int) u (by omega) (by omega))
 have HKS:=Hd (fun u (h : Below w1.heap.size w1 u)=>(show u.cell? ⟨w.heap.size,3,none⟩ = some (.int .i64 nn) /\ Hid (Below w1.heap.size w1 u) from ⟨(HK.out u (HO1.out.1.trans (h.mono HO1.out.1.size))).1.2.1,Hd h⟩))
 go_wp2_with fail
 go_region_held3 (fun u=>u.cell? ⟨w.heap.size,3,none⟩ = some (.int .i64 nn) /\ Hid (Below w1.heap.size w1 u)) ((first | exact HKS.out _ (below_drew (Below.refl _ _)) | exact HKS.out _ HB2.out | exact HKS.out _ HB3.out)) (first
  | (go_at_call 218; refine (HN.out _).mono ?_; rintro e w3 ⟨g3,rfl,hb,hg,hw⟩; have HB3:=Hd (HB2.out.trans (hw.mono HB2.out.size)); have HO3:=Hd (HO2.out.add hb hg hw); clear hb hg hw)
  | (go_at_call 218; refine (HN.out _).mono ?_; rintro e w2 ⟨g2,rfl,hb,hg,hw⟩; have HB2:=Hd ((below_drew (Below.refl w1.heap.size w1)).trans hw); have HO2:=Hd ((HO1.out.below (below_drew (Below.refl w1.heap.size w1))).add hb hg hw); clear hb hg hw))
 clear HB2 HB3 HO1 HO2 HKS HN
 obtain ⟨⟨⟨k0,k1,k2⟩,k3,k4,k5⟩,_⟩:=HK.out _ HO3.out.1
 go_wp2_with fail
 refine (HFL.out _).mono ?_
 rintro e w4 ⟨gF,rfl,hb,hg,hw⟩
 have HO4 : Hid (Own W w4 [(gF,(F : Int)),(g3,(nn : Int)),(g2,(nn : Int)),(g1,1)]):=Hd (HO3.out.add hb hg hw)
 clear hb hg hw HO3 k0 k1 k2 k3 k4 k5
 go_wp2_with fail
 refine (badd_any g3 gF g1 (nn : Int) (F : Int) 1 w4 (HO4.out.bi (by simp)) (HO4.out.bi (by simp)) (HO4.out.bi (by simp)) (by have:=HFB.out; omega)).mono ?_
 rintro e w5 ⟨rfl,hb,ht⟩
 have HO5 : Hid (Own W w5 [(gF,(F : Int)),(g3,(F : Int) + 1),(g2,(nn : Int)),(g1,1)]):=Hd (HO4.out.upd [(gF,(F : Int))] hb ht)
 clear hb ht HO4
 obtain ⟨⟨⟨k0,k1,k2⟩,k3,k4,k5⟩,_⟩:=HK.out _ HO5.out.1
 go_wp2_with fail
 refine (bneg_any g3 g3 ((F : Int) + 1) ((F : Int) + 1) w5 (HO5.out.bi (by simp)) (HO5.out.bi (by simp))).mono ?_
 rintro e w6 ⟨rfl,hb,ht⟩
 have HO6 : Hid (Own W w6 [(gF,(F : Int)),(g3,-((F : Int) + 1)),(g2,(nn : Int)),(g1,1)]):=Hd (HO5.out.upd [(gF,(F : Int))] hb ht)
 clear hb ht HO5 k0 k1 k2 k3 k4 k5
 go_wp2_with fail
 refine (bneg_any gF gF (F : Int) (F : Int) w6 (HO6.out.bi (by simp)) (HO6.out.bi (by simp))).mono ?_
 rintro e w7 ⟨rfl,hb,ht⟩
 have HO7 : Hid (Own W w7 [(gF,-(F : Int)),(g3,-((F : Int) + 1)),(g2,(nn : Int)),(g1,1)]):=Hd (HO6.out.upd [] hb ht)
 clear hb ht HO6
 go_wp2_with fail
 refine (HD1.out _ g3 (HO7.out.bi (by simp)) (HB.out.trans (HO7.out.1.mono (by have:=HWS.out; omega)))).mono ?_
 rintro e w8 ⟨A,n,c,rfl,hu,hb⟩
 have HU1:=Hd hu
 have HO8:=Hd (HO7.out.below hb)
 clear hu hb
 go_wp2_with fail
 refine (HD2.out _ gF (HO8.out.bi (by simp)) (HB.out.trans (HO8.out.1.mono (by have:=HWS.out; omega)))).mono ?_
 rintro e w9 ⟨A',n',c',rfl,hu,hb⟩
 have HU2:=Hd hu
 have HU3:=Hd (HU1.out.below hb)
 have HO9:=Hd (HO8.out.below hb)
 have hgc:=(HK.out _ HO9.out.1).2
 have HST:=Hd (gap_store hgc (.bool s1) (.slice A n c) (.int .i64 y1) (.bool s2) (.slice A' n' c') (.int .i64 y2))
 obtain ⟨⟨⟨r0,r1,r2⟩,r3,r4,r5⟩,q0,q1,q2,q3,q4,q5⟩:=hgc
 have hz : w.heap.size + 1 < w9.heap.size:=by have:=HO9.out.1.size; have:=HWS.out; omega
 clear hu hb HU1 HO8
 go_wp2_with fail
 have hs:=HST.out
 unfold put6 at hs
 have HS:=Hd hs
 clear hs HST
 generalize (((((w9.setCell ⟨w.heap.size + 1,0,none⟩ (.bool s1)).setCell ⟨w.heap.size + 1,1,none⟩ (.slice A n c)).setCell ⟨w.heap.size + 1,2,none⟩ (.int .i64 y1)).setCell ⟨w.heap.size + 1,3,none⟩ (.bool s2)).setCell ⟨w.heap.size + 1,4,none⟩ (.slice A' n' c')).setCell ⟨w.heap.size + 1,5,none⟩ (.int .i64 y2) = W9 at *
 refine bodyPost_ret (v:=.agg #[.bool s1,.slice A n c,.int .i64 y1,.bool s2,.slice A' n' c',.int .i64 y2]) (by simp [results,Tryz.results216,go_sem,HS.out.2.2.1,HS.out.2.2.2.1,HS.out.2.2.2.2.1,HS.out.2.2.2.2.2.1,HS.out.2.2.2.2.2.2.1,HS.out.2.2.2.2.2.2.2]) rfl ⟨A,n,c,A',n',c',rfl,⟨HS.out.1 _ _ _ _ HU3.out.1,HU3.out.2⟩,⟨HS.out.1 _ _ _ _ HU2.out.1,HU2.out.2⟩,HS.out.2.1 _ _ (by omega) (HB.out.trans (HO9.out.1.mono (by have:=HWS.out; omega)))⟩
set_option maxRecDepth 100000 in
set_option maxHeartbeats 4000000 in
theorem gap_whole_pos (sine : Bool) (nn step of : Nat) (s1 : Bool) (N1 : Nat) (y1 : Int) (s2 : Bool) (N2 : Nat) (y2 : Int) (w : World) (hT : TabAt 2 Lib.deBruijn64tab w) (hT2 : 2 < w.heap.size) (hn : nn <= 1) (h1 : DZ (nn : Int) 0 s1 N1 y1) (h2 : DZ (nn : Int) 0 s2 N2 y2) :
  Calls Tryz.prog 216 #[valV ⟨false,true,sine,nn,step,of⟩,.int .i64 100] w (GPost s1 N1 y1 s2 N2 y2 w):=by
 have hb1:=(Below.refl w.heap.size w).alloc (Nat.le_refl _) (.cells #[.bool false,.bool true,.bool sine,.int .i64 nn,.int .i64 step,.int .i64 of] 235)
 have hb:=hb1.alloc hb1.size (.cells #[.bool false,.slice none 0 0,.int .i64 0,.bool false,.slice none 0 0,.int .i64 0] 180)
 obtain ⟨W,hW⟩ : ∃ W,W = (w.alloc (.cells #[.bool false,.bool true,.bool sine,.int .i64 nn,.int .i64 step,.int .i64 of] 235)).alloc (.cells #[.bool false,.slice none 0 0,.int .i64 0,.bool false,.slice none 0 0,.int .i64 0] 180):=⟨_,rfl⟩
 have hWs : W.heap.size = w.heap.size + 1 + 1:=by rw [hW]; simp
 have k : ((W.cell? ⟨w.heap.size,0,none⟩ = some (.bool false) /\ W.cell? ⟨w.heap.size,1,none⟩ = some (.bool true) /\ W.cell? ⟨w.heap.size,2,none⟩ = some (.bool sine)) /\ (W.cell? ⟨w.heap.size,3,none⟩ = some (.int .i64 nn) /\ W.cell? ⟨w.heap.size,4,none⟩ = some (.int .i64 step) /\ W.cell? ⟨w.heap.size,5,none⟩ = some (.int .i64 of))) /\ GC (w.heap.size + 1) W:=by
  rw [hW]; unfold GC
  refine ⟨⟨⟨by simp,by simp,by simp⟩,by simp,by simp,by simp⟩,⟨⟨by simp,by simp,by simp⟩,by simp,by simp,by simp⟩,by simp,by simp,by simp,by simp,by simp,by simp⟩
 rw [<- hW] at hb
 have HB:=Hd hb
 have HWS:=Hd hWs
 have HK : Hid (∀ u,Below W.heap.size W u -> ((u.cell? ⟨w.heap.size,0,none⟩ = some (.bool false) /\ u.cell? ⟨w.heap.size,1,none⟩ = some (.bool true) /\ u.cell? ⟨w.heap.size,2,none⟩ = some (.bool sine)) /\ (u.cell? ⟨w.heap.size,3,none⟩ = some (.int .i64 nn) /\ u.cell? ⟨w.heap.size,4,none⟩ = some (.int .i64 step) /\ u.cell? ⟨w.heap.size,5,none⟩ = some (.int .i64 of))) /\ GC (w.heap.size + 1) u):=Hd (fun u hu=>by
  have a:=fun j=>hu.cell (p:=⟨w.heap.size,j,none⟩) (by show w.heap.size < W.heap.size; omega)
  have b:=fun j=>hu.cell (p:=⟨w.heap.size + 1,j,none⟩) (by show w.heap.size + 1 < W.heap.size; omega)
  have f:=fun j=>hu.frozen (p:=⟨w.heap.size + 1,j,none⟩) (by show w.heap.size + 1 < W.heap.size; omega)
  unfold GC at k ⊢
  simp only [a,b,f]
  exact k)
 have HT : Hid (∀ u,Below w.heap.size w u -> TabAt 2 Lib.deBruijn64tab u /\ 2 < u.heap.size):=Hd (fun u hu=>⟨hT.below hu hT2,Nat.lt_of_lt_of_le hT2 hu.size⟩)
 have HD1:=Hd (fun u g (hg : BI u g (nn : Int)) (hu : Below w.heap.size w u)=>dyad_any g (nn : Int) 0 s1 N1 y1 u hg (HT.out u hu).1 (HT.out u hu).2 (by decide) (by decide) h1)
 have HD2:=Hd (fun u g (hg : BI u g (nn : Int)) (hu : Below w.heap.size w u)=>dyad_any g (nn : Int) 0 s2 N2 y2 u hg (HT.out u hu).1 (HT.out u hu).2 (by decide) (by decide) h2)
 clear h1 h2 hT hT2 hb hb1 k
 unfold valV
 go_enter Tryz.func216,Tryz.ntmps216
 go_wp2_with fail
 rw [<- hW]
 clear hW hWs
 refine (bnew_any 1 _ (by decide) (by decide)).mono ?_
 rintro e w1 ⟨g1,rfl,hb,hg,hw⟩
 have HO1:=Hd ((Own.nil (Below.refl W.heap.size W)).add hb hg hw)
 clear hb hg hw
 have HN:=Hd (fun u=>bnew_any (nn : Int) u (by omega) (by omega))
 have HKS:=Hd (fun u (h : Below w1.heap.size w1 u)=>(show u.cell? ⟨w.heap.size,3,none⟩ = some (.int .i64 nn) /\ Hid (Below w1.heap.size w1 u) from ⟨(HK.out u (HO1.out.1.trans (h.mono HO1.out.1.size))).1.2.1,Hd h⟩))
 go_wp2_with fail
 go_region_held3 (fun u=>u.cell? ⟨w.heap.size,3,none⟩ = some (.int .i64 nn) /\ Hid (Below w1.heap.size w1 u)) ((first | exact HKS.out _ (below_drew (Below.refl _ _)) | exact HKS.out _ HB2.out | exact HKS.out _ HB3.out)) (first
  | (go_at_call 218; refine (HN.out _).mono ?_; rintro e w3 ⟨g3,rfl,hb,hg,hw⟩; have HB3:=Hd (HB2.out.trans (hw.mono HB2.out.size)); have HO3:=Hd (HO2.out.add hb hg hw); clear hb hg hw)
  | (go_at_call 218; refine (HN.out _).mono ?_; rintro e w2 ⟨g2,rfl,hb,hg,hw⟩; have HB2:=Hd ((below_drew (Below.refl w1.heap.size w1)).trans hw); have HO2:=Hd ((HO1.out.below (below_drew (Below.refl w1.heap.size w1))).add hb hg hw); clear hb hg hw))
 clear HB2 HB3 HO1 HO2 HKS HN
 obtain ⟨⟨⟨k0,k1,k2⟩,k3,k4,k5⟩,_⟩:=HK.out _ HO3.out.1
 go_wp2_with fail
 refine (HD1.out _ g2 (HO3.out.bi (by simp)) (HB.out.trans (HO3.out.1.mono (by have:=HWS.out; omega)))).mono ?_
 rintro e w8 ⟨A,n,c,rfl,hu,hb⟩
 have HU1:=Hd hu
 have HO8:=Hd (HO3.out.below hb)
 clear hu hb
 go_wp2_with fail
 refine (HD2.out _ g3 (HO8.out.bi (by simp)) (HB.out.trans (HO8.out.1.mono (by have:=HWS.out; omega)))).mono ?_
 rintro e w9 ⟨A',n',c',rfl,hu,hb⟩
 have HU2:=Hd hu
 have HU3:=Hd (HU1.out.below hb)
 have HO9:=Hd (HO8.out.below hb)
 have hgc:=(HK.out _ HO9.out.1).2
 have HST:=Hd (gap_store hgc (.bool s1) (.slice A n c) (.int .i64 y1) (.bool s2) (.slice A' n' c') (.int .i64 y2))
 obtain ⟨⟨⟨r0,r1,r2⟩,r3,r4,r5⟩,q0,q1,q2,q3,q4,q5⟩:=hgc
 have hz : w.heap.size + 1 < w9.heap.size:=by have:=HO9.out.1.size; have:=HWS.out; omega
 clear hu hb HU1 HO8
 go_wp2_with fail
 have hs:=HST.out
 unfold put6 at hs
 have HS:=Hd hs
 clear hs HST
 generalize (((((w9.setCell ⟨w.heap.size + 1,0,none⟩ (.bool s1)).setCell ⟨w.heap.size + 1,1,none⟩ (.slice A n c)).setCell ⟨w.heap.size + 1,2,none⟩ (.int .i64 y1)).setCell ⟨w.heap.size + 1,3,none⟩ (.bool s2)).setCell ⟨w.heap.size + 1,4,none⟩ (.slice A' n' c')).setCell ⟨w.heap.size + 1,5,none⟩ (.int .i64 y2) = W9 at *
 refine bodyPost_ret (v:=.agg #[.bool s1,.slice A n c,.int .i64 y1,.bool s2,.slice A' n' c',.int .i64 y2]) (by simp [results,Tryz.results216,go_sem,HS.out.2.2.1,HS.out.2.2.2.1,HS.out.2.2.2.2.1,HS.out.2.2.2.2.2.1,HS.out.2.2.2.2.2.2.1,HS.out.2.2.2.2.2.2.2]) rfl ⟨A,n,c,A',n',c',rfl,⟨HS.out.1 _ _ _ _ HU3.out.1,HU3.out.2⟩,⟨HS.out.1 _ _ _ _ HU2.out.1,HU2.out.2⟩,HS.out.2.1 _ _ (by omega) (HB.out.trans (HO9.out.1.mono (by have:=HWS.out; omega)))⟩
set_option maxRecDepth 100000 in
set_option maxHeartbeats 4000000 in
theorem gap_whole_neg (sine : Bool) (nn step of : Nat) (s1 : Bool) (N1 : Nat) (y1 : Int) (s2 : Bool) (N2 : Nat) (y2 : Int) (w : World) (hT : TabAt 2 Lib.deBruijn64tab w) (hT2 : 2 < w.heap.size) (hn : nn <= 1) (h1 : DZ (-(nn : Int)) 0 s1 N1 y1) (h2 : DZ (-(nn : Int)) 0 s2 N2 y2) :
  Calls Tryz.prog 216 #[valV ⟨true,true,sine,nn,step,of⟩,.int .i64 100] w (GPost s1 N1 y1 s2 N2 y2 w):=by
 have hb1:=(Below.refl w.heap.size w).alloc (Nat.le_refl _) (.cells #[.bool true,.bool true,.bool sine,.int .i64 nn,.int .i64 step,.int .i64 of] 235)
 have hb:=hb1.alloc hb1.size (.cells #[.bool false,.slice none 0 0,.int .i64 0,.bool false,.slice none 0 0,.int .i64 0] 180)
 obtain ⟨W,hW⟩ : ∃ W,W = (w.alloc (.cells #[.bool true,.bool true,.bool sine,.int .i64 nn,.int .i64 step,.int .i64 of] 235)).alloc (.cells #[.bool false,.slice none 0 0,.int .i64 0,.bool false,.slice none 0 0,.int .i64 0] 180):=⟨_,rfl⟩
 have hWs : W.heap.size = w.heap.size + 1 + 1:=by rw [hW]; simp
 have k : ((W.cell? ⟨w.heap.size,0,none⟩ = some (.bool true) /\ W.cell? ⟨w.heap.size,1,none⟩ = some (.bool true) /\ W.cell? ⟨w.heap.size,2,none⟩ = some (.bool sine)) /\ (W.cell? ⟨w.heap.size,3,none⟩ = some (.int .i64 nn) /\ W.cell? ⟨w.heap.size,4,none⟩ = some (.int .i64 step) /\ W.cell? ⟨w.heap.size,5,none⟩ = some (.int .i64 of))) /\ GC (w.heap.size + 1) W:=by
  rw [hW]; unfold GC
  refine ⟨⟨⟨by simp,by simp,by simp⟩,by simp,by simp,by simp⟩,⟨⟨by simp,by simp,by simp⟩,by simp,by simp,by simp⟩,by simp,by simp,by simp,by simp,by simp,by simp⟩
 rw [<- hW] at hb
 have HB:=Hd hb
 have HWS:=Hd hWs
 have HK : Hid (∀ u,Below W.heap.size W u -> ((u.cell? ⟨w.heap.size,0,none⟩ = some (.bool true) /\ u.cell? ⟨w.heap.size,1,none⟩ = some (.bool true) /\ u.cell? ⟨w.heap.size,2,none⟩ = some (.bool sine)) /\ (u.cell? ⟨w.heap.size,3,none⟩ = some (.int .i64 nn) /\ u.cell? ⟨w.heap.size,4,none⟩ = some (.int .i64 step) /\ u.cell? ⟨w.heap.size,5,none⟩ = some (.int .i64 of))) /\ GC (w.heap.size + 1) u):=Hd (fun u hu=>by
  have a:=fun j=>hu.cell (p:=⟨w.heap.size,j,none⟩) (by show w.heap.size < W.heap.size; omega)
  have b:=fun j=>hu.cell (p:=⟨w.heap.size + 1,j,none⟩) (by show w.heap.size + 1 < W.heap.size; omega)
  have f:=fun j=>hu.frozen (p:=⟨w.heap.size + 1,j,none⟩) (by show w.heap.size + 1 < W.heap.size; omega)
  unfold GC at k ⊢
  simp only [a,b,f]
  exact k)
 have HT : Hid (∀ u,Below w.heap.size w u -> TabAt 2 Lib.deBruijn64tab u /\ 2 < u.heap.size):=Hd (fun u hu=>⟨hT.below hu hT2,Nat.lt_of_lt_of_le hT2 hu.size⟩)
 have HD1:=Hd (fun u g (hg : BI u g (-(nn : Int))) (hu : Below w.heap.size w u)=>dyad_any g (-(nn : Int)) 0 s1 N1 y1 u hg (HT.out u hu).1 (HT.out u hu).2 (by decide) (by decide) h1)
 have HD2:=Hd (fun u g (hg : BI u g (-(nn : Int))) (hu : Below w.heap.size w u)=>dyad_any g (-(nn : Int)) 0 s2 N2 y2 u hg (HT.out u hu).1 (HT.out u hu).2 (by decide) (by decide) h2)
 clear h1 h2 hT hT2 hb hb1 k
 unfold valV
 go_enter Tryz.func216,Tryz.ntmps216
 go_wp2_with fail
 rw [<- hW]
 clear hW hWs
 refine (bnew_any 1 _ (by decide) (by decide)).mono ?_
 rintro e w1 ⟨g1,rfl,hb,hg,hw⟩
 have HO1:=Hd ((Own.nil (Below.refl W.heap.size W)).add hb hg hw)
 clear hb hg hw
 have HN:=Hd (fun u=>bnew_any (nn : Int) u (by omega) (by omega))
 have HKS:=Hd (fun u (h : Below w1.heap.size w1 u)=>(show u.cell? ⟨w.heap.size,3,none⟩ = some (.int .i64 nn) /\ Hid (Below w1.heap.size w1 u) from ⟨(HK.out u (HO1.out.1.trans (h.mono HO1.out.1.size))).1.2.1,Hd h⟩))
 go_wp2_with fail
 go_region_held3 (fun u=>u.cell? ⟨w.heap.size,3,none⟩ = some (.int .i64 nn) /\ Hid (Below w1.heap.size w1 u)) ((first | exact HKS.out _ (below_drew (Below.refl _ _)) | exact HKS.out _ HB2.out | exact HKS.out _ HB3.out)) (first
  | (go_at_call 218; refine (HN.out _).mono ?_; rintro e w3 ⟨g3,rfl,hb,hg,hw⟩; have HB3:=Hd (HB2.out.trans (hw.mono HB2.out.size)); have HO3:=Hd (HO2.out.add hb hg hw); clear hb hg hw)
  | (go_at_call 218; refine (HN.out _).mono ?_; rintro e w2 ⟨g2,rfl,hb,hg,hw⟩; have HB2:=Hd ((below_drew (Below.refl w1.heap.size w1)).trans hw); have HO2:=Hd ((HO1.out.below (below_drew (Below.refl w1.heap.size w1))).add hb hg hw); clear hb hg hw))
 clear HB2 HB3 HO1 HO2 HKS HN
 obtain ⟨⟨⟨k0,k1,k2⟩,k3,k4,k5⟩,_⟩:=HK.out _ HO3.out.1
 go_wp2_with fail
 refine (bneg_any g3 g3 (nn : Int) (nn : Int) w3 (HO3.out.bi (by simp)) (HO3.out.bi (by simp))).mono ?_
 rintro e w6 ⟨rfl,hb,ht⟩
 have HO6 : Hid (Own W w6 [(g3,-(nn : Int)),(g2,(nn : Int)),(g1,1)]):=Hd (HO3.out.upd [] hb ht)
 clear hb ht HO3 k0 k1 k2 k3 k4 k5
 go_wp2_with fail
 refine (bneg_any g2 g2 (nn : Int) (nn : Int) w6 (HO6.out.bi (by simp)) (HO6.out.bi (by simp))).mono ?_
 rintro e w7 ⟨rfl,hb,ht⟩
 have HO7 : Hid (Own W w7 [(g3,-(nn : Int)),(g2,-(nn : Int)),(g1,1)]):=Hd (HO6.out.upd [(g3,-(nn : Int))] hb ht)
 clear hb ht HO6
 go_wp2_with fail
 refine (HD1.out _ g3 (HO7.out.bi (by simp)) (HB.out.trans (HO7.out.1.mono (by have:=HWS.out; omega)))).mono ?_
 rintro e w8 ⟨A,n,c,rfl,hu,hb⟩
 have HU1:=Hd hu
 have HO8:=Hd (HO7.out.below hb)
 clear hu hb
 go_wp2_with fail
 refine (HD2.out _ g2 (HO8.out.bi (by simp)) (HB.out.trans (HO8.out.1.mono (by have:=HWS.out; omega)))).mono ?_
 rintro e w9 ⟨A',n',c',rfl,hu,hb⟩
 have HU2:=Hd hu
 have HU3:=Hd (HU1.out.below hb)
 have HO9:=Hd (HO8.out.below hb)
 have hgc:=(HK.out _ HO9.out.1).2
 have HST:=Hd (gap_store hgc (.bool s1) (.slice A n c) (.int .i64 y1) (.bool s2) (.slice A' n' c') (.int .i64 y2))
 obtain ⟨⟨⟨r0,r1,r2⟩,r3,r4,r5⟩,q0,q1,q2,q3,q4,q5⟩:=hgc
 have hz : w.heap.size + 1 < w9.heap.size:=by have:=HO9.out.1.size; have:=HWS.out; omega
 clear hu hb HU1 HO8
 go_wp2_with fail
 have hs:=HST.out
 unfold put6 at hs
 have HS:=Hd hs
 clear hs HST
 generalize (((((w9.setCell ⟨w.heap.size + 1,0,none⟩ (.bool s1)).setCell ⟨w.heap.size + 1,1,none⟩ (.slice A n c)).setCell ⟨w.heap.size + 1,2,none⟩ (.int .i64 y1)).setCell ⟨w.heap.size + 1,3,none⟩ (.bool s2)).setCell ⟨w.heap.size + 1,4,none⟩ (.slice A' n' c')).setCell ⟨w.heap.size + 1,5,none⟩ (.int .i64 y2) = W9 at *
 refine bodyPost_ret (v:=.agg #[.bool s1,.slice A n c,.int .i64 y1,.bool s2,.slice A' n' c',.int .i64 y2]) (by simp [results,Tryz.results216,go_sem,HS.out.2.2.1,HS.out.2.2.2.1,HS.out.2.2.2.2.1,HS.out.2.2.2.2.2.1,HS.out.2.2.2.2.2.2.1,HS.out.2.2.2.2.2.2.2]) rfl ⟨A,n,c,A',n',c',rfl,⟨HS.out.1 _ _ _ _ HU3.out.1,HU3.out.2⟩,⟨HS.out.1 _ _ _ _ HU2.out.1,HU2.out.2⟩,HS.out.2.1 _ _ (by omega) (HB.out.trans (HO9.out.1.mono (by have:=HWS.out; omega)))⟩
end
end Go.Proofs.YtnpanpkahbcecaaGreatDoor

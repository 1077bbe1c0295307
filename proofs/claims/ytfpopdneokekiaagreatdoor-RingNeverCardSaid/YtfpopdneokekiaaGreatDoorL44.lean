/-
The card of RingNever: for every input the call answers true, and every argument reads behind it as before. Conditions: the three tables that the transforms read hold what the program lays into them (tied by the card).
-/
import Derived.Test.YtfpopdneokekiaaGreatDoorL43
import Derived.Test.YtfpopdneokekiaaGreatDoorCards
import Derived.Test.YtfpopdneokekiaaGreatDoorTie
import Derived.WalkKit
import Derived.ProofKit
import Derived.OpenShut
import Derived.Laws.Cover2
import Derived.Deep.DeepHandedRow
import Derived.Lib.LaidTab
import Derived.Lib.Hide
set_option linter.unusedVariables false
set_option linter.unusedSimpArgs false
namespace Go.Proofs.YtfpopdneokekiaaGreatDoor
section
open Go.RowKit Fl
theorem bd_set {l : List Int} {x : Int} (h : Bd (16384 : Nat) l) (hx : -16384 <= x /\ x <= 16384) (i : Nat) : Bd (16384 : Nat) (l.set i x):=fun y hy=>by
 rcases List.mem_or_eq_of_mem_set hy with h1 | h1
 ·exact h y h1
 ·omega
theorem sum_abs {n M : Nat} {f : Nat -> Int} (h : ∀ i < n,(f i).natAbs <= M) : (sumI n f).natAbs <= n * M:=by
 induction n with
 | zero=>simp [sumI]
 | succ n ih =>
   have h1:=ih (fun i hi=>h i (by omega))
   have h2:=h n (by omega)
   simp only [sumI]
   rw [Nat.succ_mul]
   omega
theorem x_bd {s : Int} (h : 0 <= s /\ s < 18446744073709551616) : -16384 <= wrap64 ((wrap64 (s / 1099511627776)).tmod 32769 - 16384) /\ wrap64 ((wrap64 (s / 1099511627776)).tmod 32769 - 16384) <= 16384:=by
 have e : wrap64 (s / 1099511627776) = s / 1099511627776:=by unfold wrap64; omega
 have h0 : 0 <= s / 1099511627776:=by omega
 rw [e,Int.tmod_eq_emod_of_nonneg h0]
 unfold wrap64
 omega
theorem x_bd2 {s : Int} (h : 0 <= s /\ s < 18446744073709551616) : -16384 <= wrap64 (16384 - wrap64 (wrap64 (s / 9223372036854775808) * 32768)) /\ wrap64 (16384 - wrap64 (wrap64 (s / 9223372036854775808) * 32768)) <= 16384:=by
 have e : wrap64 (s / 9223372036854775808) = s / 9223372036854775808:=by unfold wrap64; omega
 have h0 : 0 <= s / 9223372036854775808 /\ s / 9223372036854775808 <= 1:=by omega
 rw [e]
 unfold wrap64
 omega
theorem St.swap {p q : Nat × List Int} {N : Nat} {W w : World} (S : St [p,q] N W w) : St [q,p] N W w:=by
 obtain ⟨a1,a2,a3,a4⟩:=S
 exact ⟨fun x hx=>a1 x (by simp at hx ⊢; exact hx.symm),by simp at a2 ⊢; exact fun e=>a2 e.symm,a3,a4⟩
set_option maxRecDepth 100000 in
set_option maxHeartbeats 4000000 in
theorem ringNever_walk (W : World) (q : Int) (ed : Bool) (hq : (Lit.int .u64 q).wf = true) (hR : RWd An.PI W) :
  Calls Tryz.prog 6 #[.int .u64 q,.bool ed] W fun e w'=>e = .returned (.bool true) /\ Below W.heap.size W w':=by
 obtain ⟨i0,hi0,hz0,hz1,hz2⟩:=info_parts i64_info
 have HQ : Hid (0 <= q /\ q < 18446744073709551616):=Hd (by
  simp [Lit.wf,IntKind.min,IntKind.max,IntKind.signed,IntKind.bits] at hq
  omega)
 have HRW:=Hd hR
 have HAW:=Hd (rawake_any W hR)
 clear hR hq
 go_enter Tryz.func6,Tryz.ntmps6
 go_wp2_with fail
 refine HAW.out.mono ?_
 rintro e w1 ⟨rfl,b1⟩
 have B1:=Hd b1
 have S1 : Hid (St [] 1024 W w1):=Hd ⟨fun p hp=>(by cases hp),List.nodup_nil,HRW.out,b1⟩
 clear b1 HAW
 have hmk : ∀ u : World,(Instr.makeSlice 22 (.int .i64 1024) (.int .i64 1024)).run Tryz.prog u = .ok (.slice (some ⟨u.heap.size,0,none⟩) 1024 1024) (u.alloc (.cells (madeCells #[.int .i64 0] 1024) 2)):=fun u=>run_makeL u 1024 (by decide)
 have h1:=LRow.alloc w1 w1.heap.size 1024 (Nat.le_refl _) (by simp only [maxLen]; omega)
 have hb1:=(Below.refl w1.heap.size w1).alloc (Nat.le_refl _) (.cells (madeCells #[.int .i64 0] 1024) 2)
 have s1:=S1.out.new h1 hb1
 obtain ⟨u1,hu1⟩ : ∃ u1,u1 = w1.alloc (.cells (madeCells #[.int .i64 0] 1024) 2):=⟨_,rfl⟩
 rw [<- hu1] at s1
 have h2:=LRow.alloc u1 u1.heap.size 1024 (Nat.le_refl _) (by simp only [maxLen]; omega)
 have hb2:=(Below.refl u1.heap.size u1).alloc (Nat.le_refl _) (.cells (madeCells #[.int .i64 0] 1024) 2)
 have s2:=s1.new h2 hb2
 have e1 : u1.heap.size = w1.heap.size + 1:=by rw [hu1]; simp
 rw [e1] at s2
 rw [hu1] at s2
 have SA : Hid (St [(w1.heap.size + 1,List.replicate 1024 0),(w1.heap.size,List.replicate 1024 0)] 1024 W ((w1.alloc (.cells (madeCells #[.int .i64 0] 1024) 2)).alloc (.cells (madeCells #[.int .i64 0] 1024) 2)).drew):=Hd (s2.step (below_drew (Below.refl _ _)))
 have HZB : Hid (Bd (16384 : Nat) (List.replicate 1024 0)):=Hd (fun x hx=>by have:=(List.mem_replicate.1 hx).2; omega)
 clear h1 hb1 s1 hu1 h2 hb2 s2 e1 B1 S1
 go_wp2_with fail
 go_region
 obtain ⟨w2,hw2⟩ : ∃ w2,w2 = ((w1.alloc (.cells (madeCells #[.int .i64 0] 1024) 2)).alloc (.cells (madeCells #[.int .i64 0] 1024) 2)).drew:=⟨_,rfl⟩
 rw [<- hw2]
 rw [<- hw2] at SA
 obtain ⟨gb,hgb⟩ : ∃ gb,gb = w1.heap.size + 1:=⟨_,rfl⟩
 obtain ⟨ga,hga⟩ : ∃ ga,ga = w1.heap.size:=⟨_,rfl⟩
 rw [<- hgb,<- hga]
 rw [<- hgb,<- hga] at SA
 clear hga hgb hw2 hmk
 rotate_left
 obtain ⟨w2,hw2⟩ : ∃ w2,w2 = ((w1.alloc (.cells (madeCells #[.int .i64 0] 1024) 2)).alloc (.cells (madeCells #[.int .i64 0] 1024) 2)).drew:=⟨_,rfl⟩
 rw [<- hw2]
 rw [<- hw2] at SA
 obtain ⟨ga,hga⟩ : ∃ ga,ga = w1.heap.size + 1:=⟨_,rfl⟩
 obtain ⟨gb,hgb⟩ : ∃ gb,gb = w1.heap.size:=⟨_,rfl⟩
 rw [<- hga,<- hgb]
 rw [<- hga,<- hgb] at SA
 replace SA:=Hd SA.out.swap
 clear hga hgb hw2 hmk
 all_goals
  go_wp2_with fail
  go_loopw [8,7] (fun iv sv wr=>∃ (i : Nat) (s : Int) (o r : List Int),iv = .int .i64 i /\ sv = .int .u64 s /\ i <= 1024 /\ Hid (0 <= s /\ s < 18446744073709551616) /\ Hid (Bd (16384 : Nat) o) /\ Hid (Bd (16384 : Nat) r) /\ Hid (St [(gb,r),(ga,o)] 1024 W wr)) (fun iv _ _=>1024 - (intOf iv).toNat)
  case atStart =>
   exact ⟨0,_,_,_,rfl,rfl,by omega,HQ,HZB,HZB,SA⟩
  case round =>
   clear SA HZB
   obtain ⟨i,s,o,r,rfl,rfl,hi,HS,HO,HRR,S3⟩:=hrel
   by_cases hlt : i < 1024
   ·obtain ⟨z1,hz1⟩ : ∃ z,o[i]? = some z:=⟨_,List.getElem?_eq_getElem (by rw [LRow.len (S3.out.1 (ga,o) (List.mem_of_getElem? (i:=1) rfl))]; exact hlt)⟩
    have d1:=RowV.cell (S3.out.1 (ga,o) (List.mem_of_getElem? (i:=1) rfl)) i (.int .i64 z1) (by simp [hz1])
    have f1:=RowV.free (S3.out.1 (ga,o) (List.mem_of_getElem? (i:=1) rfl)) i
    go_upto_region 9 with fail
    obtain ⟨m1,hm1⟩ : ∃ m,m = IntKind.u64.wrap (s * 6364136223846793005):=⟨_,rfl⟩
    rw [<- hm1]
    obtain ⟨s1,hs1⟩ : ∃ m,m = IntKind.u64.wrap (m1 + 1442695040888963407):=⟨_,rfl⟩
    rw [<- hs1]
    have HS1 : Hid (0 <= s1 /\ s1 < 18446744073709551616):=Hd (by rw [hs1,IntKind.wrap_u64]; omega)
    clear hm1 hs1 HS
    go_upto_region 10 with fail
    obtain ⟨x1,hx1⟩ : ∃ x,x = wrap64 ((wrap64 (s1 / 1099511627776)).tmod 32769 - 16384):=⟨_,rfl⟩
    rw [<- hx1]
    have HX1 : Hid (-16384 <= x1 /\ x1 <= 16384):=Hd (by rw [hx1]; exact x_bd HS1.out)
    obtain ⟨w4,hw4⟩ : ∃ v,v = wr.setCell ⟨ga,i,none⟩ (.int .i64 x1):=⟨_,rfl⟩
    rw [<- hw4]
    have S4 : Hid (St [(gb,r),(ga,o.set i x1)] 1024 W w4):=Hd (by rw [hw4]; exact (S3.out.swap.set i x1).swap)
    have HO4:=Hd (bd_set HO.out HX1.out i)
    clear hx1 hw4 d1 f1 z1 hz1 S3 HO HX1
    go_upto_region 11 with fail
    obtain ⟨m2,hm2⟩ : ∃ m,m = IntKind.u64.wrap (s1 * 6364136223846793005):=⟨_,rfl⟩
    rw [<- hm2]
    obtain ⟨s2,hs2⟩ : ∃ m,m = IntKind.u64.wrap (m2 + 1442695040888963407):=⟨_,rfl⟩
    rw [<- hs2]
    have HS2 : Hid (0 <= s2 /\ s2 < 18446744073709551616):=Hd (by rw [hs2,IntKind.wrap_u64]; omega)
    clear hm2 hs2 HS1
    obtain ⟨z2,hz2⟩ : ∃ z,r[i]? = some z:=⟨_,List.getElem?_eq_getElem (by rw [LRow.len (S4.out.1 (gb,r) (List.mem_of_getElem? (i:=0) rfl))]; exact hlt)⟩
    have d2:=RowV.cell (S4.out.1 (gb,r) (List.mem_of_getElem? (i:=0) rfl)) i (.int .i64 z2) (by simp [hz2])
    have f2:=RowV.free (S4.out.1 (gb,r) (List.mem_of_getElem? (i:=0) rfl)) i
    go_upto_region 12 with fail
    obtain ⟨x2,hx2⟩ : ∃ x,x = wrap64 ((wrap64 (s2 / 1099511627776)).tmod 32769 - 16384):=⟨_,rfl⟩
    rw [<- hx2]
    have HX2 : Hid (-16384 <= x2 /\ x2 <= 16384):=Hd (by rw [hx2]; exact x_bd HS2.out)
    obtain ⟨w5,hw5⟩ : ∃ v,v = w4.setCell ⟨gb,i,none⟩ (.int .i64 x2):=⟨_,rfl⟩
    rw [<- hw5]
    have S5 : Hid (St [(gb,r.set i x2),(ga,o.set i x1)] 1024 W w5):=Hd (by rw [hw5]; exact S4.out.set i x2)
    have HR5:=Hd (bd_set HRR.out HX2.out i)
    clear hx2 hw5 d2 f2 z2 hz2 S4 HRR HX2
    cases ed with
    | false =>
      go_wp2_with fail
      exact ⟨⟨i + 1,s2,_,_,by go_num,rfl,hlt,HS2,HO4,HR5,S5⟩,by simp [intOf]; omega⟩
    | true =>
      have hne : ga ≠ gb:=fun e=>by
       have h2:=S5.out.2.1
       simp at h2
       exact h2 e.symm
      have hne' : gb ≠ ga:=fun e=>hne e.symm
      obtain ⟨z3,hz3⟩ : ∃ z,(o.set i x1)[i]? = some z:=⟨_,List.getElem?_eq_getElem (by rw [LRow.len (S5.out.1 (ga,_) (List.mem_of_getElem? (i:=1) rfl))]; exact hlt)⟩
      have d3:=RowV.cell (S5.out.1 (ga,_) (List.mem_of_getElem? (i:=1) rfl)) i (.int .i64 z3) (by rw [List.getElem?_map,hz3]; rfl)
      have f3:=RowV.free (S5.out.1 (ga,_) (List.mem_of_getElem? (i:=1) rfl)) i
      obtain ⟨z4,hz4⟩ : ∃ z,(r.set i x2)[i]? = some z:=⟨_,List.getElem?_eq_getElem (by rw [LRow.len (S5.out.1 (gb,_) (List.mem_of_getElem? (i:=0) rfl))]; exact hlt)⟩
      have d4:=RowV.cell (S5.out.1 (gb,_) (List.mem_of_getElem? (i:=0) rfl)) i (.int .i64 z4) (by rw [List.getElem?_map,hz4]; rfl)
      have f4:=RowV.free (S5.out.1 (gb,_) (List.mem_of_getElem? (i:=0) rfl)) i
      go_upto_region 7 with fail
      obtain ⟨x3,hx3⟩ : ∃ x,x = wrap64 (16384 - wrap64 (wrap64 (s2 / 9223372036854775808) * 32768)):=⟨_,rfl⟩
      rw [<- hx3]
      have HX3 : Hid (-16384 <= x3 /\ x3 <= 16384):=Hd (by rw [hx3]; exact x_bd2 HS2.out)
      obtain ⟨w6,hw6⟩ : ∃ v,v = (w5.setCell ⟨ga,i,none⟩ (.int .i64 x3)).setCell ⟨gb,i,none⟩ (.int .i64 (-16384)):=⟨_,rfl⟩
      rw [<- hw6]
      have S6 : Hid (St [(gb,(r.set i x2).set i (-16384)),(ga,(o.set i x1).set i x3)] 1024 W w6):=Hd (by rw [hw6]; exact (S5.out.swap.set i x3).swap.set i (-16384))
      have HO6:=Hd (bd_set HO4.out HX3.out i)
      have HR6:=Hd (bd_set HR5.out (x:=-16384) (by omega) i)
      clear hx3 hw6 d3 f3 d4 f4 hz3 hz4 S5 HO4 HR5 HX3
      go_wp2_with fail
      exact ⟨⟨i + 1,s2,_,_,by go_num,rfl,hlt,HS2,HO6,HR6,S6⟩,by simp [intOf]; omega⟩
   ·obtain rfl : i = 1024:=by omega
    clear HS
    have CC:=Hd (cyc_told 16384 16384 (k:=10) (K:=10) (by omega) (by omega) (by decide) (S3.out.u (g:=ga) (l:=o) (List.mem_of_getElem? (i:=1) rfl)) (S3.out.u (g:=gb) (l:=r) (List.mem_of_getElem? (i:=0) rfl)) S3.out.rwd wheels10 (by omega) (by omega) (by omega) (by omega) HO.out HRR.out never_ten)
    go_wp2_with fail
    refine CC.out.mono ?_
    rintro e w3 ⟨gc,rfl,rc,b3⟩
    have HF:=Hd (cv_total (n:=1024) o r)
    have HCV:=Hd (fun j=>cvI_sum o r 1024 j)
    have HFB:=Hd (fun j=>cv_abs (n:=1024) j (fun m=>HO.out.get m) (fun m=>HRR.out.get m))
    obtain ⟨f,hf⟩ : ∃ f,f = cvI o r 1024:=⟨_,rfl⟩
    rw [<- hf] at HF HCV HFB rc
    have S4:=Hd (S3.out.new rc b3)
    clear rc b3 S3 CC hf
    have HXA:=Hd (fun n (hn : n <= 1024)=>sum_abs (n:=n) (M:=16384) (f:=fun m=>o.getD m 0) (fun i _=>HO.out.get i))
    have HXB:=Hd (fun n (hn : n <= 1024)=>sum_abs (n:=n) (M:=16384) (f:=fun m=>r.getD m 0) (fun i _=>HRR.out.get i))
    have HXC:=Hd (fun n (hn : n <= 1024)=>sum_abs (n:=n) (M:=1024 * (16384 * 16384)) (f:=f) (fun i _=>HFB.out i))
    go_wp2_with fail
    go_loopw [14,11,12,13] (fun iv xv yv zv wr=>∃ (i : Nat) (x y z : Int),iv = .int .i64 i /\ xv = .int .i64 x /\ yv = .int .i64 y /\ zv = .int .i64 z /\ i <= 1024 /\ Hid (x = sumI i (fun m=>o.getD m 0) /\ y = sumI i (fun m=>r.getD m 0) /\ z = sumI i f) /\ Hid (St [(gc,tabL 1024 f),(gb,r),(ga,o)] 1024 W wr)) (fun iv _ _ _ _=>1024 - (intOf iv).toNat)
    case atStart=>exact ⟨0,0,0,0,rfl,rfl,rfl,rfl,by omega,Hd ⟨rfl,rfl,rfl⟩,S4⟩
    case round =>
     clear S4
     obtain ⟨i,x,y,z,rfl,rfl,rfl,rfl,hi,HXYZ,S5⟩:=hrel
     by_cases hlt : i < 1024
     ·have l1:=LRow.len (S5.out.1 (ga,o) (List.mem_of_getElem? (i:=2) rfl))
      have l2:=LRow.len (S5.out.1 (gb,r) (List.mem_of_getElem? (i:=1) rfl))
      have HSD : Hid (St [(gc,tabL 1024 f),(gb,r),(ga,o)] 1024 W wr.drew):=Hd (S5.out.step (below_drew (Below.refl _ _)))
      have d1:=RowV.cell (HSD.out.1 (ga,o) (List.mem_of_getElem? (i:=2) rfl)) i (.int .i64 (o.getD i 0)) (by simp only [List.getElem?_map,get_of l1 hlt]; rfl)
      have d2:=RowV.cell (HSD.out.1 (gb,r) (List.mem_of_getElem? (i:=1) rfl)) i (.int .i64 (r.getD i 0)) (by simp only [List.getElem?_map,get_of l2 hlt]; rfl)
      have d3:=RowV.cell (HSD.out.1 (gc,_) (List.mem_of_getElem? (i:=0) rfl)) i (.int .i64 (f i)) (by simp only [List.getElem?_map,tabL_at f hlt]; rfl)
      obtain ⟨A,hA⟩ : ∃ A,A = o.getD i 0:=⟨_,rfl⟩
      obtain ⟨B,hB⟩ : ∃ B,B = r.getD i 0:=⟨_,rfl⟩
      obtain ⟨C,hC⟩ : ∃ C,C = f i:=⟨_,rfl⟩
      rw [<- hA] at d1
      rw [<- hB] at d2
      rw [<- hC] at d3
      have HN : Hid (x + A = sumI (i + 1) (fun m=>o.getD m 0) /\ y + B = sumI (i + 1) (fun m=>r.getD m 0) /\ z + C = sumI (i + 1) f):=Hd (by
       obtain ⟨e1,e2,e3⟩:=HXYZ.out
       simp only [sumI]
       rw [e1,e2,e3,hA,hB,hC]
       exact ⟨rfl,rfl,rfl⟩)
      have hb1 : -16777216 <= x + A /\ x + A <= 16777216:=by rw [HN.out.1]; have:=HXA.out (i + 1) hlt; omega
      have hb2 : -16777216 <= y + B /\ y + B <= 16777216:=by rw [HN.out.2.1]; have:=HXB.out (i + 1) hlt; omega
      have hb3 : -281474976710656 <= z + C /\ z + C <= 281474976710656:=by rw [HN.out.2.2]; have:=HXC.out (i + 1) hlt; omega
      have u1 : IntKind.i64.wrap (x + A) = x + A:=by rw [IntKind.wrap_i64]; omega
      have u2 : IntKind.i64.wrap (y + B) = y + B:=by rw [IntKind.wrap_i64]; omega
      have u3 : IntKind.i64.wrap (z + C) = z + C:=by rw [IntKind.wrap_i64]; omega
      have v1 : wrap64 (x + A) = x + A:=by unfold wrap64; omega
      have v2 : wrap64 (y + B) = y + B:=by unfold wrap64; omega
      have v3 : wrap64 (z + C) = z + C:=by unfold wrap64; omega
      clear hA hB hC hb1 hb2 hb3 l1 l2 HXYZ
      go_wp2_with fail
      go_region
      clear d1 d2 d3 u1 u2 u3 v1 v2 v3
      go_wp2_with fail
      exact ⟨⟨i + 1,_,_,_,by go_num,rfl,rfl,rfl,hlt,HN,HSD⟩,by simp [intOf]; omega⟩
     ·obtain rfl : i = 1024:=by omega
      have HZ : Hid (z = x * y):=Hd (by
       obtain ⟨e1,e2,e3⟩:=HXYZ.out
       rw [e1,e2,e3]
       exact HF.out)
      have b3:=HXC.out 1024 (by omega)
      rw [<- HXYZ.out.2.2,HZ.out] at b3
      have u1 : IntKind.i64.wrap (x * y) = x * y:=by rw [IntKind.wrap_i64]; omega
      have u2 : wrap64 (x * y) = x * y:=by unfold wrap64; omega
      have hzz:=HZ.out
      clear HXYZ b3 HXA HXB HXC HF
      go_wp2_with fail
      clear u1 u2 hzz HZ
      go_loopw [15] (fun tv wr=>∃ t : Nat,tv = .int .i64 t /\ t <= 3 /\ Hid (St [(gc,tabL 1024 f),(gb,r),(ga,o)] 1024 W wr)) (fun tv _=>3 - (intOf tv).toNat)
      case atStart=>exact ⟨0,rfl,by omega,S5⟩
      case round =>
       clear S5
       obtain ⟨t,rfl,ht,S6⟩:=hrel
       by_cases ht3 : t < 3
       ·go_wp2_with fail
        refine (pick_any _ 1024 _ (by decide) (by decide) ?_ ?_).mono ?_
        ·first | (unfold wrap64; omega) | (rw [IntKind.wrap_i64]; omega)
        ·first | (unfold wrap64; omega) | (rw [IntKind.wrap_i64]; omega)
        rintro e w7 ⟨j,rfl,hj,rfl⟩
        have hjn : j < 1024:=by omega
        clear hj
        go_wp2_with fail
        go_loopw [18,17] (fun mv nv wr=>∃ (m : Nat) (n : Int),mv = .int .i64 m /\ nv = .int .i64 n /\ m <= 1024 /\ Hid (n = sumI m (fun q=>o.getD q 0 * r.getD ((j + 1024 - q) % 1024) 0)) /\ Hid (St [(gc,tabL 1024 f),(gb,r),(ga,o)] 1024 W wr)) (fun mv _ _=>1024 - (intOf mv).toNat)
        case atStart=>exact ⟨0,0,rfl,rfl,by omega,Hd rfl,S6⟩
        case round =>
         clear S6
         obtain ⟨m,n,rfl,rfl,hm,HN,S7⟩:=hrel
         by_cases hlt : m < 1024
         ·obtain ⟨p,hp⟩ : ∃ p,p = (j + 1024 - m) % 1024:=⟨_,rfl⟩
          have hpl : p < 1024:=by omega
          have l1:=LRow.len (S7.out.1 (ga,o) (List.mem_of_getElem? (i:=2) rfl))
          have l2:=LRow.len (S7.out.1 (gb,r) (List.mem_of_getElem? (i:=1) rfl))
          have HSD : Hid (St [(gc,tabL 1024 f),(gb,r),(ga,o)] 1024 W wr.drew):=Hd (S7.out.step (below_drew (Below.refl _ _)))
          have d1:=RowV.cell (HSD.out.1 (ga,o) (List.mem_of_getElem? (i:=2) rfl)) m (.int .i64 (o.getD m 0)) (by simp only [List.getElem?_map,get_of l1 hlt]; rfl)
          have d2:=RowV.cell (HSD.out.1 (gb,r) (List.mem_of_getElem? (i:=1) rfl)) p (.int .i64 (r.getD p 0)) (by simp only [List.getElem?_map,get_of l2 hpl]; rfl)
          have ha1:=HO.out.get m
          have hb1:=HRR.out.get p
          obtain ⟨A,hA⟩ : ∃ A,A = o.getD m 0:=⟨_,rfl⟩
          obtain ⟨B,hB⟩ : ∃ B,B = r.getD p 0:=⟨_,rfl⟩
          rw [<- hA] at d1 ha1
          rw [<- hB] at d2 hb1
          have HNN : Hid (n + A * B = sumI (m + 1) (fun q=>o.getD q 0 * r.getD ((j + 1024 - q) % 1024) 0)):=Hd (by
           simp only [sumI]
           rw [HN.out,hA,hB,hp])
          have hab : (A * B).natAbs <= 268435456:=by rw [Int.natAbs_mul]; exact Nat.mul_le_mul ha1 hb1
          have hs:=sum_abs (n:=m + 1) (M:=268435456) (f:=fun q=>o.getD q 0 * r.getD ((j + 1024 - q) % 1024) 0) (fun i _=>by rw [Int.natAbs_mul]; exact Nat.mul_le_mul (HO.out.get _) (HRR.out.get _))
          rw [<- HNN.out] at hs
          obtain ⟨X,hX⟩ : ∃ X,X = A * B:=⟨_,rfl⟩
          have u0 : IntKind.i64.wrap (A * B) = X:=by rw [IntKind.wrap_i64,hX]; omega
          have v0 : wrap64 (A * B) = X:=by unfold wrap64; rw [hX]; omega
          rw [<- hX] at HNN hs
          have u1 : IntKind.i64.wrap ((j : Int) - (m : Int)) = (j : Int) - (m : Int):=by rw [IntKind.wrap_i64]; omega
          have v1 : wrap64 ((j : Int) - (m : Int)) = (j : Int) - (m : Int):=by unfold wrap64; omega
          have u2 : IntKind.i64.wrap ((j : Int) - (m : Int) + 1024) = (j : Int) - (m : Int) + 1024:=by rw [IntKind.wrap_i64]; omega
          have v2 : wrap64 ((j : Int) - (m : Int) + 1024) = (j : Int) - (m : Int) + 1024:=by unfold wrap64; omega
          have u3 : Int.tmod ((j : Int) - (m : Int) + 1024) 1024 = (p : Int):=by rw [Int.tmod_eq_emod_of_nonneg (by omega)]; omega
          have u3' : ((j : Int) - (m : Int) + 1024) % 1024 = (p : Int):=by omega
          have u4 : IntKind.i64.wrap (n + X) = n + X:=by rw [IntKind.wrap_i64]; omega
          have v4 : wrap64 (n + X) = n + X:=by unfold wrap64; omega
          clear hX hA hB hab hs ha1 hb1 l1 l2 hp HN
          go_wp2_with fail
          go_region
          clear d1 d2 u0 v0 u1 v1 u2 v2 u3 u3' u4 v4
          go_wp2_with fail
          exact ⟨⟨m + 1,_,by go_num,rfl,hlt,HNN,HSD⟩,by simp [intOf]; omega⟩
         ·obtain rfl : m = 1024:=by omega
          have d3:=RowV.cell (S7.out.1 (gc,_) (List.mem_of_getElem? (i:=0) rfl)) j (.int .i64 (f j)) (by simp only [List.getElem?_map,tabL_at f hjn]; rfl)
          have hn : n = f j:=by rw [HN.out,HCV.out j]
          obtain ⟨F,hF⟩ : ∃ F,F = f j:=⟨_,rfl⟩
          rw [<- hF] at d3 hn
          subst hn
          clear hF HN
          go_wp2_with fail
          exact ⟨⟨t + 1,by go_num,by omega⟩,by simp [intOf]; omega⟩
       ·obtain rfl : t = 3:=by omega
        go_wp2_with fail
        go_ret
        exact ⟨rfl,S6.out.2.2.2⟩
end
section
open Go.ChangeShapes Go.WideShapes Go.ChangeAt Go.RowKit
namespace ringNever
theorem own : ownKnob Tryz.prog.godebug = none:=by kernel_rfl
set_option maxRecDepth 100000 in
theorem contract (H : Type) (enc : TypeId × Value -> H) (W : World) (base : Nat) (args : Array Value) (ds gs : List (DataW H)) (before : List MemPlace)
  (hval0 : ∀ (j : Nat) t v,Tryz.f6.params[j]? = some t -> args[j]? = some v -> Value.okWide Tryz.prog W .any base t v)
  (hW : DataW.Whole enc Tryz.prog Tryz.f6.params.toList Rows.ringNeverSpec.vars false W args.toList ds gs before)
  (hz : (DataW.weightsEach Tryz.prog (Tryz.f6.params.toList ++ (OpenSpec.ofChange Rows.ringNeverSpec).bare.plain.varTypes Tryz.prog) (ds ++ gs)).all (· <= reachBytes) = true) (hL : laidMetH Tryz.prog Rows.ringNeverRow.laid W) :
  Calls Tryz.prog 6 args W fun e W'=>∃ v,e = .returned v /\ Rows.ringNeverSpec.post enc Tryz.prog Tryz.f6 false true false false W args v W':=by
 have hval : ∀ (j : Nat) t v,Tryz.f6.params[j]? = some t -> args[j]? = some v -> Value.okWide Tryz.prog W .any base t v:=hval0
 have hW':=hW
 obtain ⟨p,q,hA0,hV,rfl,hfz,hnd⟩:=hW
 have hA : DataW.TrodAll enc Tryz.prog W 0 (fun _=>true) true Tryz.f6.params.toList args.toList ds p:=hA0
 rw [Tryz.params6] at hA hval
 have hts : (Tryz.f6.params.toList ++ (OpenSpec.ofChange Rows.ringNeverSpec).bare.plain.varTypes Tryz.prog) = [39,4]:=by kernel_rfl
 rw [hts] at hz
 obtain ⟨v0,vs0,d0,ds0,p0,q0,hargs,rfl,rfl,h0,r0⟩:=trodAll_cons hA
 obtain ⟨v1,vs1,d1,ds1,p1,q1,rfl,rfl,rfl,h1,r1⟩:=trodAll_cons r0
 obtain ⟨rfl,rfl,rfl⟩:=trodAll_nil r1
 obtain rfl : args = #[v0,v1]:=by cases args; simp_all
 obtain ⟨rfl,rfl⟩:=trodVars_none hV
 obtain ⟨a0,rfl,rfl,rfl,w0⟩:=open_int Tryz.underlying39 (hval 0 39 v0 rfl rfl) h0
 obtain ⟨a1,rfl,rfl,rfl⟩:=open_bool Tryz.underlying4 (hval 1 4 v1 rfl rfl) h1
 have hR : RWd An.PI W:=rwd_laid hL
 clear hA0 hval0 hz hL
 simp only [List.append_nil,List.nil_append] at hW'
 refine (ringNever_walk W a0 a1  w0 hR).mono fun e W' ⟨he,hg⟩=>?_
 subst he
 exact ⟨_,rfl,post_of_below (pv:=[]) hW' (fun _ _ _=>(trodAll_cons_mk (shut_bool Tryz.underlying4 _) trodAll_mk0)) (fun sp hsp=>(trodAll_cons_mk (shut_int Tryz.underlying39 w0) (trodAll_cons_mk (shut_bool Tryz.underlying4 _) trodAll_mk0))) (fun _ _=>rfl) (by simp)
  hg (ok_one (by kernel_rfl) rfl (okWide_bool_mk Tryz.underlying4 _))⟩
def lay (zs : List Nat) : Obj -> Obj
 | .cells _ t frozen=>.cells (zs.map fun (x : Nat)=>Value.int .u8 (Int.ofNat x)).toArray t frozen
 | o=>o
noncomputable def laidWorld (os : Os) : World :=
 { World.holding Tryz.prog os ⟨#[],#[],[]⟩ with heap:=(((World.holding Tryz.prog os ⟨#[],#[],[]⟩).heap.modify 1 (lay [0,1,28,2,29,14,24,3,30,22,20,15,25,17,4,8,31,27,13,23,21,19,16,7,26,12,18,6,11,5,10,9])).modify 2 (lay Lib.deBruijn64tab)).modify 3 (lay nibT) }
theorem laid_met (os : Os) : laidMet Tryz.prog Rows.ringNeverRow.laid ((laidWorld os).forCall (fun _ _=>0) ⟨#[],#[.int .u64 0,.bool false],[]⟩).memory :=
 laidMet_of_run' 8 (by kernel_rfl) (by kernel_rfl)
theorem reads (os : Os) {H : Type} (enc : TypeId × Value -> H) : ∃ places,DataW.whole enc Tryz.prog ((laidWorld os).forCall (fun _ _=>0) ⟨#[],#[.int .u64 0,.bool false],[]⟩).memory Tryz.f6.params.toList Rows.ringNeverSpec.vars false (#[.int .u64 0,.bool false] : Array Value).toList 8 = some ([.lit (.int .u64 0),.lit (.bool false)],[],places) :=
 ⟨[],by kernel_rfl⟩
set_option maxRecDepth 100000 in
theorem lifted (os : Os) (started : os.Started) (H : Type) (enc : TypeId × Value -> H) (F : Stop.Interp) :
  ReturnsInHanded {} Tryz.checked os 6 .any ((OpenSpec.ofChange Rows.ringNeverSpec).preRow enc Tryz.prog Tryz.f6 Rows.ringNeverRow.domain false Rows.ringNeverRow.laid) (((OpenSpec.ofChange Rows.ringNeverSpec).at F).post enc Tryz.prog Tryz.f6 false true false false):=by
 obtain ⟨places,hx⟩:=reads os enc
 refine returnsInHanded_of_row (C:=Tryz.checked) (s:=OpenSpec.ofChange Rows.ringNeverSpec) own started (by kernel_rfl) Tryz.func6
  (witness_row_at (enc:=enc) (C:=Tryz.checked) false (laidWorld os) #[.int .u64 0,.bool false] rfl (by kernel_rfl) (by kernel_rfl) (by kernel_rfl)
   (OpenSpec.preRow_of_cond 8 hx (by kernel_rfl) (fun k hk=>by cases hk) (by kernel_rfl) (laid_met os))) ?_
 intro W base args ds gs before hval hW _ _ hz hL _ _
 exact contract H enc W base args ds gs before hval hW hz hL
theorem said : Rows.RingNeverSaid :=
 OpenClaim.holds_of_cond 6 Tryz.f6 rfl rfl rfl rfl rfl rfl rfl ⟨rfl,rfl,rfl,rfl,rfl⟩ rfl rfl rfl rfl rfl (by kernel_rfl) Tryz.func6 (by kernel_rfl)
  (of_decide_eq_true (by kernel_rfl)) (by unfold Func.isWrapper; first | (rw [if_pos (by decide +kernel)]; kernel_rfl) | (rw [if_neg (by decide +kernel)]; exact ⟨rfl,rfl⟩))
  (fun os started H enc _ F=>by rw [OpenClaim.pre_eq_preRow]; exact lifted os started H enc F)
theorem plain (f : FuncId) (fn : Func) (hf : Tryz.pinned.checked.prog.funcNamed "rosette/rosettelaw11.RingNever" = some f) (hfn : Tryz.pinned.checked.prog.funcs[f]? = some fn) :
  false = Tryz.pinned.checked.prog.looks [] /\ ∀ (j : Nat) t,fn.params[j]? = some t -> Tryz.pinned.checked.prog.wantsStandIn t = false:=by
 obtain rfl : f = 6 := Option.some.inj ((show Tryz.prog.funcNamed "rosette/rosettelaw11.RingNever" = some 6 by kernel_rfl).symm.trans hf) |>.symm
 obtain rfl : fn = Tryz.f6:=(Option.some.inj (Tryz.func6.symm.trans hfn)).symm
 refine ⟨by kernel_rfl,fun j t ht=>?_⟩
 rw [Tryz.params6] at ht
 have hm:=Array.mem_of_getElem? ht
 have hor : t = 39 \/ t = 4:=by simpa using hm
 rcases hor with rfl | rfl
 ·exact (show Tryz.prog.wantsStandIn 39 = false by kernel_rfl)
 ·exact (show Tryz.prog.wantsStandIn 4 = false by kernel_rfl)
theorem card : Rows.RingNeverCardSaid :=
 Claim7.holds_tied_plain_at .later [] _ _ _ _ said (fun _ h=>by cases h) (by kernel_rfl) (fun _ h=>by cases h) ringNever_row_tie rfl ⟨rfl,rfl⟩ (by kernel_rfl) rfl plain (by kernel_rfl)
end ringNever
theorem ringNever_holds : Rows.RingNeverCardSaid:=ringNever.card
end
end Go.Proofs.YtfpopdneokekiaaGreatDoor

/-
The card of RingTells: for every input the call answers true, and every argument reads behind it as before. Conditions: the three tables that the transforms read hold what the program lays into them (tied by the card).
-/
import Derived.Test.YtfpopdneokekiaaGreatDoorT0
import Derived.Test.YtfpopdneokekiaaGreatDoorT34
import Derived.Test.YtfpopdneokekiaaGreatDoorT35
import Derived.Test.YtfpopdneokekiaaGreatDoorCards
import Derived.Test.YtfpopdneokekiaaGreatDoorTie
import Derived.WalkKit
import Derived.ProofKit
import Derived.OpenShut
import Derived.Laws.Cover2
import Derived.Deep.DeepHandedRow
import Derived.Lib.LaidTab
import Derived.Lib.Hide
set_option linter.unusedVariables false
set_option linter.unusedSimpArgs false
namespace Go.Proofs.YtfpopdneokekiaaGreatDoor
section
open Go.RowKit
section
variable {P : Program} {md : Region.Mode} {ops ops' : Array Oper} {Q : Exit -> Act -> World -> Prop} {S : World -> Prop}
def wpHP (P : Program) (ops : Array Oper) (Q : Exit -> Act -> World -> Prop) (S : World -> Prop) : List (Bool × Nat) -> Act -> World -> Prop
 | (true,k) :: ts,a,w=>∃ o v,ops[k]? = some o /\ YieldsIf P ops S o v a /\ wpHP P ops Q S ts (a.put o.dst v) w
 | (false,k) :: ts,a,w=>∃ o,ops[k]? = some o /\ Region.wanted o (yielded ops a.tmps) = true /\ o.wp P a w (fun a w=>S w /\ wpHP P ops Q S ts a w) Q
 | [],a,w=>Q .normal a w
def chkHP (md : Region.Mode) (ops : Array Oper) : List (Bool × Nat) -> Array Bool -> Bool
 | [],listed=>Region.ready md ops listed == []
 | (true,k) :: ts,listed=>(Region.free md ops listed k && (Region.ready md ops listed).contains k) && chkHP md ops ts (listed.setIfInBounds k true)
 | (false,k) :: ts,listed=>(Region.ready md ops listed == [k]) && chkHP md ops ts (listed.setIfInBounds k true)
theorem wpHP_sound (hQ : ∀ c d v a w,Q (.panic c) (a.put d v) w -> Q (.panic c) a w) (hsel : Region.noSelect ops = true) : ∀ (ts : List (Bool × Nat)) (listed : Array Bool) (a : Act) (w : World),
  chkHP md ops ts listed = true -> S w -> wpHP P ops Q S ts a w -> wpAnyH P md ops Q S ts.length listed a w:=by
 intro ts
 induction ts with
 | nil =>
   intro listed a w hc hS h
   have hr : Region.ready md ops listed = []:=by simpa [chkHP] using hc
   exact ⟨hr,h⟩
 | cons t ts ih =>
   obtain ⟨b,k⟩:=t
   intro listed a w hc hS h
   cases b with
   | true =>
     simp only [chkHP,Bool.and_eq_true] at hc
     obtain ⟨o,v,ho,hy,h2⟩:=h
     exact wpAnyH_take ho hsel hc.1.1 hc.1.2 (fun c a w=>hQ c _ _ a w) hy hS (ih _ _ _ hc.2 hS h2)
   | false =>
     simp only [chkHP,Bool.and_eq_true,beq_iff_eq] at hc
     obtain ⟨o,ho,h1,h2⟩:=h
     refine wpAnyH_all hc.1 (by simp) (fun i hi=>?_)
     rw [List.mem_singleton] at hi
     subst hi
     unfold wpOp
     rw [ho]
     simp only [h1,if_true]
     exact .inl (Oper.wp_mono (fun a w hK=>⟨hK.1,ih _ _ _ hc.2 hK.1 hK.2⟩) h2)
theorem wp_region_perm {id : Nat} {a : Act} {w : World} {l : List Oper} (S : World -> Prop) (ts : List (Bool × Nat)) (n : Nat) (hm : P.follows .mixedOrders = true)
  (hB : (decide (n < l.length) && decide (ts.length = n) && Region.sinkB .any l.toArray n && Region.chainB .any l.toArray n && backB l.toArray && guardB l.toArray n && Region.seqB .any l.toArray (l.drop n).length n (headAll n (l.drop n).length) && Region.noSelect (l.take n).toArray && chkHP .any (l.take n).toArray ts (Array.replicate n false)) = true)
  (hQ : ∀ c t v a w,Q (.panic c) (a.put (some t) v) w -> Q (.panic c) a w) (hS : S w.drew)
  (h : wpHP P (l.take n).toArray (QT P l.toArray (l.drop n) Q) S ts a w.drew) : (Code.region id l.toArray true).wp P Q a w:=by
 simp only [Bool.and_eq_true,decide_eq_true_eq] at hB
 obtain ⟨⟨⟨⟨⟨⟨⟨⟨hn,ht⟩,hs⟩,hc⟩,hb⟩,hg⟩,hq⟩,hsel⟩,hk⟩:=hB
 have hdl : (l.drop n).length = l.length - n:=List.length_drop
 have F : Fst l.toArray (l.take n).toArray n:=⟨by simp; omega,by simp; omega,fun j hj=>by simp [hj]⟩
 refine wp_region_any hm ?_
 have h2:=wpHP_sound (md:=.any) (QT_panic (panic_some hQ)) hsel ts (Array.replicate n false) a w.drew hk hS h
 rw [ht] at h2
 have h3:=wpAny_split F (by simp; omega) (by omega) (fun j=>by simp [List.getElem?_drop]) hs hc hb hg hq n (Array.replicate l.toArray.size false) (Array.replicate n false) a w.drew ⟨⟨by simp,fun j oj _ hl=>(by rw [getD_replicate_false] at hl; cases hl),fun t _ ht=>getD_in (by simpa using ht) (getD_replicate_false _ _)⟩,by simp,fun j _=>by rw [getD_replicate_false,getD_replicate_false]⟩ h2
 rw [show (l.drop n).length + n = l.toArray.size by simp; omega] at h3
 exact h3
theorem wpHP_take {ts : List (Bool × Nat)} {k : Nat} {o : Oper} {a : Act} {w : World} (v : Value) (ho : ops'[k]? = some o) (hw : Region.wanted o (yielded ops' a.tmps) = true) (hv : ∀ w,S w -> (execOp a.eval o).run P w = .ok (.value v) w) (h : wpHP P ops' Q S ts (a.put o.dst v) w) : wpHP P ops' Q S ((true,k) :: ts) a w :=
 ⟨o,v,ho,.inl ⟨hw,hv⟩,h⟩
theorem wpHP_nil {a : Act} {w : World} (h : Q .normal a w) : wpHP P ops' Q S [] a w:=h
end
end
section
open Go.RowKit Nt
end
section
open Go.RowKit Nt
end
section
open Go.RowKit Nt
theorem long_yes (K n : Nat) (m : Nat) (A B : Option Addr) (c c' : Nat) (w : World) (hK : K <= 14) (hn : n = 2 ^ K) (hm : m <= 1000000) :
  Calls Tryz.prog 11 #[.slice A n c,.slice B n c',.int .i64 m] w fun e w'=>e = .returned (.bool (decide (m < n))) /\ w = w':=by
 have HO:=Hd (reforder_yes K n A B c c' w hK hn)
 clear hn
 go_enter Tryz.func11,Tryz.ntmps11
 go_wp2_with fail
 by_cases h : m < n
 ·have HD : Hid (decide (m < n) = true):=Hd (decide_eq_true h)
  have h9 : decide ((m : Int) < (n : Int)) = true:=decide_eq_true (by omega)
  refine HO.out.mono ?_
  rintro e w1 ⟨rfl,rfl⟩
  go_wp2_with fail
  go_ret
  exact ⟨by first | rfl | (rw [HD.out]; rfl) | (simp only [HD.out]; rfl),rfl⟩
 ·have HD : Hid (decide (m < n) = false):=Hd (decide_eq_false h)
  have h9 : decide ((m : Int) < (n : Int)) = false:=decide_eq_false (by omega)
  refine HO.out.mono ?_
  rintro e w1 ⟨rfl,rfl⟩
  go_wp2_with fail
  go_ret
  exact ⟨by first | rfl | (rw [HD.out]; rfl) | (simp only [HD.out]; rfl),rfl⟩
theorem long_no (n n' : Nat) (m : Nat) (A B : Option Addr) (c c' : Nat) (w : World) (hn : n < 9223372036854775808) (hn' : n' < 9223372036854775808) (h : ¬ OrdOk n n') :
  Calls Tryz.prog 11 #[.slice A n c,.slice B n' c',.int .i64 m] w fun e w'=>e = .returned (.bool false) /\ w = w':=by
 have HO:=Hd (reforder_no n n' A B c c' w hn hn' h)
 clear h
 go_enter Tryz.func11,Tryz.ntmps11
 go_wp2_with fail
 refine HO.out.mono ?_
 rintro e w1 ⟨rfl,rfl⟩
 go_wp2_with fail
 go_ret
 exact ⟨rfl,rfl⟩
end
section
open Go.RowKit
set_option maxRecDepth 100000 in
set_option maxHeartbeats 4000000 in
theorem quickly_any (A B : Option Addr) (n c c' : Nat) (a b : List Int) (M N : Nat) (w : World) (hn1 : 1 <= n) (hn2 : n <= 16384) (ha : UL w A n c a) (hb : UL w B n c' b) (xa : ∀ m,(a.getD m 0).natAbs <= M) (xb : ∀ m,(b.getD m 0).natAbs <= N) (hs : n * (M * N) < 140737488355328) :
  Calls Tryz.prog 46 #[.slice A n c,.slice B n c'] w fun e w'=>∃ g,e = .returned (.slice (some ⟨g,0,none⟩) n n) /\ LRow w' w.heap.size g n ((List.range n).map (cvI a b n)) /\ Below w.heap.size w w':=by
 obtain ⟨i0,hi0,hz0,hz1,hz2⟩:=info_parts i64_info
 have HA:=Hd ha
 have HB:=Hd hb
 have HMN : Hid (M * N < 140737488355328):=Hd (Nat.lt_of_le_of_lt (Nat.le_mul_of_pos_left _ (by omega)) hs)
 have HXA:=Hd xa
 have HXB:=Hd xb
 have HPS : Hid (∀ i k,k <= n -> (allS (fun m=>a.getD m 0) (fun m=>b.getD ((i + n - m) % n) 0) k).natAbs < 140737488355328):=Hd (fun i k hk =>
  Nat.lt_of_le_of_lt (Nat.le_trans (allS_abs M N k _ _ (fun m=>xa m) (fun m=>xb _)) (Nat.mul_le_mul_right _ hk)) hs)
 obtain ⟨L,hL⟩ : ∃ L,L = (List.range n).map (cvI a b n):=⟨_,rfl⟩
 have HLM:=Hd hL
 have HLL : Hid (L.length = n):=Hd (by rw [hL]; simp)
 have HLX : Hid (∀ i < n,L[i]? = some (cvI a b n i)):=Hd (fun i hi=>by rw [hL,List.getElem?_map,List.getElem?_range hi]; rfl)
 rw [<- hL]
 clear ha hb xa xb hs hL
 go_enter Tryz.func46,Tryz.ntmps46
 go_wp2_with (refine wpList_make_full _ rfl (.tmp 9) (.tmp 9) 22 rfl w.heap.size 2 i0 _ 1 Tryz.underlying22 hi0 hz0 hz1 .i64 .i64 _ _ n rfl rfl (by omega) (by omega) (by rw [hz2]; omega) (by simp only [maxLen]; omega) (Nat.le_refl _) ?_; intro w1 hown1 hg1; have HB1:=Hd ((Below.refl w.heap.size w).grown hg1 (Nat.le_refl _) (fun k hk=>by cases hk)); have ROW:=Hd (LRow.made hown1); clear hown1 hg1)
 obtain ⟨G,hG⟩ : ∃ G,G = w.heap.size:=⟨_,rfl⟩
 have ROW2 : Hid (LRow w1 w.heap.size G n (List.replicate n 0)):=Hd (by rw [hG]; exact ROW.out)
 have hGb : w.heap.size <= G:=by omega
 rw [<- hG]
 have hGe : G = w.heap.size:=hG
 have HGE:=Hd hGe
 clear ROW hG hGe
 go_loopw [6] (fun iv wr=>∃ (i : Nat) (o : List Int),iv = .int .i64 i /\ i <= n /\ Hid (∀ m < i,o[m]? = L[m]?) /\ Hid (∀ m < n,i <= m -> o[m]? = some 0) /\ Hid (LRow wr w.heap.size G n o) /\ Hid (Below w.heap.size w wr)) (fun iv _=>n - (intOf iv).toNat)
 case atStart=>exact ⟨0,List.replicate n 0,rfl,Nat.zero_le _,Hd (fun j hj=>absurd hj (Nat.not_lt_zero _)),Hd (fun m hm _=>by simp [hm]),ROW2,HB1⟩
 case round =>
  clear ROW2 HB1
  obtain ⟨i,o,rfl,hi,HI,HZ,HR,HBW⟩:=hrel
  by_cases hlt : i < n
  ·go_wp2_with fail
   go_loopw [7] (fun kv wr=>∃ (k : Nat) (o : List Int),kv = .int .i64 k /\ k <= n /\ Hid (∀ m < i,o[m]? = L[m]?) /\ Hid (∀ m < n,i < m -> o[m]? = some 0) /\ Hid (o[i]? = some (allS (fun m=>a.getD m 0) (fun m=>b.getD ((i + n - m) % n) 0) k)) /\ Hid (LRow wr w.heap.size G n o) /\ Hid (Below w.heap.size w wr)) (fun kv _=>n - (intOf kv).toNat)
   case atStart=>exact ⟨0,o,rfl,Nat.zero_le _,HI,Hd (fun m hm h=>HZ.out m hm (by omega)),Hd (HZ.out i hlt (Nat.le_refl _)),HR,HBW⟩
   case round =>
    clear HI HZ HR HBW
    obtain ⟨k,o,rfl,hk,HI,HZ,HO,HR,HBW⟩:=hrel
    by_cases hkn : k < n
    ·have hm : (i + n - k) % n < n:=Nat.mod_lt _ (by omega)
     obtain ⟨ad,rfl,hab,d1⟩:=(HA.out.below HBW.out).2.2.2 k _ (get_of HA.out.1 hkn)
     obtain ⟨bd,rfl,hbb,d2⟩:=(HB.out.below HBW.out).2.2.2 _ _ (get_of HB.out.1 hm)
     obtain ⟨r,hr⟩ : ∃ r,r = (i + n - k) % n:=⟨_,rfl⟩
     have HL1 : Hid (allS (fun m=>a.getD m 0) (fun m=>b.getD ((i + n - m) % n) 0) (k + 1) = allS (fun m=>a.getD m 0) (fun m=>b.getD ((i + n - m) % n) 0) k + a.getD k 0 * b.getD r 0):=Hd (by rw [hr]; rfl)
     rw [<- hr] at d2 hm
     have u1 : IntKind.i64.wrap ((i : Int) - (k : Int)) = (i : Int) - (k : Int):=by rw [IntKind.wrap_i64]; omega
     have u2 : IntKind.i64.wrap ((i : Int) - (k : Int) + (n : Int)) = (i : Int) - (k : Int) + (n : Int):=by rw [IntKind.wrap_i64]; omega
     have e0 : ((i : Int) - (k : Int) + (n : Int)) = ((i + n - k : Nat) : Int):=by omega
     have u3 : Int.tmod ((i : Int) - (k : Int) + (n : Int)) (n : Int) = (r : Int):=by
      rw [e0,Int.tmod_eq_emod_of_nonneg (by omega),hr,Int.natCast_emod]
     have u3' : ((i : Int) - (k : Int) + (n : Int)) % (n : Int) = (r : Int):=by
      rw [e0,hr,Int.natCast_emod]
     have n0 : ((n : Int) == 0) = false:=by simp; omega
     have nz : ¬ n = 0:=by omega
     have b1 : (r : Int) < (n : Int):=by omega
     have hS1:=HPS.out i (k + 1) hkn
     rw [HL1.out] at hS1
     have hS0:=HPS.out i k hk
     have hP : (a.getD k 0 * b.getD r 0).natAbs < 140737488355328:=by
      rw [Int.natAbs_mul]; exact Nat.lt_of_le_of_lt (Nat.mul_le_mul (HXA.out k) (HXB.out r)) HMN.out
     obtain ⟨V,hV⟩ : ∃ V,V = allS (fun m=>a.getD m 0) (fun m=>b.getD ((i + n - m) % n) 0) k:=⟨_,rfl⟩
     obtain ⟨X,hX⟩ : ∃ X,X = a.getD k 0:=⟨_,rfl⟩
     obtain ⟨Y,hY⟩ : ∃ Y,Y = b.getD r 0:=⟨_,rfl⟩
     rw [<- hV,<- hX,<- hY] at HL1 hS1
     rw [<- hX,<- hY] at hP
     rw [<- hV] at HO
     rw [<- hX] at d1
     rw [<- hY] at d2
     have v1 : IntKind.i64.wrap (X * Y) = X * Y:=by rw [IntKind.wrap_i64]; omega
     have v2 : IntKind.i64.wrap (V + X * Y) = V + X * Y:=by rw [IntKind.wrap_i64]; omega
     have v1' : wrap64 (X * Y) = X * Y:=by unfold wrap64; omega
     have v2' : wrap64 (V + X * Y) = V + X * Y:=by unfold wrap64; omega
     have HRD : Hid (LRow wr.drew w.heap.size G n o):=Hd HR.out
     have d3:=HR.out.cell i V HO.out
     have d3':=HRD.out.cell i V HO.out
     have hfr:=HRD.out.free i
     have hol:=HR.out.len
     have HIN : Hid (∀ m < i,(o.set i (V + X * Y))[m]? = L[m]?):=Hd (fun m hm=>by rw [List.getElem?_set_ne (by omega)]; exact HI.out m hm)
     have HZN : Hid (∀ m < n,i < m -> (o.set i (V + X * Y))[m]? = some 0):=Hd (fun m hm h=>by rw [List.getElem?_set_ne (by omega)]; exact HZ.out m hm h)
     have HON : Hid ((o.set i (V + X * Y))[i]? = some (allS (fun m=>a.getD m 0) (fun m=>b.getD ((i + n - m) % n) 0) (k + 1))):=Hd (by rw [List.getElem?_set_self (by omega),HL1.out])
     have HRN:=Hd (HRD.out.set i (V + X * Y))
     have HBN:=Hd ((below_drew HBW.out).setCell (p:=⟨G,i,none⟩) hGb (.int .i64 (V + X * Y)))
     clear hr e0 hX hY hV hS1 hS0 hP hab hbb hol HO HL1
     go_wp2_with fail
     refine wp_region_perm (fun v=>v = wr.drew) [(true,0),(true,1),(true,2),(true,3),(true,4),(true,5),(true,6),(true,7),(true,8),(true,9),(true,10),(true,11),(true,12),(true,13),(true,14),(true,15),(true,16),(true,17),(true,18),(true,19),(true,20),(true,21),(true,22),(true,23),(true,24)] 25 (by kernel_rfl) (by kernel_rfl) (fun _ _ _ _ _ h=>h) ?_ ?_
     ·rfl
     simp only [List.take_succ_cons,List.take_zero]
     iterate 25
      refine wpHP_take ?_ rfl (by rfl) ?_ ?_
      rotate_left
      ·rintro v rfl; go_simp; try (first | with_reducible rfl | (rw [if_neg nz]))
      simp only [Act.put,List.setIfInBounds_toArray,List.set_cons_zero,List.set_cons_succ]
     refine wpHP_nil ?_
     simp only [QT,List.drop_succ_cons,List.drop_zero,Act.put,List.setIfInBounds_toArray,List.set_cons_zero,List.set_cons_succ]
     clear d1 d2 d3 u1 u2 u3 u3' b1 n0
     go_wp2_with fail
     exact ⟨⟨k + 1,_,by go_num,hkn,HIN,HZN,HON,HRN,HBN⟩,by simp [intOf]; omega⟩
    ·obtain rfl : n = k:=by omega
     have HLi:=Hd (HLX.out i hlt)
     have HIN : Hid (∀ m < i + 1,o[m]? = L[m]?):=Hd (fun m hm=>by
      by_cases e : m = i
      ·rw [e,HLi.out,HO.out]; rfl
      ·exact HI.out m (by omega))
     have HZN : Hid (∀ m < n,i + 1 <= m -> o[m]? = some 0):=Hd (fun m hm h=>HZ.out m hm (by omega))
     go_wp2_with fail
     exact ⟨⟨i + 1,o,by go_num,hlt,HIN,HZN,HR,HBW⟩,by simp [intOf]; omega⟩
  ·obtain rfl : n = i:=by omega
   have HOL : Hid (o = L):=Hd (by
    apply List.ext_getElem?
    intro k
    by_cases hk : k < n
    ·exact HI.out k hk
    ·rw [List.getElem?_eq_none (by rw [HR.out.len]; omega),List.getElem?_eq_none (by rw [HLL.out]; omega)])
   go_wp2_with fail
   go_ret
   exact ⟨G,rfl,by rw [<- HOL.out]; exact HR.out,HBW.out⟩
end
section
open Go.RowKit
open Fl in
theorem mulS_some {x y : Nat} (hx : Pos x) (hy : Pos y) : ∃ r,mulS x y true = some r /\ Is (mulS x y true) r:=by
 obtain ⟨r,h,_⟩:=mulS_dir x y true hx.1 hy.1
 exact ⟨r,h,by rw [h]; rfl⟩
open Fl in
theorem closed_any {K a b : Nat} (hK : K <= 14) (ha : Sz a) (hb : Sz b) : ClosedR K a b /\ RingIs K a b (bf K a b):=by
 obtain ⟨t1,t2,t3,t4,t5,t6,t7,t8,t9,t10,t11,t12⟩:=top_r
 obtain ⟨_,_,_,_,f1,f2,f3,f4,f5,f6,f7,f8⟩:=fac_at K hK
 obtain ⟨_,_,_,_,g1,g2,_,g4,g5,_⟩:=fac_at 14 (by omega)
 obtain ⟨r1,e1,i1⟩:=mulS_some (x:=rC K) (y:=rS K) ⟨f1,f2⟩ ⟨f4,f5⟩
 have s1:=step_pos ⟨f1,f2⟩ ⟨f4,f5⟩ i1 ⟨g1,g2⟩ ⟨g4,g5⟩ t1 t5 f3 f6
 obtain ⟨r2,e2,i2⟩:=mulS_some (y:=a) s1.1 ha.facts.2.2.2.1
 have s2:=step_pos s1.1 ha.facts.2.2.2.1 i2 ⟨t5,t6⟩ big_sz.facts.2.2.2.1 t2 t7 s1.2 (le_big ha)
 obtain ⟨r3,e3,i3⟩:=mulS_some (y:=b) s2.1 hb.facts.2.2.2.1
 have s3:=step_pos s2.1 hb.facts.2.2.2.1 i3 ⟨t7,t8⟩ big_sz.facts.2.2.2.1 t3 (by omega) s2.2 (le_big hb)
 obtain ⟨r4,e4⟩ : ∃ r4,addS r3 103582791429521408 true = some r4:=by
  unfold addS
  rw [if_pos ⟨s3.1.1,least_pos.1⟩]
  exact ⟨_,rfl⟩
 have c1 : cf1 K = r1:=by unfold cf1; rw [e1]; rfl
 have c2 : cf2 K a = r2:=by unfold cf2; rw [c1,e2]; rfl
 have c3 : cf3 K a b = r3:=by unfold cf3; rw [c2,e3]; rfl
 have c4 : bf K a b = r4:=by unfold bf; rw [c3,e4]; rfl
 have i4 : Is (addS r3 103582791429521408 true) r4:=by rw [e4]; rfl
 refine ⟨⟨?_,?_,?_,?_⟩,?_⟩
 ·rw [c1]; exact e1
 ·rw [c1,c2]; exact e2
 ·rw [c2,c3]; exact e3
 ·rw [c3,c4]; exact e4
 ·rw [c4]; exact ⟨r1,r2,r3,i1,i2,i3,i4⟩
def bfL (K : Nat) (a b : List Int) : Nat:=bf K (floatOfInt .f64 (mxL a)) (floatOfInt .f64 (mxL b))
def ltL (K : Nat) (a b : List Int) : Bool:=FloatKind.f64.format.order (bfL K a b) 4598175219545276416 == some Ordering.lt
theorem bound_is (K n : Nat) (A B : Option Addr) (c c' : Nat) (a b : List Int) (w : World) (hK : K <= 14) (hn : n = 2 ^ K) (ha : UL w A n c a) (hb : UL w B n c' b) (oa : okL a) (ob : okL b) (hT : TabAt 2 Lib.deBruijn64tab w) :
  Calls Tryz.prog 18 #[.slice A n c,.slice B n c'] w fun e w'=>e = .returned (.tuple #[.float .f64 (bfL K a b),.int .i64 0]) /\ Below w.heap.size w w' :=
 bound_closed K n _ _ _ A B c c' a b w hK hn ha hb oa ob hT rfl rfl (closed_any hK (mx_sz oa) (mx_sz ob)).1 rfl
theorem pow_inj {K K' : Nat} (h : 2 ^ K' = 2 ^ K) : K' = K:=by
 rcases Nat.lt_trichotomy K' K with h5 | h5 | h5
 ·have:=Nat.pow_lt_pow_right (show 1 < 2 by decide) h5; omega
 ·exact h5
 ·have:=Nat.pow_lt_pow_right (show 1 < 2 by decide) h5; omega
theorem refbound_is (K n : Nat) (A B : Option Addr) (c c' : Nat) (a b : List Int) (w : World) (hK : K <= 14) (hn : n = 2 ^ K) (ha : UL w A n c a) (hb : UL w B n c' b) (oa : okL a) (ob : okL b) (hT : TabAt 2 Lib.deBruijn64tab w) :
  Calls Tryz.prog 26 #[.slice A n c,.slice B n c'] w fun e w'=>e = .returned (.tuple #[.float .f64 (bfL K a b),.int .i64 0]) /\ Below w.heap.size w w':=by
 have h2 : 2 ^ K <= 2 ^ 14:=Nat.pow_le_pow_right (by decide) hK
 have hm:=may_ring hK (mx_sz oa) (mx_sz ob)
 refine (refbound_any A B n n c c' a b w (by omega) (by omega) ha hb).mono ?_
 rintro e w' (⟨h,_⟩ | ⟨_,h,_⟩ | ⟨_,_,K',hK',hn',_,s,T,he,hR,hb'⟩)
 ·exact absurd ⟨K,hK,hn,rfl⟩ h
 ·exact absurd ⟨oa,ob⟩ h
 ·have e1 : K' = K:=pow_inj (by rw [<- hn',hn])
  rw [e1] at hR
  obtain ⟨hC,hI⟩:=closed_any hK (mx_sz oa) (mx_sz ob)
  have hf:=(hI.fin hK (mx_sz oa) (mx_sz ob)).2.1
  obtain ⟨u1,u2,u3,i1,i2,i3,i4⟩:=hI
  have hQ : RingQ K (floatOfInt .f64 (mxL a)) (floatOfInt .f64 (mxL b)) (bfL K a b) 0:=by
   refine ⟨fun h=>absurd hm h,fun _=>⟨u3,bfL K a b,⟨u2,⟨u1,⟨rC (K : Int).toNat,rfl,?_⟩,?_⟩,?_⟩,i4,.inr ⟨fun h=>?_,rfl,rfl⟩⟩⟩
   ·rw [Int.toNat_natCast,z3_0]; exact i1
   ·rw [z3_1]; exact i2
   ·rw [z3_2]; exact i3
   ·unfold bfL at h
    rw [h] at hf
    exact Nat.lt_irrefl _ (Nat.lt_of_le_of_lt (Nat.le_add_right _ _) hf)
  have:=(ring_eq (mx_sz oa).facts.1 (mx_sz ob).facts.1 hQ hR).1
  rw [<- this] at he
  exact ⟨he,hb'⟩
def Wheels (P k : Nat) : Prop:=∀ K,K <= k -> ∃ l,Whl P K l /\ (∀ z ∈ l,z.2 < 2 * Fl.W) /\ WhlOk K l
def CycPost (n n' : Nat) (a b : List Int) (w : World) (e : Ending) (w' : World) : Prop :=
 (¬ OrdOk n n' /\ e = .returned (.tuple #[.slice none 0 0,.int .i64 4]) /\ Below w.heap.size w w') \/
 (OrdOk n n' /\ ¬ (okL a /\ okL b) /\ e = .returned (.tuple #[.slice none 0 0,.int .i64 6]) /\ Below w.heap.size w w') \/
 (okL a /\ okL b /\ ∃ K : Nat,K <= 14 /\ n = 2 ^ K /\ n' = n /\ ((ltL K a b = false /\ e = .returned (.tuple #[.slice none 0 0,.int .i64 8]) /\ Below w.heap.size w w') \/
  (ltL K a b = true /\ ∃ g,e = .returned (.tuple #[.slice (some ⟨g,0,none⟩) n n,.int .i64 0]) /\ LRow w' w.heap.size g n ((List.range n).map (cvI a b n)) /\ Below w.heap.size w w')))
theorem cyclic_full (P k : Nat) (A B : Option Addr) (n n' c c' : Nat) (a b : List Int) (w : World) (hn : n < 9223372036854775808) (ha : UL w A n c a) (hb : UL w B n' c' b) (hR : RWd P w) (hwh : Wheels P k) (hk : ∀ K,n = 2 ^ K -> K <= k) :
  Calls Tryz.prog 19 #[.slice A n c,.slice B n' c'] w (CycPost n n' a b w):=by
 by_cases ho : OrdOk n n'
 ·have HO:=ho
  obtain ⟨K,hK,hnK,hnn⟩:=ho
  subst hnn
  by_cases hok : okL a /\ okL b
  ·obtain ⟨oa,ob⟩:=hok
   have hB:=bound_is K n' A B c c' a b w hK hnK ha hb oa ob hR.aw.tab
   cases hlt : ltL K a b with
   | false=>exact (rcyclic_bound n' n' _ A B c c' w hB hlt).mono (fun e w' h=>.inr (.inr ⟨oa,ob,K,hK,hnK,rfl,.inl ⟨hlt,h.1,h.2⟩⟩))
   | true =>
     obtain ⟨l,h1,h2,h3⟩:=hwh K (hk K hnK)
     obtain ⟨hC,hE,_⟩:=told_prod hK h3 oa ob (closed_any hK (mx_sz oa) (mx_sz ob)).2 hlt
     refine (rcyclic_any K n' P _ A B c c' a b l w hK hnK hR h1 h2 ha hb oa ob hB hlt hC).mono ?_
     rintro e w' ⟨g,h4,h5,h6⟩
     rw [hE,<- hnK] at h5
     exact .inr (.inr ⟨oa,ob,K,hK,hnK,rfl,.inr ⟨hlt,g,h4,h5,h6⟩⟩)
  ·have hB : Calls Tryz.prog 18 #[.slice A n' c,.slice B n' c'] w fun e w'=>e = .returned (.tuple #[.float .f64 0,.int .i64 6]) /\ Below w.heap.size w w':=by
    refine (rbound_any A B n' n' c c' a b w hn ha hb hR.aw.tab (mxL_float a) (mxL_float b)).mono ?_
    rintro e w' (⟨h,_⟩ | ⟨_,_,h1,h2⟩ | ⟨h1,h2,_⟩)
    ·exact absurd HO h
    ·exact ⟨h1,h2⟩
    ·exact absurd ⟨h1,h2⟩ hok
   exact (rcyclic_err n' n' 0 6 A B c c' w (by decide) hB).mono (fun e w' h=>.inr (.inl ⟨HO,hok,h.1,h.2⟩))
 ·have hB : Calls Tryz.prog 18 #[.slice A n c,.slice B n' c'] w fun e w'=>e = .returned (.tuple #[.float .f64 0,.int .i64 4]) /\ Below w.heap.size w w':=by
   refine (rbound_any A B n n' c c' a b w hn ha hb hR.aw.tab (mxL_float a) (mxL_float b)).mono ?_
   rintro e w' (⟨_,h1,h2⟩ | ⟨h,_⟩ | ⟨_,_,K,h1,h2,h3,_⟩)
   ·exact ⟨h1,h2⟩
   ·exact absurd h ho
   ·exact absurd ⟨K,h1,h2,h3⟩ ho
  exact (rcyclic_err n n' 0 4 A B c c' w (by decide) hB).mono (fun e w' h=>.inl ⟨ho,h.1,h.2⟩)
theorem refcyclic_err (n n' f : Nat) (T : Int) (A B : Option Addr) (c c' : Nat) (w : World) (hT : T ≠ 0)
  (hbound : Calls Tryz.prog 26 #[.slice A n c,.slice B n' c'] w fun e w'=>e = .returned (.tuple #[.float .f64 f,.int .i64 T]) /\ Below w.heap.size w w') :
  Calls Tryz.prog 28 #[.slice A n c,.slice B n' c'] w fun e w'=>e = .returned (.tuple #[.slice none 0 0,.int .i64 T]) /\ Below w.heap.size w w':=by
 have HBD:=Hd hbound
 have h0 : (T != 0) = true:=by simpa using hT
 clear hbound
 go_enter Tryz.func28,Tryz.ntmps28
 go_wp2_with fail
 refine HBD.out.mono ?_
 rintro e w1 ⟨rfl,b1⟩
 have B1:=Hd b1
 clear b1 HBD
 go_wp2_with fail
 go_ret2
 exact ⟨rfl,B1.out⟩
theorem refcyclic_bound (n n' f : Nat) (A B : Option Addr) (c c' : Nat) (w : World)
  (hbound : Calls Tryz.prog 26 #[.slice A n c,.slice B n' c'] w fun e w'=>e = .returned (.tuple #[.float .f64 f,.int .i64 0]) /\ Below w.heap.size w w')
  (hge : (FloatKind.f64.format.order f 4598175219545276416 == some Ordering.lt) = false) :
  Calls Tryz.prog 28 #[.slice A n c,.slice B n' c'] w fun e w'=>e = .returned (.tuple #[.slice none 0 0,.int .i64 8]) /\ Below w.heap.size w w':=by
 have HBD:=Hd hbound
 clear hbound
 go_enter Tryz.func28,Tryz.ntmps28
 go_wp2_with fail
 refine HBD.out.mono ?_
 rintro e w1 ⟨rfl,b1⟩
 have B1:=Hd b1
 clear b1 HBD
 go_wp2_with fail
 go_ret2
 exact ⟨rfl,B1.out⟩
theorem refcyclic_told (n n' f : Nat) (A B : Option Addr) (c c' : Nat) (l : List Int) (w : World)
  (hbound : Calls Tryz.prog 26 #[.slice A n c,.slice B n' c'] w fun e w'=>e = .returned (.tuple #[.float .f64 f,.int .i64 0]) /\ Below w.heap.size w w')
  (hlt : (FloatKind.f64.format.order f 4598175219545276416 == some Ordering.lt) = true)
  (hq : ∀ u,Below w.heap.size w u -> Calls Tryz.prog 46 #[.slice A n c,.slice B n' c'] u fun e w'=>∃ g,e = .returned (.slice (some ⟨g,0,none⟩) n n) /\ LRow w' u.heap.size g n l /\ Below u.heap.size u w') :
  Calls Tryz.prog 28 #[.slice A n c,.slice B n' c'] w fun e w'=>∃ g,e = .returned (.tuple #[.slice (some ⟨g,0,none⟩) n n,.int .i64 0]) /\ LRow w' w.heap.size g n l /\ Below w.heap.size w w':=by
 have HBD:=Hd hbound
 have HQ:=Hd hq
 clear hbound hq
 go_enter Tryz.func28,Tryz.ntmps28
 go_wp2_with fail
 refine HBD.out.mono ?_
 rintro e w1 ⟨rfl,b1⟩
 have B1:=Hd b1
 have C1:=Hd (HQ.out w1 b1)
 clear b1 HBD HQ
 go_wp2_with fail
 refine C1.out.mono ?_
 rintro e w2 ⟨g,rfl,hr,b2⟩
 have HR : Hid (LRow w2 w.heap.size g n l):=Hd (RowV.base hr (Nat.le_trans B1.out.size (RowV.lt hr).1))
 have B2:=Hd (B1.out.trans (b2.mono B1.out.size))
 clear hr b2 C1 B1
 go_wp2_with fail
 go_ret2
 exact ⟨g,rfl,HR.out,B2.out⟩
theorem refcyclic_full (A B : Option Addr) (n n' c c' : Nat) (a b : List Int) (w : World) (hn : n < 9223372036854775808) (hn' : n' < 9223372036854775808) (ha : UL w A n c a) (hb : UL w B n' c' b) (hT : TabAt 2 Lib.deBruijn64tab w) :
  Calls Tryz.prog 28 #[.slice A n c,.slice B n' c'] w (CycPost n n' a b w):=by
 by_cases ho : OrdOk n n'
 ·have HO:=ho
  obtain ⟨K,hK,hnK,hnn⟩:=ho
  subst hnn
  by_cases hok : okL a /\ okL b
  ·obtain ⟨oa,ob⟩:=hok
   have hB:=refbound_is K n' A B c c' a b w hK hnK ha hb oa ob hT
   cases hlt : ltL K a b with
   | false=>exact (refcyclic_bound n' n' _ A B c c' w hB hlt).mono (fun e w' h=>.inr (.inr ⟨oa,ob,K,hK,hnK,rfl,.inl ⟨hlt,h.1,h.2⟩⟩))
   | true =>
     obtain ⟨a0,a1⟩:=mx_range oa
     obtain ⟨b0,b1⟩:=mx_range ob
     have prem:=prem_of hK a0 a1 b0 b1 rfl rfl (closed_any hK (mx_sz oa) (mx_sz ob)).2 hlt
     have small:=size_small oa ob prem
     have h2 : 2 ^ K <= 2 ^ 14:=Nat.pow_le_pow_right (by decide) hK
     have h1:=Nat.two_pow_pos K
     refine (refcyclic_told n' n' _ A B c c' ((List.range n').map (cvI a b n')) w hB hlt (fun u hu=>quickly_any A B n' c c' a b _ _ u (by omega) (by omega) (ha.below hu) (hb.below hu) (fun m=>get_abs oa m) (fun m=>get_abs ob m) (by rw [hnK]; exact small))).mono ?_
     rintro e w' ⟨g,h4,h5,h6⟩
     exact .inr (.inr ⟨oa,ob,K,hK,hnK,rfl,.inr ⟨hlt,g,h4,h5,h6⟩⟩)
  ·have hB : Calls Tryz.prog 26 #[.slice A n' c,.slice B n' c'] w fun e w'=>e = .returned (.tuple #[.float .f64 0,.int .i64 6]) /\ Below w.heap.size w w':=by
    refine (refbound_any A B n' n' c c' a b w hn hn' ha hb).mono ?_
    rintro e w' (⟨h,_⟩ | ⟨_,_,h1,h2⟩ | ⟨h1,h2,_⟩)
    ·exact absurd HO h
    ·exact ⟨h1,h2⟩
    ·exact absurd ⟨h1,h2⟩ hok
   exact (refcyclic_err n' n' 0 6 A B c c' w (by decide) hB).mono (fun e w' h=>.inr (.inl ⟨HO,hok,h.1,h.2⟩))
 ·have hB : Calls Tryz.prog 26 #[.slice A n c,.slice B n' c'] w fun e w'=>e = .returned (.tuple #[.float .f64 0,.int .i64 4]) /\ Below w.heap.size w w':=by
   refine (refbound_any A B n n' c c' a b w hn hn' ha hb).mono ?_
   rintro e w' (⟨_,h1,h2⟩ | ⟨h,_⟩ | ⟨_,_,K,h1,h2,h3,_⟩)
   ·exact ⟨h1,h2⟩
   ·exact absurd h ho
   ·exact absurd ⟨K,h1,h2,h3⟩ ho
  exact (refcyclic_err n n' 0 4 A B c c' w (by decide) hB).mono (fun e w' h=>.inl ⟨ho,h.1,h.2⟩)
def CycBoth (n n' : Nat) (a b : List Int) (w : World) (e : Ending) (w' : World) : Prop :=
 ∃ C m l T,e = .returned (.tuple #[.slice C m m,.int .i64 T]) /\ UL w' C m m l /\ m <= 16384 /\ Below w.heap.size w w' /\
   ∀ u e' u',CycPost n n' a b u e' u' -> ∃ C',e' = .returned (.tuple #[.slice C' m m,.int .i64 T]) /\ UL u' C' m m l /\ Below u.heap.size u u'
theorem UL.nil' (w : World) : UL w none 0 0 []:=⟨rfl,Nat.le_refl _,fun _=>rfl,fun k x hk=>by simp at hk⟩
theorem cyc_split {n n' : Nat} {a b : List Int} {w w' : World} {e : Ending} (h : CycPost n n' a b w e w') : CycBoth n n' a b w e w':=by
 rcases h with ⟨h1,h2,h3⟩ | ⟨h1,h2,h3,h4⟩ | ⟨oa,ob,K,hK,hn,hnn,h5⟩
 ·refine ⟨none,0,[],4,h2,UL.nil' _,by omega,h3,fun u e' u' h'=>?_⟩
  rcases h' with ⟨_,g2,g3⟩ | ⟨g1,_⟩ | ⟨_,_,K,hK,hn,hnn,_⟩
  ·exact ⟨none,g2,UL.nil' _,g3⟩
  ·exact absurd g1 h1
  ·exact absurd ⟨K,hK,hn,hnn⟩ h1
 ·refine ⟨none,0,[],6,h3,UL.nil' _,by omega,h4,fun u e' u' h'=>?_⟩
  rcases h' with ⟨g1,_⟩ | ⟨_,_,g2,g3⟩ | ⟨ga,gb,_⟩
  ·exact absurd h1 g1
  ·exact ⟨none,g2,UL.nil' _,g3⟩
  ·exact absurd ⟨ga,gb⟩ h2
 ·have other : ∀ u e' u',CycPost n n' a b u e' u' -> ((ltL K a b = false /\ e' = .returned (.tuple #[.slice none 0 0,.int .i64 8]) /\ Below u.heap.size u u') \/
    (ltL K a b = true /\ ∃ g,e' = .returned (.tuple #[.slice (some ⟨g,0,none⟩) n n,.int .i64 0]) /\ LRow u' u.heap.size g n ((List.range n).map (cvI a b n)) /\ Below u.heap.size u u')):=fun u e' u' h'=>by
   rcases h' with ⟨g1,_⟩ | ⟨_,g2,_⟩ | ⟨_,_,K',hK',hn',_,h6⟩
   ·exact absurd ⟨K,hK,hn,hnn⟩ g1
   ·exact absurd ⟨oa,ob⟩ g2
   ·have e1 : K' = K:=pow_inj (by rw [<- hn',hn])
    rw [e1] at h6; exact h6
  have h2 : 2 ^ K <= 2 ^ 14:=Nat.pow_le_pow_right (by decide) hK
  rcases h5 with ⟨g1,g2,g3⟩ | ⟨g1,g,g2,g3,g4⟩
  ·refine ⟨none,0,[],8,g2,UL.nil' _,by omega,g3,fun u e' u' h'=>?_⟩
   rcases other u e' u' h' with ⟨_,q2,q3⟩ | ⟨q1,_⟩
   ·exact ⟨none,q2,UL.nil' _,q3⟩
   ·rw [g1] at q1; cases q1
  ·refine ⟨_,n,_,0,g2,g3.u,by omega,g4,fun u e' u' h'=>?_⟩
   rcases other u e' u' h' with ⟨q1,_⟩ | ⟨_,g',q2,q3,q4⟩
   ·rw [g1] at q1; cases q1
   ·exact ⟨_,q2,q3.u,q4⟩
end
section
theorem wheels8 : Wheels An.PI 8:=fun K hK=>by
 have h : K = 0 \/ K = 1 \/ K = 2 \/ K = 3 \/ K = 4 \/ K = 5 \/ K = 6 \/ K = 7 \/ K = 8:=by omega
 rcases h with rfl | rfl | rfl | rfl | rfl | rfl | rfl | rfl | rfl
 ·exact ⟨whT0,whT0_ok,whT0_v,.inl rfl⟩
 ·exact ⟨whT1,whT1_ok,whT1_v,.inr ⟨by decide,gT1,gT1_ok,rT1_ok.1,rT1_ok.2⟩⟩
 ·exact ⟨whT2,whT2_ok,whT2_v,.inr ⟨by decide,gT2,gT2_ok,rT2_ok.1,rT2_ok.2⟩⟩
 ·exact ⟨whT3,whT3_ok,whT3_v,.inr ⟨by decide,gT3,gT3_ok,rT3_ok.1,rT3_ok.2⟩⟩
 ·exact ⟨whT4,whT4_ok,whT4_v,.inr ⟨by decide,gT4,gT4_ok,rT4_ok.1,rT4_ok.2⟩⟩
 ·exact ⟨whT5,whT5_ok,whT5_v,.inr ⟨by decide,gT5,gT5_ok,rT5_ok.1,rT5_ok.2⟩⟩
 ·exact ⟨whT6,whT6_ok,whT6_v,.inr ⟨by decide,gT6,gT6_ok,rT6_ok.1,rT6_ok.2⟩⟩
 ·exact ⟨whT7,whT7_ok,whT7_v,.inr ⟨by decide,gT7,gT7_ok,rT7_ok.1,rT7_ok.2⟩⟩
 ·exact ⟨whT8,whT8_ok,whT8_v,.inr ⟨by decide,gT8,gT8_ok,rT8_ok.1,rT8_ok.2⟩⟩
end
section
open Go.RowKit
theorem cyclic_shape (P : Nat) (A B : Option Addr) (n n' c c' : Nat) (a b : List Int) (w : World) (hn : n < 9223372036854775808) (ha : UL w A n c a) (hb : UL w B n' c' b) (hR : RWd P w) (ho : ¬ OrdOk n n') :
  Calls Tryz.prog 19 #[.slice A n c,.slice B n' c'] w (CycPost n n' a b w):=by
 have hB : Calls Tryz.prog 18 #[.slice A n c,.slice B n' c'] w fun e w'=>e = .returned (.tuple #[.float .f64 0,.int .i64 4]) /\ Below w.heap.size w w':=by
  refine (rbound_any A B n n' c c' a b w hn ha hb hR.aw.tab (mxL_float a) (mxL_float b)).mono ?_
  rintro e w' (⟨_,h1,h2⟩ | ⟨h,_⟩ | ⟨_,_,K,h1,h2,h3,_⟩)
  ·exact ⟨h1,h2⟩
  ·exact absurd h ho
  ·exact absurd ⟨K,h1,h2,h3⟩ ho
 exact (rcyclic_err n n' 0 4 A B c c' w (by decide) hB).mono (fun e w' h=>.inl ⟨ho,h.1,h.2⟩)
set_option maxRecDepth 100000 in
set_option maxHeartbeats 4000000 in
theorem ringTells_walk (W : World) (A : Option Addr) (n c : Nat) (a : List Int) (B : Option Addr) (n' c' : Nat) (b : List Int) (hn : n <= 20000000000000) (hn' : n' <= 20000000000000) (ha : UL W A n c a) (la : L64 a) (hb : UL W B n' c' b) (lb : L64 b) (hR : RWd An.PI W) :
  Calls Tryz.prog 9 #[.slice A n c,.slice B n' c'] W fun e w'=>e = .returned (.bool true) /\ Below W.heap.size W w':=by
 have HA:=Hd ha
 have HB:=Hd hb
 have HR:=Hd hR
 have HAW:=Hd (rawake_any W hR)
 by_cases hlong : OrdOk n n' /\ 256 < n
 ·obtain ⟨⟨K,hK,hnK,hnn⟩,h256⟩:=hlong
  subst hnn
  have HL:=Hd (fun u=>long_yes K n' 256 A B c c' u hK hnK (by omega))
  have hd : decide (256 < n') = true:=decide_eq_true h256
  rw [hd] at HL
  clear ha hb hR la lb hK hnK hd h256
  go_enter Tryz.func9,Tryz.ntmps9
  go_wp2_with fail
  refine HAW.out.mono ?_
  rintro e w1 ⟨rfl,b1⟩
  have B1:=Hd b1
  clear b1 HAW
  go_wp2_with fail
  refine (HL.out _).mono ?_
  rintro e w2 ⟨rfl,rfl⟩
  go_wp2_with fail
  go_ret
  exact ⟨rfl,B1.out⟩
 ·have HL : Hid (∀ u,Calls Tryz.prog 11 #[.slice A n c,.slice B n' c',.int .i64 256] u fun e w'=>e = .returned (.bool false) /\ u = w'):=Hd (fun u=>by
   by_cases ho : OrdOk n n'
   ·obtain ⟨K,hK,hnK,hnn⟩:=ho
    subst hnn
    have h:=long_yes K n' 256 A B c c' u hK hnK (by omega)
    rw [decide_eq_false (fun h256=>hlong ⟨⟨K,hK,hnK,rfl⟩,h256⟩)] at h
    exact h
   ·exact long_no n n' 256 A B c c' u (by omega) (by omega) ho)
  have hk : ∀ K,n = 2 ^ K -> OrdOk n n' -> K <= 8:=fun K hK ho=>by
   have h1 : ¬ 256 < n:=fun h=>hlong ⟨ho,h⟩
   rcases Nat.lt_or_ge 8 K with h | h
   ·have:=Nat.pow_le_pow_right (show 0 < 2 by decide) h
    omega
   ·exact h
  have HP : Hid (∀ u X Y x y,UL u X n x a -> UL u Y n' y b -> RWd An.PI u -> Calls Tryz.prog 19 #[.slice X n x,.slice Y n' y] u fun e w' =>
    ∃ C m l T,e = .returned (.tuple #[.slice C m m,.int .i64 T]) /\ UL w' C m m l /\ m <= 16384 /\ Below u.heap.size u w' /\
      ∀ u X Y x y,UL u X n x a -> UL u Y n' y b -> RWd An.PI u -> Calls Tryz.prog 28 #[.slice X n x,.slice Y n' y] u fun e' u'=>∃ C',e' = .returned (.tuple #[.slice C' m m,.int .i64 T]) /\ UL u' C' m m l /\ Below u.heap.size u u'):=Hd (fun u X Y x y hX hY hT=>by
   have hc : Calls Tryz.prog 19 #[.slice X n x,.slice Y n' y] u (CycPost n n' a b u):=by
    by_cases ho : OrdOk n n'
    ·exact cyclic_full An.PI 8 X Y n n' x y a b u (by omega) hX hY hT wheels8 (fun K hK=>hk K hK ho)
    ·exact cyclic_shape An.PI X Y n n' x y a b u (by omega) hX hY hT ho
   refine hc.mono ?_
   intro e w' h
   obtain ⟨C,m,l,T,h1,h3,h4,h5,h6⟩:=cyc_split h
   exact ⟨C,m,l,T,h1,h3,h4,h5,fun u X Y x y hX hY hT=>(refcyclic_full X Y n n' x y a b u (by omega) (by omega) hX hY hT.aw.tab).mono (fun e' u' h'=>h6 u e' u' h')⟩)
  clear ha hb hR la lb hlong hk
  go_enter Tryz.func9,Tryz.ntmps9
  go_wp2_with fail
  refine HAW.out.mono ?_
  rintro e w1 ⟨rfl,b1⟩
  have B1:=Hd b1
  have C1:=Hd (lent_longs A n c a w1 hn (HA.out.below b1))
  clear b1 HAW
  go_wp2_with fail
  refine (HL.out _).mono ?_
  rintro e w2 ⟨rfl,rfl⟩
  clear HL
  go_wp2_with fail
  refine C1.out.mono ?_
  rintro e w2 ⟨ga,rfl,la,b2⟩
  have B2:=Hd (B1.out.trans (b2.mono B1.out.size))
  have LA:=Hd la
  have C2:=Hd (lent_longs B n' c' b w2 hn' (HB.out.below B2.out))
  clear b2 la B1 C1
  go_wp2_with fail
  refine C2.out.mono ?_
  rintro e w3 ⟨gb,rfl,lb,b3⟩
  have B3:=Hd (B2.out.trans (b3.mono B2.out.size))
  have LA2:=Hd (LA.out.below b3)
  have LB:=Hd lb
  have C3:=Hd (HP.out w3 _ _ (n + 12) (n' + 12) LA2.out.u LB.out.u (HR.out.below B3.out))
  clear b3 lb B2 C2 LA HP
  go_wp2_with fail
  refine C3.out.mono ?_
  rintro e w4 ⟨C,m,l,T,rfl,hu4,hm,b4,hs⟩
  have B4:=Hd (B3.out.trans (b4.mono B3.out.size))
  have LA4:=Hd (LA2.out.below b4)
  have LB4:=Hd (LB.out.below b4)
  have HU4:=Hd hu4
  have C4:=Hd (hs w4 A B c c' (HA.out.below B4.out) (HB.out.below B4.out) (HR.out.below B4.out))
  clear b4 hs hu4 B3 C3 LA2 LB
  go_wp2_with fail
  refine C4.out.mono ?_
  rintro e w5 ⟨C',rfl,hu5,b5⟩
  have B5:=Hd (B4.out.trans (b5.mono B4.out.size))
  have LA5:=Hd (LA4.out.below b5)
  have LB5:=Hd (LB4.out.below b5)
  have C5:=Hd (same_longs C m m C' m l w5 (by omega) (HU4.out.below b5) hu5)
  clear b5 hu5 C4 LA4 LB4 B4 HU4
  go_wp2_with fail
  refine C5.out.mono ?_
  rintro e w6 ⟨rfl,b6⟩
  have B6:=Hd (B5.out.trans (b6.mono B5.out.size))
  have C6:=Hd (kept_longs A n c ga a w6 hn (LA5.out.below b6) (HA.out.below B6.out))
  have LB6:=Hd (LB5.out.below b6)
  clear b6 C5 LA5 LB5 B5
  go_wp2_with fail
  refine C6.out.mono ?_
  rintro e w7 ⟨rfl,b7⟩
  have B7:=Hd (B6.out.trans (b7.mono B6.out.size))
  have C7:=Hd (kept_longs B n' c' gb b w7 hn' (LB6.out.below b7) (HB.out.below B7.out))
  clear b7 C6 LB6 B6
  go_wp2_with fail
  refine C7.out.mono ?_
  rintro e w8 ⟨rfl,b8⟩
  have B8:=Hd (B7.out.trans (b8.mono B7.out.size))
  clear b8 C7 B7
  go_wp2_with fail
  go_ret
  exact ⟨rfl,B8.out⟩
end
section
open Go.ChangeShapes Go.WideShapes Go.ChangeAt Go.RowKit
namespace ringTells
theorem own : ownKnob Tryz.prog.godebug = none:=by kernel_rfl
set_option maxRecDepth 100000 in
theorem contract (H : Type) (enc : TypeId × Value -> H) (W : World) (base : Nat) (args : Array Value) (ds gs : List (DataW H)) (before : List MemPlace)
  (hval0 : ∀ (j : Nat) t v,Tryz.f9.params[j]? = some t -> args[j]? = some v -> Value.okWide Tryz.prog W .any base t v)
  (hW : DataW.Whole enc Tryz.prog Tryz.f9.params.toList Rows.ringTellsSpec.vars false W args.toList ds gs before)
  (hz : (DataW.weightsEach Tryz.prog (Tryz.f9.params.toList ++ (OpenSpec.ofChange Rows.ringTellsSpec).bare.plain.varTypes Tryz.prog) (ds ++ gs)).all (· <= reachBytes) = true) (hL : laidMetH Tryz.prog Rows.ringTellsRow.laid W) :
  Calls Tryz.prog 9 args W fun e W'=>∃ v,e = .returned v /\ Rows.ringTellsSpec.post enc Tryz.prog Tryz.f9 false true false false W args v W':=by
 have hval : ∀ (j : Nat) t v,Tryz.f9.params[j]? = some t -> args[j]? = some v -> Value.okWide Tryz.prog W .any base t v:=hval0
 have hW':=hW
 obtain ⟨p,q,hA0,hV,rfl,hfz,hnd⟩:=hW
 have hA : DataW.TrodAll enc Tryz.prog W 0 (fun _=>true) true Tryz.f9.params.toList args.toList ds p:=hA0
 rw [Tryz.params9] at hA hval
 have hts : (Tryz.f9.params.toList ++ (OpenSpec.ofChange Rows.ringTellsSpec).bare.plain.varTypes Tryz.prog) = [22,22]:=by kernel_rfl
 rw [hts] at hz
 obtain ⟨v0,vs0,d0,ds0,p0,q0,hargs,rfl,rfl,h0,r0⟩:=trodAll_cons hA
 obtain ⟨v1,vs1,d1,ds1,p1,q1,rfl,rfl,rfl,h1,r1⟩:=trodAll_cons r0
 obtain ⟨rfl,rfl,rfl⟩:=trodAll_nil r1
 obtain rfl : args = #[v0,v1]:=by cases args; simp_all
 obtain ⟨rfl,rfl⟩:=trodVars_none hV
 obtain ⟨a0,n0,c0,z0,rfl,w0,l0,_⟩:=in_longs Tryz.underlying22 Tryz.underlying2 (by kernel_rfl) (hval 0 22 v0 rfl rfl) h0
 have b0:=long_bound (j:=0) (t:=22) (e:=2) hz rfl rfl Tryz.underlying22 (by kernel_rfl) (long_size Tryz.underlying22 (by kernel_rfl) h0)
 obtain ⟨a1,n1,c1,z1,rfl,w1,l1,_⟩:=in_longs Tryz.underlying22 Tryz.underlying2 (by kernel_rfl) (hval 1 22 v1 rfl rfl) h1
 have b1:=long_bound (j:=1) (t:=22) (e:=2) hz rfl rfl Tryz.underlying22 (by kernel_rfl) (long_size Tryz.underlying22 (by kernel_rfl) h1)
 have hR : RWd An.PI W:=rwd_laid hL
 clear hA0 hval0 hz hL
 simp only [List.append_nil,List.nil_append] at hW'
 refine (ringTells_walk W a0 n0 c0 z0 a1 n1 c1 z1 b0 b1 w0 l0 w1 l1 hR).mono fun e W' ⟨he,hg⟩=>?_
 subst he
 exact ⟨_,rfl,post_of_below (pv:=[]) hW' (fun _ _ _=>(trodAll_cons_mk (shut_bool Tryz.underlying4 _) trodAll_mk0)) (fun sp hsp=>(trodAll_cons_mk (WideElems.Trod_stays (by kernel_rfl) (by kernel_rfl) (of_decide_eq_true (by kernel_rfl)) h0 (fun x hx=>hg.same (hW'.lt x (by simp [hx]))) (fun x hx=>hsp x (by simp [hx]))) (trodAll_cons_mk (WideElems.Trod_stays (by kernel_rfl) (by kernel_rfl) (of_decide_eq_true (by kernel_rfl)) h1 (fun x hx=>hg.same (hW'.lt x (by simp [hx]))) (fun x hx=>hsp x (by simp [hx]))) trodAll_mk0))) (fun _ _=>rfl) (by simp)
  hg (ok_one (by kernel_rfl) rfl (okWide_bool_mk Tryz.underlying4 _))⟩
def lay (zs : List Nat) : Obj -> Obj
 | .cells _ t frozen=>.cells (zs.map fun (x : Nat)=>Value.int .u8 (Int.ofNat x)).toArray t frozen
 | o=>o
noncomputable def laidWorld (os : Os) : World :=
 { World.holding Tryz.prog os ⟨#[],#[],[]⟩ with heap:=(((World.holding Tryz.prog os ⟨#[],#[],[]⟩).heap.modify 1 (lay [0,1,28,2,29,14,24,3,30,22,20,15,25,17,4,8,31,27,13,23,21,19,16,7,26,12,18,6,11,5,10,9])).modify 2 (lay Lib.deBruijn64tab)).modify 3 (lay nibT) }
theorem laid_met (os : Os) : laidMet Tryz.prog Rows.ringTellsRow.laid ((laidWorld os).forCall (fun _ _=>0) ⟨#[],#[.slice none 0 0,.slice none 0 0],[]⟩).memory :=
 laidMet_of_run' 8 (by kernel_rfl) (by kernel_rfl)
theorem reads (os : Os) {H : Type} (enc : TypeId × Value -> H) : ∃ places,DataW.whole enc Tryz.prog ((laidWorld os).forCall (fun _ _=>0) ⟨#[],#[.slice none 0 0,.slice none 0 0],[]⟩).memory Tryz.f9.params.toList Rows.ringTellsSpec.vars false (#[.slice none 0 0,.slice none 0 0] : Array Value).toList 8 = some ([.nil,.nil],[],places) :=
 ⟨[],by kernel_rfl⟩
set_option maxRecDepth 100000 in
theorem lifted (os : Os) (started : os.Started) (H : Type) (enc : TypeId × Value -> H) (F : Stop.Interp) :
  ReturnsInHanded {} Tryz.checked os 9 .any ((OpenSpec.ofChange Rows.ringTellsSpec).preRow enc Tryz.prog Tryz.f9 Rows.ringTellsRow.domain false Rows.ringTellsRow.laid) (((OpenSpec.ofChange Rows.ringTellsSpec).at F).post enc Tryz.prog Tryz.f9 false true false false):=by
 obtain ⟨places,hx⟩:=reads os enc
 refine returnsInHanded_of_row (C:=Tryz.checked) (s:=OpenSpec.ofChange Rows.ringTellsSpec) own started (by kernel_rfl) Tryz.func9
  (witness_row_at (enc:=enc) (C:=Tryz.checked) false (laidWorld os) #[.slice none 0 0,.slice none 0 0] rfl (by kernel_rfl) (by kernel_rfl) (by kernel_rfl)
   (OpenSpec.preRow_of_cond 8 hx (by kernel_rfl) (fun k hk=>by cases hk) (by kernel_rfl) (laid_met os))) ?_
 intro W base args ds gs before hval hW _ _ hz hL _ _
 exact contract H enc W base args ds gs before hval hW hz hL
theorem said : Rows.RingTellsSaid :=
 OpenClaim.holds_of_cond 9 Tryz.f9 rfl rfl rfl rfl rfl rfl rfl ⟨rfl,rfl,rfl,rfl,rfl⟩ rfl rfl rfl rfl rfl (by kernel_rfl) Tryz.func9 (by kernel_rfl)
  (of_decide_eq_true (by kernel_rfl)) (by unfold Func.isWrapper; first | (rw [if_pos (by decide +kernel)]; kernel_rfl) | (rw [if_neg (by decide +kernel)]; exact ⟨rfl,rfl⟩))
  (fun os started H enc _ F=>by rw [OpenClaim.pre_eq_preRow]; exact lifted os started H enc F)
theorem plain (f : FuncId) (fn : Func) (hf : Tryz.pinned.checked.prog.funcNamed "rosette/rosettelaw11.RingTells" = some f) (hfn : Tryz.pinned.checked.prog.funcs[f]? = some fn) :
  false = Tryz.pinned.checked.prog.looks [] /\ ∀ (j : Nat) t,fn.params[j]? = some t -> Tryz.pinned.checked.prog.wantsStandIn t = false:=by
 obtain rfl : f = 9 := Option.some.inj ((show Tryz.prog.funcNamed "rosette/rosettelaw11.RingTells" = some 9 by kernel_rfl).symm.trans hf) |>.symm
 obtain rfl : fn = Tryz.f9:=(Option.some.inj (Tryz.func9.symm.trans hfn)).symm
 refine ⟨by kernel_rfl,fun j t ht=>?_⟩
 rw [Tryz.params9] at ht
 have hm:=Array.mem_of_getElem? ht
 have hor : t = 22:=by simp at hm; omega
 subst hor
 exact (show Tryz.prog.wantsStandIn 22 = false by kernel_rfl)
theorem card : Rows.RingTellsCardSaid :=
 Claim7.holds_tied_plain_at .later [] _ _ _ _ said (fun _ h=>by cases h) (by kernel_rfl) (fun _ h=>by cases h) ringTells_row_tie rfl ⟨rfl,rfl⟩ (by kernel_rfl) rfl plain (by kernel_rfl)
end ringTells
theorem ringTells_holds : Rows.RingTellsCardSaid:=ringTells.card
#print axioms ringTells_holds
end
end Go.Proofs.YtfpopdneokekiaaGreatDoor

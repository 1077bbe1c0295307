/-
The card of RingTrue: for every input the call answers true, and every argument reads behind it as before. Conditions: the three tables that the transforms read hold what the program lays into them (tied by the card).
-/
import Derived.Test.YtfpopdneokekiaaGreatDoorF0
import Derived.Test.YtfpopdneokekiaaGreatDoorF34
import Derived.Test.YtfpopdneokekiaaGreatDoorF35
import Derived.Laws.CopyOwn
import Derived.Deep.QuietTactic
import Derived.Deep.RegionWith
import Derived.Test.YtfpopdneokekiaaGreatDoorCards
import Derived.Test.YtfpopdneokekiaaGreatDoorTie
import Derived.WalkKit
import Derived.ProofKit
import Derived.OpenShut
import Derived.Laws.Cover2
import Derived.Deep.DeepHandedRow
import Derived.Lib.LaidTab
import Derived.Lib.Hide
set_option linter.unusedVariables false
set_option linter.unusedSimpArgs false
namespace Go.Proofs.YtfpopdneokekiaaGreatDoor
section
open Go.RowKit
section
variable {P : Program} {md : Region.Mode} {ops ops' : Array Oper} {Q : Exit -> Act -> World -> Prop} {S : World -> Prop}
end
end
section
open Go.RowKit Nt
end
section
open Go.RowKit Nt
end
section
open Go.RowKit Nt
end
section
open Go.RowKit
end
section
open Go.RowKit
open Fl in
theorem mulS_some {x y : Nat} (hx : Pos x) (hy : Pos y) : ∃ r,mulS x y true = some r /\ Is (mulS x y true) r:=by
 obtain ⟨r,h,_⟩:=mulS_dir x y true hx.1 hy.1
 exact ⟨r,h,by rw [h]; rfl⟩
open Fl in
theorem closed_any {K a b : Nat} (hK : K <= 14) (ha : Sz a) (hb : Sz b) : ClosedR K a b /\ RingIs K a b (bf K a b):=by
 obtain ⟨t1,t2,t3,t4,t5,t6,t7,t8,t9,t10,t11,t12⟩:=top_r
 obtain ⟨_,_,_,_,f1,f2,f3,f4,f5,f6,f7,f8⟩:=fac_at K hK
 obtain ⟨_,_,_,_,g1,g2,_,g4,g5,_⟩:=fac_at 14 (by omega)
 obtain ⟨r1,e1,i1⟩:=mulS_some (x:=rC K) (y:=rS K) ⟨f1,f2⟩ ⟨f4,f5⟩
 have s1:=step_pos ⟨f1,f2⟩ ⟨f4,f5⟩ i1 ⟨g1,g2⟩ ⟨g4,g5⟩ t1 t5 f3 f6
 obtain ⟨r2,e2,i2⟩:=mulS_some (y:=a) s1.1 ha.facts.2.2.2.1
 have s2:=step_pos s1.1 ha.facts.2.2.2.1 i2 ⟨t5,t6⟩ big_sz.facts.2.2.2.1 t2 t7 s1.2 (le_big ha)
 obtain ⟨r3,e3,i3⟩:=mulS_some (y:=b) s2.1 hb.facts.2.2.2.1
 have s3:=step_pos s2.1 hb.facts.2.2.2.1 i3 ⟨t7,t8⟩ big_sz.facts.2.2.2.1 t3 (by omega) s2.2 (le_big hb)
 obtain ⟨r4,e4⟩ : ∃ r4,addS r3 103582791429521408 true = some r4:=by
  unfold addS
  rw [if_pos ⟨s3.1.1,least_pos.1⟩]
  exact ⟨_,rfl⟩
 have c1 : cf1 K = r1:=by unfold cf1; rw [e1]; rfl
 have c2 : cf2 K a = r2:=by unfold cf2; rw [c1,e2]; rfl
 have c3 : cf3 K a b = r3:=by unfold cf3; rw [c2,e3]; rfl
 have c4 : bf K a b = r4:=by unfold bf; rw [c3,e4]; rfl
 have i4 : Is (addS r3 103582791429521408 true) r4:=by rw [e4]; rfl
 refine ⟨⟨?_,?_,?_,?_⟩,?_⟩
 ·rw [c1]; exact e1
 ·rw [c1,c2]; exact e2
 ·rw [c2,c3]; exact e3
 ·rw [c3,c4]; exact e4
 ·rw [c4]; exact ⟨r1,r2,r3,i1,i2,i3,i4⟩
def bfL (K : Nat) (a b : List Int) : Nat:=bf K (floatOfInt .f64 (mxL a)) (floatOfInt .f64 (mxL b))
def ltL (K : Nat) (a b : List Int) : Bool:=FloatKind.f64.format.order (bfL K a b) 4598175219545276416 == some Ordering.lt
theorem bound_is (K n : Nat) (A B : Option Addr) (c c' : Nat) (a b : List Int) (w : World) (hK : K <= 14) (hn : n = 2 ^ K) (ha : UL w A n c a) (hb : UL w B n c' b) (oa : okL a) (ob : okL b) (hT : TabAt 2 Lib.deBruijn64tab w) :
  Calls Tryz.prog 18 #[.slice A n c,.slice B n c'] w fun e w'=>e = .returned (.tuple #[.float .f64 (bfL K a b),.int .i64 0]) /\ Below w.heap.size w w' :=
 bound_closed K n _ _ _ A B c c' a b w hK hn ha hb oa ob hT rfl rfl (closed_any hK (mx_sz oa) (mx_sz ob)).1 rfl
theorem pow_inj {K K' : Nat} (h : 2 ^ K' = 2 ^ K) : K' = K:=by
 rcases Nat.lt_trichotomy K' K with h5 | h5 | h5
 ·have:=Nat.pow_lt_pow_right (show 1 < 2 by decide) h5; omega
 ·exact h5
 ·have:=Nat.pow_lt_pow_right (show 1 < 2 by decide) h5; omega
def Wheels (P k : Nat) : Prop:=∀ K,K <= k -> ∃ l,Whl P K l /\ (∀ z ∈ l,z.2 < 2 * Fl.W) /\ WhlOk K l
def CycPost (n n' : Nat) (a b : List Int) (w : World) (e : Ending) (w' : World) : Prop :=
 (¬ OrdOk n n' /\ e = .returned (.tuple #[.slice none 0 0,.int .i64 4]) /\ Below w.heap.size w w') \/
 (OrdOk n n' /\ ¬ (okL a /\ okL b) /\ e = .returned (.tuple #[.slice none 0 0,.int .i64 6]) /\ Below w.heap.size w w') \/
 (okL a /\ okL b /\ ∃ K : Nat,K <= 14 /\ n = 2 ^ K /\ n' = n /\ ((ltL K a b = false /\ e = .returned (.tuple #[.slice none 0 0,.int .i64 8]) /\ Below w.heap.size w w') \/
  (ltL K a b = true /\ ∃ g,e = .returned (.tuple #[.slice (some ⟨g,0,none⟩) n n,.int .i64 0]) /\ LRow w' w.heap.size g n ((List.range n).map (cvI a b n)) /\ Below w.heap.size w w')))
theorem cyclic_full (P k : Nat) (A B : Option Addr) (n n' c c' : Nat) (a b : List Int) (w : World) (hn : n < 9223372036854775808) (ha : UL w A n c a) (hb : UL w B n' c' b) (hR : RWd P w) (hwh : Wheels P k) (hk : ∀ K,n = 2 ^ K -> K <= k) :
  Calls Tryz.prog 19 #[.slice A n c,.slice B n' c'] w (CycPost n n' a b w):=by
 by_cases ho : OrdOk n n'
 ·have HO:=ho
  obtain ⟨K,hK,hnK,hnn⟩:=ho
  subst hnn
  by_cases hok : okL a /\ okL b
  ·obtain ⟨oa,ob⟩:=hok
   have hB:=bound_is K n' A B c c' a b w hK hnK ha hb oa ob hR.aw.tab
   cases hlt : ltL K a b with
   | false=>exact (rcyclic_bound n' n' _ A B c c' w hB hlt).mono (fun e w' h=>.inr (.inr ⟨oa,ob,K,hK,hnK,rfl,.inl ⟨hlt,h.1,h.2⟩⟩))
   | true =>
     obtain ⟨l,h1,h2,h3⟩:=hwh K (hk K hnK)
     obtain ⟨hC,hE,_⟩:=told_prod hK h3 oa ob (closed_any hK (mx_sz oa) (mx_sz ob)).2 hlt
     refine (rcyclic_any K n' P _ A B c c' a b l w hK hnK hR h1 h2 ha hb oa ob hB hlt hC).mono ?_
     rintro e w' ⟨g,h4,h5,h6⟩
     rw [hE,<- hnK] at h5
     exact .inr (.inr ⟨oa,ob,K,hK,hnK,rfl,.inr ⟨hlt,g,h4,h5,h6⟩⟩)
  ·have hB : Calls Tryz.prog 18 #[.slice A n' c,.slice B n' c'] w fun e w'=>e = .returned (.tuple #[.float .f64 0,.int .i64 6]) /\ Below w.heap.size w w':=by
    refine (rbound_any A B n' n' c c' a b w hn ha hb hR.aw.tab (mxL_float a) (mxL_float b)).mono ?_
    rintro e w' (⟨h,_⟩ | ⟨_,_,h1,h2⟩ | ⟨h1,h2,_⟩)
    ·exact absurd HO h
    ·exact ⟨h1,h2⟩
    ·exact absurd ⟨h1,h2⟩ hok
   exact (rcyclic_err n' n' 0 6 A B c c' w (by decide) hB).mono (fun e w' h=>.inr (.inl ⟨HO,hok,h.1,h.2⟩))
 ·have hB : Calls Tryz.prog 18 #[.slice A n c,.slice B n' c'] w fun e w'=>e = .returned (.tuple #[.float .f64 0,.int .i64 4]) /\ Below w.heap.size w w':=by
   refine (rbound_any A B n n' c c' a b w hn ha hb hR.aw.tab (mxL_float a) (mxL_float b)).mono ?_
   rintro e w' (⟨_,h1,h2⟩ | ⟨h,_⟩ | ⟨_,_,K,h1,h2,h3,_⟩)
   ·exact ⟨h1,h2⟩
   ·exact absurd h ho
   ·exact absurd ⟨K,h1,h2,h3⟩ ho
  exact (rcyclic_err n n' 0 4 A B c c' w (by decide) hB).mono (fun e w' h=>.inl ⟨ho,h.1,h.2⟩)
end
section
theorem wheels8 : Wheels An.PI 8:=fun K hK=>by
 have h : K = 0 \/ K = 1 \/ K = 2 \/ K = 3 \/ K = 4 \/ K = 5 \/ K = 6 \/ K = 7 \/ K = 8:=by omega
 rcases h with rfl | rfl | rfl | rfl | rfl | rfl | rfl | rfl | rfl
 ·exact ⟨whT0,whT0_ok,whT0_v,.inl rfl⟩
 ·exact ⟨whT1,whT1_ok,whT1_v,.inr ⟨by decide,gT1,gT1_ok,rT1_ok.1,rT1_ok.2⟩⟩
 ·exact ⟨whT2,whT2_ok,whT2_v,.inr ⟨by decide,gT2,gT2_ok,rT2_ok.1,rT2_ok.2⟩⟩
 ·exact ⟨whT3,whT3_ok,whT3_v,.inr ⟨by decide,gT3,gT3_ok,rT3_ok.1,rT3_ok.2⟩⟩
 ·exact ⟨whT4,whT4_ok,whT4_v,.inr ⟨by decide,gT4,gT4_ok,rT4_ok.1,rT4_ok.2⟩⟩
 ·exact ⟨whT5,whT5_ok,whT5_v,.inr ⟨by decide,gT5,gT5_ok,rT5_ok.1,rT5_ok.2⟩⟩
 ·exact ⟨whT6,whT6_ok,whT6_v,.inr ⟨by decide,gT6,gT6_ok,rT6_ok.1,rT6_ok.2⟩⟩
 ·exact ⟨whT7,whT7_ok,whT7_v,.inr ⟨by decide,gT7,gT7_ok,rT7_ok.1,rT7_ok.2⟩⟩
 ·exact ⟨whT8,whT8_ok,whT8_v,.inr ⟨by decide,gT8,gT8_ok,rT8_ok.1,rT8_ok.2⟩⟩
end
section
open Go.RowKit
end
section
open Go.RowKit
theorem LRow.heap {w : World} {base g n : Nat} {l : List Int} (h : LRow w base g n l) : w.heap[g]? = some (.cells (l.map (Value.int .i64)).toArray 2 (0,0)):=by
 obtain ⟨h1,h2⟩:=h
 rcases h2 with ⟨h',_⟩ | ⟨g',cap',cur,h',hb,hg,hn,hc,hs,ht⟩
 ·cases h'
 ·have e : g = g' /\ n = cap':=by
   injection h' with e1 _ e3
   injection e1 with e1
   injection e1 with e1
   exact ⟨e1,e3⟩
  obtain ⟨rfl,rfl⟩:=e
  rw [List.take_of_length_le (by simp; omega)] at ht
  rw [hg,<- ht]
theorem LRow.ofHeap {w : World} {base g n : Nat} {l : List Int} (hb : base <= g) (hl : l.length = n) (hm : n <= maxLen) (h : w.heap[g]? = some (.cells (l.map (Value.int .i64)).toArray 2 (0,0))) : LRow w base g n l:=by
 refine ⟨by simp [hl],.inr ⟨g,n,_,rfl,hb,h,Nat.le_refl _,hm,by simp [hl],?_⟩⟩
 rw [List.take_of_length_le (by simp [hl])]
theorem run_makeL (w : World) (n : Nat) (hn : n <= 16384) : (Instr.makeSlice 22 (.int .i64 n) (.int .i64 n)).run Tryz.prog w = .ok (.slice (some ⟨w.heap.size,0,none⟩) n n) (w.alloc (.cells (madeCells #[.int .i64 0] n) 2)):=by
 obtain ⟨i0,hi0,hz0,hz1,hz2⟩:=info_parts i64_info
 have h:=run_makeSlice (P:=Tryz.prog) w 22 2 i0 _ Tryz.underlying22 hi0 hz0 .i64 .i64 n n (by omega) (by omega) (by rw [hz1]; omega) (by rw [hz2]; omega) (by omega)
 rw [h,hz1]
 simp
 rfl
theorem LRow.alloc (v : World) (base n : Nat) (hb : base <= v.heap.size) (hn : n <= maxLen) : LRow (v.alloc (.cells (madeCells #[.int .i64 0] n) 2)) base v.heap.size n (List.replicate n 0):=by
 have e : (madeCells #[Value.int .i64 0] n).toList = List.replicate n (Value.int .i64 0):=toList_madeCells_one _ _
 refine ⟨by simp,.inr ⟨v.heap.size,n,madeCells #[.int .i64 0] n,rfl,hb,(show (v.heap.push _)[v.heap.size]? = _ from Array.getElem?_push_size),Nat.le_refl _,hn,by simp [size_madeCells],?_⟩⟩
 rw [Nat.mul_one,e,List.map_replicate,List.take_of_length_le (by simp)]
theorem wpList_copy_more {P : Program} {w : World} {ops : Array Oper} {rest : List Oper} {o : Oper} {a : Act} {Q : Exit -> Act -> World -> Prop} (hgd : o.guard = none) (d s : Operand) (dT sT : TypeId)
  (ho : o.op = .call { callee:=.builtin .copy,args:=#[d,s],argTypes:=#[dT,sT] }) (elem : TypeId) (hu : P.underlying dT = some (.slice elem)) (hsz : (P.info? elem).map (·.size) = some 1)
  (dp sp : Option Addr) (dLen dCap sLen sCap : Nat) (hd : a.eval d = .slice dp dLen dCap) (hs : a.eval s = .slice sp sLen sCap)
  (g off : Nat) (cur : List Value) (t : TypeId) (hg : w.heap[g]? = some (.cells cur.toArray t (0,0))) (cs : List Value) (hn : cs.length = Nat.min sLen dLen)
  (hpos : 0 < cs.length -> dp = some ⟨g,off,none⟩ /\ ∃ ad,sp = some ad /\ ∀ j v,cs[j]? = some v -> w.cell? (ad.add j) = some v)
  (hfit : off + cs.length <= cur.length) (h1 : ∀ v ∈ cs,v.oneCell' = true) (B : Nat) (w0 : World) (hb : Below B w0 w) (hBg : B <= g)
  (h : ∀ w',Hid (w'.heap[g]? = some (.cells (splice cur off cs).toArray t (0,0))) -> Hid (∀ k,k ≠ g -> w'.heap[k]? = w.heap[k]?) -> Below B w0 w' -> wpList P ops Q rest (a.put o.dst (goInt cs.length)) w') :
  wpList P ops Q (o :: rest) a w:=by
 by_cases h0 : cs.length = 0
 ·obtain rfl : cs = []:=List.eq_nil_of_length_eq_zero h0
  refine wpList_copy_nothing hgd d s dT sT ho elem hu hsz dp sp dLen dCap sLen sCap hd hs (by simpa using hn.symm) ?_
  exact h w (Hd (by simpa [splice] using hg)) (Hd (fun _ _=>rfl)) hb
 ·obtain ⟨rfl,ad,rfl,hsrc⟩:=hpos (by omega)
  refine wpList_copy_own hgd d s dT sT ho elem hu hsz g off dLen dCap ad sLen sCap hd hs cur.toArray t hg cs hn hsrc (by simpa using hfit) h1 ?_
  exact h _ (Hd (by simpa [splice] using setRow_heap w g _ _ t _ hg)) (Hd (fun k hk=>setRow_other w g k _ hk)) (below_setRow hb hBg _)
theorem UL.src {w : World} {A : Option Addr} {n c : Nat} {a : List Int} (h : UL w A n c a) (N g : Nat) : 0 < ((a.take N).map (Value.int .i64)).length -> (some ⟨g,0,none⟩ : Option Addr) = some ⟨g,0,none⟩ /\ ∃ ad,A = some ad /\ ∀ j v,((a.take N).map (Value.int .i64))[j]? = some v -> w.cell? (ad.add j) = some v:=by
 intro h0
 obtain ⟨hl,_,_,hc⟩:=h
 have h1 : 0 < a.length:=by simp at h0; omega
 obtain ⟨ad,hA,_,_⟩:=hc 0 a[0] (List.getElem?_eq_getElem h1)
 refine ⟨rfl,ad,hA,fun j v hj=>?_⟩
 rw [List.getElem?_map] at hj
 obtain ⟨z,hz,rfl⟩:=Option.map_eq_some_iff.1 hj
 rw [List.getElem?_take] at hz
 split at hz
 ·obtain ⟨ad2,hA2,_,hc2⟩:=hc j z hz
  rw [hA] at hA2
  obtain rfl:=Option.some.inj hA2
  exact hc2
 ·cases hz
def firsts (a : List Int) (N : Nat) : List Int:=a.take N ++ List.replicate (N - (a.take N).length) 0
theorem firsts_len (a : List Int) (N : Nat) : (firsts a N).length = N:=by unfold firsts; simp; omega
theorem firsts_64 {a : List Int} (h : L64b a) (N : Nat) : L64b (firsts a N):=fun x hx=>by
 unfold firsts at hx
 rcases List.mem_append.1 hx with h1 | h1
 ·exact h x (List.mem_of_mem_take h1)
 ·have:=(List.mem_replicate.1 h1).2; omega
theorem firsts_splice (a : List Int) (N : Nat) : splice ((List.replicate N (0 : Int)).map (Value.int .i64)) 0 ((a.take N).map (Value.int .i64)) = (firsts a N).map (Value.int .i64):=by
 unfold splice firsts
 rw [List.take_zero,List.nil_append,Nat.zero_add,List.map_append,<- List.map_drop,List.length_map]
 congr 2
 simp
def FitPost (m : Nat) (w : World) (e : Ending) (w' : World) : Prop:=∃ K N g1 g2 xl yl,K <= m /\ N = 2 ^ K /\ e = .returned (.tuple #[.slice (some ⟨g1,0,none⟩) N N,.slice (some ⟨g2,0,none⟩) N N]) /\ LRow w' w.heap.size g1 N xl /\ LRow w' w.heap.size g2 N yl /\ L64b xl /\ L64b yl /\ g1 ≠ g2 /\ Below w.heap.size w w'
set_option maxRecDepth 100000 in
set_option maxHeartbeats 4000000 in
theorem fit_any (A B : Option Addr) (n c n' c' m : Nat) (a b : List Int) (w : World) (hm : m <= 14) (hn : n <= 20000000000000) (hn' : n' <= 20000000000000) (ha : UL w A n c a) (hb : UL w B n' c' b) (la : L64b a) (lb : L64b b) :
  Calls Tryz.prog 17 #[.slice A n c,.slice B n' c',.int .i64 m] w (FitPost m w):=by
 have HA:=Hd ha
 have HB:=Hd hb
 have HLA:=Hd la
 have HLB:=Hd lb
 have HB00:=Hd (Below.refl w.heap.size w)
 clear ha hb la lb
 go_enter Tryz.func17,Tryz.ntmps17
 go_wp2_with fail
 go_loopw [9,8] (fun kv nv wr=>∃ (k j N : Nat),kv = .int .i64 k /\ nv = .int .i64 N /\ k <= m /\ j <= k /\ N <= 16384 /\ Hid (N = 2 ^ j) /\ Hid (j = 0 \/ (N <= n /\ N <= n')) /\ Hid (w = wr)) (fun kv _ _=>m - (intOf kv).toNat)
 case atStart=>exact ⟨0,0,1,rfl,rfl,Nat.zero_le _,Nat.le_refl _,by omega,Hd rfl,Hd (.inl rfl),Hd rfl⟩
 case round =>
  obtain ⟨k,j,N,rfl,rfl,hk,hj,hN,HNK,HF,HW⟩:=hrel
  have hww:=HW.out
  subst hww
  clear HW
  have d2 : IntKind.i64.wrap (2 * (N : Int)) = 2 * (N : Int):=by rw [IntKind.wrap_i64]; omega
  by_cases c1 : k < m /\ 2 * N <= n /\ 2 * N <= n'
  ·obtain ⟨c1,c2,c3⟩:=c1
   have q1 : decide ((k : Int) < (m : Int)) = true:=decide_eq_true (by omega)
   have q2 : decide (2 * (N : Int) <= (n : Int)) = true:=decide_eq_true (by omega)
   have q3 : decide (2 * (N : Int) <= (n' : Int)) = true:=decide_eq_true (by omega)
   have HN2 : Hid (2 * N = 2 ^ (j + 1)):=Hd (by rw [Nat.pow_succ',<- HNK.out])
   have HN3 : Hid (2 * N <= 16384):=Hd (by
    rw [HN2.out]
    exact Nat.pow_le_pow_right (by decide) (show j + 1 <= 14 by omega))
   go_wp2_with fail
   exact ⟨⟨k + 1,j + 1,2 * N,by go_num,by go_num,c1,by omega,HN3.out,HN2,Hd (.inr ⟨c2,c3⟩),Hd trivial⟩,by simp [intOf]; omega⟩
  ·have HKJ : Hid (j <= m):=Hd (by omega)
   have hcond : (k < m /\ 2 * N <= n /\ ¬ 2 * N <= n') \/ (k < m /\ ¬ 2 * N <= n) \/ ¬ k < m:=by omega
   have hmk:=fun u : World=>run_makeL u N hN
   have h1:=LRow.alloc w w.heap.size N (Nat.le_refl _) (by simp only [maxLen]; omega)
   have hb1:=(Below.refl w.heap.size w).alloc (Nat.le_refl _) (.cells (madeCells #[.int .i64 0] N) 2)
   have h2:=LRow.alloc (w.alloc (.cells (madeCells #[.int .i64 0] N) 2)) w.heap.size N hb1.size (by simp only [maxLen]; omega)
   have hb2:=(Below.refl (w.alloc (.cells (madeCells #[.int .i64 0] N) 2)).heap.size (w.alloc (.cells (madeCells #[.int .i64 0] N) 2))).alloc (Nat.le_refl _) (.cells (madeCells #[.int .i64 0] N) 2)
   rw [show (w.alloc (.cells (madeCells #[.int .i64 0] N) 2)).heap.size = w.heap.size + 1 by simp] at h2
   have h1' : LRow ((w.alloc (.cells (madeCells #[.int .i64 0] N) 2)).alloc (.cells (madeCells #[.int .i64 0] N) 2)) w.heap.size w.heap.size N (List.replicate N 0):=RowV.below h1 hb2
   have HR1 : Hid (LRow ((w.alloc (.cells (madeCells #[.int .i64 0] N) 2)).alloc (.cells (madeCells #[.int .i64 0] N) 2)).drew w.heap.size w.heap.size N (List.replicate N 0)):=Hd h1'
   have HR2 : Hid (LRow ((w.alloc (.cells (madeCells #[.int .i64 0] N) 2)).alloc (.cells (madeCells #[.int .i64 0] N) 2)).drew w.heap.size (w.heap.size + 1) N (List.replicate N 0)):=Hd h2
   have HB0:=Hd (below_drew (hb1.trans (hb2.mono hb1.size)))
   clear h1 h1' hb1 h2 hb2
   clear c1
   rcases hcond with ⟨p1,p2,p3⟩ | ⟨p1,p2⟩ | p1
   ·have g1 : (k : Int) < (m : Int):=by omega
    have g2 : 2 * (N : Int) <= (n : Int):=by omega
    have g3 : ¬ 2 * (N : Int) <= (n' : Int):=by omega
    have g4 : (n' : Int) < 2 * (N : Int):=by omega
    go_wp2_with fail
    clear d2
    go_region
    ·obtain ⟨W,hW⟩ : ∃ W,W = ((w.alloc (.cells (madeCells #[.int .i64 0] N) 2)).alloc (.cells (madeCells #[.int .i64 0] N) 2)).drew:=⟨_,rfl⟩
     obtain ⟨ga,hga⟩ : ∃ ga,ga = w.heap.size:=⟨_,rfl⟩
     obtain ⟨gb,hgb⟩ : ∃ gb,gb = w.heap.size + 1:=⟨_,rfl⟩
     have R1 : Hid (LRow W w.heap.size ga N (List.replicate N 0)):=Hd (by rw [hW,hga]; exact HR1.out)
     have R2 : Hid (LRow W w.heap.size gb N (List.replicate N 0)):=Hd (by rw [hW,hgb]; exact HR2.out)
     have B1 : Hid (Below w.heap.size w W):=Hd (by rw [hW]; exact HB0.out)
     have ba : w.heap.size <= ga:=by omega
     have bb : w.heap.size <= gb:=by omega
     have hne : ga ≠ gb:=by omega
     rw [<- hW,<- hgb,<- hga]
     clear hW hga hgb HR1 HR2 HB0 hmk
     have hca:=R1.out.heap
     have HCB:=Hd R2.out.heap
     have hla : ((a.take N).map (Value.int .i64)).length = Nat.min n N:=by rw [List.length_map,List.length_take,HA.out.1]; exact Nat.min_comm _ _
     have hsa:=(HA.out.below B1.out).src N ga
     have hfa : 0 + ((a.take N).map (Value.int .i64)).length <= ((List.replicate N (0 : Int)).map (Value.int .i64)).length:=by simp; omega
     have hoa : ∀ v ∈ (a.take N).map (Value.int .i64),v.oneCell' = true:=fun v hv=>by obtain ⟨z,_,rfl⟩:=List.mem_map.1 hv; rfl
     have HFA:=Hd (firsts_splice a N)
     have HFB:=Hd (firsts_splice b N)
     have HFZ0 : Hid (0 + ((b.take N).map (Value.int .i64)).length <= ((List.replicate N (0 : Int)).map (Value.int .i64)).length):=Hd (by simp; omega)
     obtain ⟨Y,hY⟩ : ∃ Y,Y = (List.replicate N (0 : Int)).map (Value.int .i64):=⟨_,rfl⟩
     rw [<- hY] at hca HCB hfa HFA HFB HFZ0
     obtain ⟨X,hX⟩ : ∃ X,X = (a.take N).map (Value.int .i64):=⟨_,rfl⟩
     rw [<- hX] at hla hsa hfa hoa HFA
     obtain ⟨Z,hZ⟩ : ∃ Z,Z = (b.take N).map (Value.int .i64):=⟨_,rfl⟩
     have HLZ : Hid (Z.length = Nat.min n' N):=Hd (by rw [hZ,List.length_map,List.length_take,HB.out.1]; exact Nat.min_comm _ _)
     have HOZ : Hid (∀ v ∈ Z,v.oneCell' = true):=Hd (fun v hv=>by rw [hZ] at hv; obtain ⟨z,_,rfl⟩:=List.mem_map.1 hv; rfl)
     have HSZ : Hid (∀ u,Below w.heap.size w u -> (0 < Z.length -> (some ⟨gb,0,none⟩ : Option Addr) = some ⟨gb,0,none⟩ /\ ∃ ad,B = some ad /\ ∀ j v,Z[j]? = some v -> u.cell? (ad.add j) = some v)):=Hd (fun u hu=>by rw [hZ]; exact (HB.out.below hu).src N gb)
     rw [<- hZ] at HFB HFZ0
     have hsz1 : (Tryz.prog.info? 2).map (·.size) = some 1:=by kernel_rfl
     clear hY hX hZ
     go_wp2_with (first
      | (refine wpList_copy_more (o:=⟨some 39,_,_,_,_,_⟩) rfl (.tmp 37) (.tmp 38) 22 22 rfl 2 Tryz.underlying22 hsz1 (some ⟨ga,0,none⟩) A N N n c rfl rfl ga 0 Y _ hca X hla hsa hfa hoa w.heap.size w B1.out ba ?_; intro w3 H3 K3 b3; have B3:=Hd b3; have hcb:=(K3.out gb (Ne.symm hne)).trans HCB.out; have hlz:=HLZ.out; have hoz:=HOZ.out; have hfz:=HFZ0.out; have hsb:=HSZ.out w3 b3; have HKA:=Hd (fun (w4 : World) (h4 : ∀ k,k ≠ gb -> w4.heap[k]? = w3.heap[k]?)=>(h4 ga hne).trans H3.out); clear hla hsa hfa hoa K3 b3 H3)
      | (refine wpList_copy_more (o:=⟨some 42,_,_,_,_,_⟩) rfl (.tmp 40) (.tmp 41) 22 22 rfl 2 Tryz.underlying22 hsz1 (some ⟨gb,0,none⟩) B N N n' c' rfl rfl gb 0 Y _ hcb Z hlz hsb hfz hoz w.heap.size w B3.out bb ?_; intro w4 H4 K4 b4; have B4:=Hd b4; have ha4:=Hd (HKA.out w4 K4.out); clear hlz hsb hfz hoz K4 b4))
     go_ret2
     have e1:=ha4.out
     have e2:=H4.out
     rw [HFA.out] at e1
     rw [HFB.out] at e2
     exact ⟨j,N,ga,gb,firsts a N,firsts b N,HKJ.out,HNK.out,rfl,LRow.ofHeap ba (firsts_len a N) (by simp only [maxLen]; omega) e1,LRow.ofHeap bb (firsts_len b N) (by simp only [maxLen]; omega) e2,firsts_64 HLA.out N,firsts_64 HLB.out N,hne,B4.out⟩
    ·obtain ⟨W,hW⟩ : ∃ W,W = ((w.alloc (.cells (madeCells #[.int .i64 0] N) 2)).alloc (.cells (madeCells #[.int .i64 0] N) 2)).drew:=⟨_,rfl⟩
     obtain ⟨ga,hga⟩ : ∃ ga,ga = w.heap.size + 1:=⟨_,rfl⟩
     obtain ⟨gb,hgb⟩ : ∃ gb,gb = w.heap.size:=⟨_,rfl⟩
     have R1 : Hid (LRow W w.heap.size ga N (List.replicate N 0)):=Hd (by rw [hW,hga]; exact HR2.out)
     have R2 : Hid (LRow W w.heap.size gb N (List.replicate N 0)):=Hd (by rw [hW,hgb]; exact HR1.out)
     have B1 : Hid (Below w.heap.size w W):=Hd (by rw [hW]; exact HB0.out)
     have ba : w.heap.size <= ga:=by omega
     have bb : w.heap.size <= gb:=by omega
     have hne : ga ≠ gb:=by omega
     rw [<- hW,<- hga,<- hgb]
     clear hW hga hgb HR1 HR2 HB0 hmk
     have hca:=R1.out.heap
     have HCB:=Hd R2.out.heap
     have hla : ((a.take N).map (Value.int .i64)).length = Nat.min n N:=by rw [List.length_map,List.length_take,HA.out.1]; exact Nat.min_comm _ _
     have hsa:=(HA.out.below B1.out).src N ga
     have hfa : 0 + ((a.take N).map (Value.int .i64)).length <= ((List.replicate N (0 : Int)).map (Value.int .i64)).length:=by simp; omega
     have hoa : ∀ v ∈ (a.take N).map (Value.int .i64),v.oneCell' = true:=fun v hv=>by obtain ⟨z,_,rfl⟩:=List.mem_map.1 hv; rfl
     have HFA:=Hd (firsts_splice a N)
     have HFB:=Hd (firsts_splice b N)
     have HFZ0 : Hid (0 + ((b.take N).map (Value.int .i64)).length <= ((List.replicate N (0 : Int)).map (Value.int .i64)).length):=Hd (by simp; omega)
     obtain ⟨Y,hY⟩ : ∃ Y,Y = (List.replicate N (0 : Int)).map (Value.int .i64):=⟨_,rfl⟩
     rw [<- hY] at hca HCB hfa HFA HFB HFZ0
     obtain ⟨X,hX⟩ : ∃ X,X = (a.take N).map (Value.int .i64):=⟨_,rfl⟩
     rw [<- hX] at hla hsa hfa hoa HFA
     obtain ⟨Z,hZ⟩ : ∃ Z,Z = (b.take N).map (Value.int .i64):=⟨_,rfl⟩
     have HLZ : Hid (Z.length = Nat.min n' N):=Hd (by rw [hZ,List.length_map,List.length_take,HB.out.1]; exact Nat.min_comm _ _)
     have HOZ : Hid (∀ v ∈ Z,v.oneCell' = true):=Hd (fun v hv=>by rw [hZ] at hv; obtain ⟨z,_,rfl⟩:=List.mem_map.1 hv; rfl)
     have HSZ : Hid (∀ u,Below w.heap.size w u -> (0 < Z.length -> (some ⟨gb,0,none⟩ : Option Addr) = some ⟨gb,0,none⟩ /\ ∃ ad,B = some ad /\ ∀ j v,Z[j]? = some v -> u.cell? (ad.add j) = some v)):=Hd (fun u hu=>by rw [hZ]; exact (HB.out.below hu).src N gb)
     rw [<- hZ] at HFB HFZ0
     have hsz1 : (Tryz.prog.info? 2).map (·.size) = some 1:=by kernel_rfl
     clear hY hX hZ
     go_wp2_with (first
      | (refine wpList_copy_more (o:=⟨some 39,_,_,_,_,_⟩) rfl (.tmp 37) (.tmp 38) 22 22 rfl 2 Tryz.underlying22 hsz1 (some ⟨ga,0,none⟩) A N N n c rfl rfl ga 0 Y _ hca X hla hsa hfa hoa w.heap.size w B1.out ba ?_; intro w3 H3 K3 b3; have B3:=Hd b3; have hcb:=(K3.out gb (Ne.symm hne)).trans HCB.out; have hlz:=HLZ.out; have hoz:=HOZ.out; have hfz:=HFZ0.out; have hsb:=HSZ.out w3 b3; have HKA:=Hd (fun (w4 : World) (h4 : ∀ k,k ≠ gb -> w4.heap[k]? = w3.heap[k]?)=>(h4 ga hne).trans H3.out); clear hla hsa hfa hoa K3 b3 H3)
      | (refine wpList_copy_more (o:=⟨some 42,_,_,_,_,_⟩) rfl (.tmp 40) (.tmp 41) 22 22 rfl 2 Tryz.underlying22 hsz1 (some ⟨gb,0,none⟩) B N N n' c' rfl rfl gb 0 Y _ hcb Z hlz hsb hfz hoz w.heap.size w B3.out bb ?_; intro w4 H4 K4 b4; have B4:=Hd b4; have ha4:=Hd (HKA.out w4 K4.out); clear hlz hsb hfz hoz K4 b4))
     go_ret2
     have e1:=ha4.out
     have e2:=H4.out
     rw [HFA.out] at e1
     rw [HFB.out] at e2
     exact ⟨j,N,ga,gb,firsts a N,firsts b N,HKJ.out,HNK.out,rfl,LRow.ofHeap ba (firsts_len a N) (by simp only [maxLen]; omega) e1,LRow.ofHeap bb (firsts_len b N) (by simp only [maxLen]; omega) e2,firsts_64 HLA.out N,firsts_64 HLB.out N,hne,B4.out⟩
   ·have g1 : (k : Int) < (m : Int):=by omega
    have g2 : ¬ 2 * (N : Int) <= (n : Int):=by omega
    have g4 : (n : Int) < 2 * (N : Int):=by omega
    go_wp2_with fail
    clear d2
    go_region
    ·obtain ⟨W,hW⟩ : ∃ W,W = ((w.alloc (.cells (madeCells #[.int .i64 0] N) 2)).alloc (.cells (madeCells #[.int .i64 0] N) 2)).drew:=⟨_,rfl⟩
     obtain ⟨ga,hga⟩ : ∃ ga,ga = w.heap.size:=⟨_,rfl⟩
     obtain ⟨gb,hgb⟩ : ∃ gb,gb = w.heap.size + 1:=⟨_,rfl⟩
     have R1 : Hid (LRow W w.heap.size ga N (List.replicate N 0)):=Hd (by rw [hW,hga]; exact HR1.out)
     have R2 : Hid (LRow W w.heap.size gb N (List.replicate N 0)):=Hd (by rw [hW,hgb]; exact HR2.out)
     have B1 : Hid (Below w.heap.size w W):=Hd (by rw [hW]; exact HB0.out)
     have ba : w.heap.size <= ga:=by omega
     have bb : w.heap.size <= gb:=by omega
     have hne : ga ≠ gb:=by omega
     rw [<- hW,<- hgb,<- hga]
     clear hW hga hgb HR1 HR2 HB0 hmk
     have hca:=R1.out.heap
     have HCB:=Hd R2.out.heap
     have hla : ((a.take N).map (Value.int .i64)).length = Nat.min n N:=by rw [List.length_map,List.length_take,HA.out.1]; exact Nat.min_comm _ _
     have hsa:=(HA.out.below B1.out).src N ga
     have hfa : 0 + ((a.take N).map (Value.int .i64)).length <= ((List.replicate N (0 : Int)).map (Value.int .i64)).length:=by simp; omega
     have hoa : ∀ v ∈ (a.take N).map (Value.int .i64),v.oneCell' = true:=fun v hv=>by obtain ⟨z,_,rfl⟩:=List.mem_map.1 hv; rfl
     have HFA:=Hd (firsts_splice a N)
     have HFB:=Hd (firsts_splice b N)
     have HFZ0 : Hid (0 + ((b.take N).map (Value.int .i64)).length <= ((List.replicate N (0 : Int)).map (Value.int .i64)).length):=Hd (by simp; omega)
     obtain ⟨Y,hY⟩ : ∃ Y,Y = (List.replicate N (0 : Int)).map (Value.int .i64):=⟨_,rfl⟩
     rw [<- hY] at hca HCB hfa HFA HFB HFZ0
     obtain ⟨X,hX⟩ : ∃ X,X = (a.take N).map (Value.int .i64):=⟨_,rfl⟩
     rw [<- hX] at hla hsa hfa hoa HFA
     obtain ⟨Z,hZ⟩ : ∃ Z,Z = (b.take N).map (Value.int .i64):=⟨_,rfl⟩
     have HLZ : Hid (Z.length = Nat.min n' N):=Hd (by rw [hZ,List.length_map,List.length_take,HB.out.1]; exact Nat.min_comm _ _)
     have HOZ : Hid (∀ v ∈ Z,v.oneCell' = true):=Hd (fun v hv=>by rw [hZ] at hv; obtain ⟨z,_,rfl⟩:=List.mem_map.1 hv; rfl)
     have HSZ : Hid (∀ u,Below w.heap.size w u -> (0 < Z.length -> (some ⟨gb,0,none⟩ : Option Addr) = some ⟨gb,0,none⟩ /\ ∃ ad,B = some ad /\ ∀ j v,Z[j]? = some v -> u.cell? (ad.add j) = some v)):=Hd (fun u hu=>by rw [hZ]; exact (HB.out.below hu).src N gb)
     rw [<- hZ] at HFB HFZ0
     have hsz1 : (Tryz.prog.info? 2).map (·.size) = some 1:=by kernel_rfl
     clear hY hX hZ
     go_wp2_with (first
      | (refine wpList_copy_more (o:=⟨some 39,_,_,_,_,_⟩) rfl (.tmp 37) (.tmp 38) 22 22 rfl 2 Tryz.underlying22 hsz1 (some ⟨ga,0,none⟩) A N N n c rfl rfl ga 0 Y _ hca X hla hsa hfa hoa w.heap.size w B1.out ba ?_; intro w3 H3 K3 b3; have B3:=Hd b3; have hcb:=(K3.out gb (Ne.symm hne)).trans HCB.out; have hlz:=HLZ.out; have hoz:=HOZ.out; have hfz:=HFZ0.out; have hsb:=HSZ.out w3 b3; have HKA:=Hd (fun (w4 : World) (h4 : ∀ k,k ≠ gb -> w4.heap[k]? = w3.heap[k]?)=>(h4 ga hne).trans H3.out); clear hla hsa hfa hoa K3 b3 H3)
      | (refine wpList_copy_more (o:=⟨some 42,_,_,_,_,_⟩) rfl (.tmp 40) (.tmp 41) 22 22 rfl 2 Tryz.underlying22 hsz1 (some ⟨gb,0,none⟩) B N N n' c' rfl rfl gb 0 Y _ hcb Z hlz hsb hfz hoz w.heap.size w B3.out bb ?_; intro w4 H4 K4 b4; have B4:=Hd b4; have ha4:=Hd (HKA.out w4 K4.out); clear hlz hsb hfz hoz K4 b4))
     go_ret2
     have e1:=ha4.out
     have e2:=H4.out
     rw [HFA.out] at e1
     rw [HFB.out] at e2
     exact ⟨j,N,ga,gb,firsts a N,firsts b N,HKJ.out,HNK.out,rfl,LRow.ofHeap ba (firsts_len a N) (by simp only [maxLen]; omega) e1,LRow.ofHeap bb (firsts_len b N) (by simp only [maxLen]; omega) e2,firsts_64 HLA.out N,firsts_64 HLB.out N,hne,B4.out⟩
    ·obtain ⟨W,hW⟩ : ∃ W,W = ((w.alloc (.cells (madeCells #[.int .i64 0] N) 2)).alloc (.cells (madeCells #[.int .i64 0] N) 2)).drew:=⟨_,rfl⟩
     obtain ⟨ga,hga⟩ : ∃ ga,ga = w.heap.size + 1:=⟨_,rfl⟩
     obtain ⟨gb,hgb⟩ : ∃ gb,gb = w.heap.size:=⟨_,rfl⟩
     have R1 : Hid (LRow W w.heap.size ga N (List.replicate N 0)):=Hd (by rw [hW,hga]; exact HR2.out)
     have R2 : Hid (LRow W w.heap.size gb N (List.replicate N 0)):=Hd (by rw [hW,hgb]; exact HR1.out)
     have B1 : Hid (Below w.heap.size w W):=Hd (by rw [hW]; exact HB0.out)
     have ba : w.heap.size <= ga:=by omega
     have bb : w.heap.size <= gb:=by omega
     have hne : ga ≠ gb:=by omega
     rw [<- hW,<- hga,<- hgb]
     clear hW hga hgb HR1 HR2 HB0 hmk
     have hca:=R1.out.heap
     have HCB:=Hd R2.out.heap
     have hla : ((a.take N).map (Value.int .i64)).length = Nat.min n N:=by rw [List.length_map,List.length_take,HA.out.1]; exact Nat.min_comm _ _
     have hsa:=(HA.out.below B1.out).src N ga
     have hfa : 0 + ((a.take N).map (Value.int .i64)).length <= ((List.replicate N (0 : Int)).map (Value.int .i64)).length:=by simp; omega
     have hoa : ∀ v ∈ (a.take N).map (Value.int .i64),v.oneCell' = true:=fun v hv=>by obtain ⟨z,_,rfl⟩:=List.mem_map.1 hv; rfl
     have HFA:=Hd (firsts_splice a N)
     have HFB:=Hd (firsts_splice b N)
     have HFZ0 : Hid (0 + ((b.take N).map (Value.int .i64)).length <= ((List.replicate N (0 : Int)).map (Value.int .i64)).length):=Hd (by simp; omega)
     obtain ⟨Y,hY⟩ : ∃ Y,Y = (List.replicate N (0 : Int)).map (Value.int .i64):=⟨_,rfl⟩
     rw [<- hY] at hca HCB hfa HFA HFB HFZ0
     obtain ⟨X,hX⟩ : ∃ X,X = (a.take N).map (Value.int .i64):=⟨_,rfl⟩
     rw [<- hX] at hla hsa hfa hoa HFA
     obtain ⟨Z,hZ⟩ : ∃ Z,Z = (b.take N).map (Value.int .i64):=⟨_,rfl⟩
     have HLZ : Hid (Z.length = Nat.min n' N):=Hd (by rw [hZ,List.length_map,List.length_take,HB.out.1]; exact Nat.min_comm _ _)
     have HOZ : Hid (∀ v ∈ Z,v.oneCell' = true):=Hd (fun v hv=>by rw [hZ] at hv; obtain ⟨z,_,rfl⟩:=List.mem_map.1 hv; rfl)
     have HSZ : Hid (∀ u,Below w.heap.size w u -> (0 < Z.length -> (some ⟨gb,0,none⟩ : Option Addr) = some ⟨gb,0,none⟩ /\ ∃ ad,B = some ad /\ ∀ j v,Z[j]? = some v -> u.cell? (ad.add j) = some v)):=Hd (fun u hu=>by rw [hZ]; exact (HB.out.below hu).src N gb)
     rw [<- hZ] at HFB HFZ0
     have hsz1 : (Tryz.prog.info? 2).map (·.size) = some 1:=by kernel_rfl
     clear hY hX hZ
     go_wp2_with (first
      | (refine wpList_copy_more (o:=⟨some 39,_,_,_,_,_⟩) rfl (.tmp 37) (.tmp 38) 22 22 rfl 2 Tryz.underlying22 hsz1 (some ⟨ga,0,none⟩) A N N n c rfl rfl ga 0 Y _ hca X hla hsa hfa hoa w.heap.size w B1.out ba ?_; intro w3 H3 K3 b3; have B3:=Hd b3; have hcb:=(K3.out gb (Ne.symm hne)).trans HCB.out; have hlz:=HLZ.out; have hoz:=HOZ.out; have hfz:=HFZ0.out; have hsb:=HSZ.out w3 b3; have HKA:=Hd (fun (w4 : World) (h4 : ∀ k,k ≠ gb -> w4.heap[k]? = w3.heap[k]?)=>(h4 ga hne).trans H3.out); clear hla hsa hfa hoa K3 b3 H3)
      | (refine wpList_copy_more (o:=⟨some 42,_,_,_,_,_⟩) rfl (.tmp 40) (.tmp 41) 22 22 rfl 2 Tryz.underlying22 hsz1 (some ⟨gb,0,none⟩) B N N n' c' rfl rfl gb 0 Y _ hcb Z hlz hsb hfz hoz w.heap.size w B3.out bb ?_; intro w4 H4 K4 b4; have B4:=Hd b4; have ha4:=Hd (HKA.out w4 K4.out); clear hlz hsb hfz hoz K4 b4))
     go_ret2
     have e1:=ha4.out
     have e2:=H4.out
     rw [HFA.out] at e1
     rw [HFB.out] at e2
     exact ⟨j,N,ga,gb,firsts a N,firsts b N,HKJ.out,HNK.out,rfl,LRow.ofHeap ba (firsts_len a N) (by simp only [maxLen]; omega) e1,LRow.ofHeap bb (firsts_len b N) (by simp only [maxLen]; omega) e2,firsts_64 HLA.out N,firsts_64 HLB.out N,hne,B4.out⟩
   ·have g1 : ¬ (k : Int) < (m : Int):=by omega
    go_wp2_with fail
    clear d2
    go_region
    ·obtain ⟨W,hW⟩ : ∃ W,W = ((w.alloc (.cells (madeCells #[.int .i64 0] N) 2)).alloc (.cells (madeCells #[.int .i64 0] N) 2)).drew:=⟨_,rfl⟩
     obtain ⟨ga,hga⟩ : ∃ ga,ga = w.heap.size:=⟨_,rfl⟩
     obtain ⟨gb,hgb⟩ : ∃ gb,gb = w.heap.size + 1:=⟨_,rfl⟩
     have R1 : Hid (LRow W w.heap.size ga N (List.replicate N 0)):=Hd (by rw [hW,hga]; exact HR1.out)
     have R2 : Hid (LRow W w.heap.size gb N (List.replicate N 0)):=Hd (by rw [hW,hgb]; exact HR2.out)
     have B1 : Hid (Below w.heap.size w W):=Hd (by rw [hW]; exact HB0.out)
     have ba : w.heap.size <= ga:=by omega
     have bb : w.heap.size <= gb:=by omega
     have hne : ga ≠ gb:=by omega
     rw [<- hW,<- hgb,<- hga]
     clear hW hga hgb HR1 HR2 HB0 hmk
     have hca:=R1.out.heap
     have HCB:=Hd R2.out.heap
     have hla : ((a.take N).map (Value.int .i64)).length = Nat.min n N:=by rw [List.length_map,List.length_take,HA.out.1]; exact Nat.min_comm _ _
     have hsa:=(HA.out.below B1.out).src N ga
     have hfa : 0 + ((a.take N).map (Value.int .i64)).length <= ((List.replicate N (0 : Int)).map (Value.int .i64)).length:=by simp; omega
     have hoa : ∀ v ∈ (a.take N).map (Value.int .i64),v.oneCell' = true:=fun v hv=>by obtain ⟨z,_,rfl⟩:=List.mem_map.1 hv; rfl
     have HFA:=Hd (firsts_splice a N)
     have HFB:=Hd (firsts_splice b N)
     have HFZ0 : Hid (0 + ((b.take N).map (Value.int .i64)).length <= ((List.replicate N (0 : Int)).map (Value.int .i64)).length):=Hd (by simp; omega)
     obtain ⟨Y,hY⟩ : ∃ Y,Y = (List.replicate N (0 : Int)).map (Value.int .i64):=⟨_,rfl⟩
     rw [<- hY] at hca HCB hfa HFA HFB HFZ0
     obtain ⟨X,hX⟩ : ∃ X,X = (a.take N).map (Value.int .i64):=⟨_,rfl⟩
     rw [<- hX] at hla hsa hfa hoa HFA
     obtain ⟨Z,hZ⟩ : ∃ Z,Z = (b.take N).map (Value.int .i64):=⟨_,rfl⟩
     have HLZ : Hid (Z.length = Nat.min n' N):=Hd (by rw [hZ,List.length_map,List.length_take,HB.out.1]; exact Nat.min_comm _ _)
     have HOZ : Hid (∀ v ∈ Z,v.oneCell' = true):=Hd (fun v hv=>by rw [hZ] at hv; obtain ⟨z,_,rfl⟩:=List.mem_map.1 hv; rfl)
     have HSZ : Hid (∀ u,Below w.heap.size w u -> (0 < Z.length -> (some ⟨gb,0,none⟩ : Option Addr) = some ⟨gb,0,none⟩ /\ ∃ ad,B = some ad /\ ∀ j v,Z[j]? = some v -> u.cell? (ad.add j) = some v)):=Hd (fun u hu=>by rw [hZ]; exact (HB.out.below hu).src N gb)
     rw [<- hZ] at HFB HFZ0
     have hsz1 : (Tryz.prog.info? 2).map (·.size) = some 1:=by kernel_rfl
     clear hY hX hZ
     go_wp2_with (first
      | (refine wpList_copy_more (o:=⟨some 39,_,_,_,_,_⟩) rfl (.tmp 37) (.tmp 38) 22 22 rfl 2 Tryz.underlying22 hsz1 (some ⟨ga,0,none⟩) A N N n c rfl rfl ga 0 Y _ hca X hla hsa hfa hoa w.heap.size w B1.out ba ?_; intro w3 H3 K3 b3; have B3:=Hd b3; have hcb:=(K3.out gb (Ne.symm hne)).trans HCB.out; have hlz:=HLZ.out; have hoz:=HOZ.out; have hfz:=HFZ0.out; have hsb:=HSZ.out w3 b3; have HKA:=Hd (fun (w4 : World) (h4 : ∀ k,k ≠ gb -> w4.heap[k]? = w3.heap[k]?)=>(h4 ga hne).trans H3.out); clear hla hsa hfa hoa K3 b3 H3)
      | (refine wpList_copy_more (o:=⟨some 42,_,_,_,_,_⟩) rfl (.tmp 40) (.tmp 41) 22 22 rfl 2 Tryz.underlying22 hsz1 (some ⟨gb,0,none⟩) B N N n' c' rfl rfl gb 0 Y _ hcb Z hlz hsb hfz hoz w.heap.size w B3.out bb ?_; intro w4 H4 K4 b4; have B4:=Hd b4; have ha4:=Hd (HKA.out w4 K4.out); clear hlz hsb hfz hoz K4 b4))
     go_ret2
     have e1:=ha4.out
     have e2:=H4.out
     rw [HFA.out] at e1
     rw [HFB.out] at e2
     exact ⟨j,N,ga,gb,firsts a N,firsts b N,HKJ.out,HNK.out,rfl,LRow.ofHeap ba (firsts_len a N) (by simp only [maxLen]; omega) e1,LRow.ofHeap bb (firsts_len b N) (by simp only [maxLen]; omega) e2,firsts_64 HLA.out N,firsts_64 HLB.out N,hne,B4.out⟩
    ·obtain ⟨W,hW⟩ : ∃ W,W = ((w.alloc (.cells (madeCells #[.int .i64 0] N) 2)).alloc (.cells (madeCells #[.int .i64 0] N) 2)).drew:=⟨_,rfl⟩
     obtain ⟨ga,hga⟩ : ∃ ga,ga = w.heap.size + 1:=⟨_,rfl⟩
     obtain ⟨gb,hgb⟩ : ∃ gb,gb = w.heap.size:=⟨_,rfl⟩
     have R1 : Hid (LRow W w.heap.size ga N (List.replicate N 0)):=Hd (by rw [hW,hga]; exact HR2.out)
     have R2 : Hid (LRow W w.heap.size gb N (List.replicate N 0)):=Hd (by rw [hW,hgb]; exact HR1.out)
     have B1 : Hid (Below w.heap.size w W):=Hd (by rw [hW]; exact HB0.out)
     have ba : w.heap.size <= ga:=by omega
     have bb : w.heap.size <= gb:=by omega
     have hne : ga ≠ gb:=by omega
     rw [<- hW,<- hga,<- hgb]
     clear hW hga hgb HR1 HR2 HB0 hmk
     have hca:=R1.out.heap
     have HCB:=Hd R2.out.heap
     have hla : ((a.take N).map (Value.int .i64)).length = Nat.min n N:=by rw [List.length_map,List.length_take,HA.out.1]; exact Nat.min_comm _ _
     have hsa:=(HA.out.below B1.out).src N ga
     have hfa : 0 + ((a.take N).map (Value.int .i64)).length <= ((List.replicate N (0 : Int)).map (Value.int .i64)).length:=by simp; omega
     have hoa : ∀ v ∈ (a.take N).map (Value.int .i64),v.oneCell' = true:=fun v hv=>by obtain ⟨z,_,rfl⟩:=List.mem_map.1 hv; rfl
     have HFA:=Hd (firsts_splice a N)
     have HFB:=Hd (firsts_splice b N)
     have HFZ0 : Hid (0 + ((b.take N).map (Value.int .i64)).length <= ((List.replicate N (0 : Int)).map (Value.int .i64)).length):=Hd (by simp; omega)
     obtain ⟨Y,hY⟩ : ∃ Y,Y = (List.replicate N (0 : Int)).map (Value.int .i64):=⟨_,rfl⟩
     rw [<- hY] at hca HCB hfa HFA HFB HFZ0
     obtain ⟨X,hX⟩ : ∃ X,X = (a.take N).map (Value.int .i64):=⟨_,rfl⟩
     rw [<- hX] at hla hsa hfa hoa HFA
     obtain ⟨Z,hZ⟩ : ∃ Z,Z = (b.take N).map (Value.int .i64):=⟨_,rfl⟩
     have HLZ : Hid (Z.length = Nat.min n' N):=Hd (by rw [hZ,List.length_map,List.length_take,HB.out.1]; exact Nat.min_comm _ _)
     have HOZ : Hid (∀ v ∈ Z,v.oneCell' = true):=Hd (fun v hv=>by rw [hZ] at hv; obtain ⟨z,_,rfl⟩:=List.mem_map.1 hv; rfl)
     have HSZ : Hid (∀ u,Below w.heap.size w u -> (0 < Z.length -> (some ⟨gb,0,none⟩ : Option Addr) = some ⟨gb,0,none⟩ /\ ∃ ad,B = some ad /\ ∀ j v,Z[j]? = some v -> u.cell? (ad.add j) = some v)):=Hd (fun u hu=>by rw [hZ]; exact (HB.out.below hu).src N gb)
     rw [<- hZ] at HFB HFZ0
     have hsz1 : (Tryz.prog.info? 2).map (·.size) = some 1:=by kernel_rfl
     clear hY hX hZ
     go_wp2_with (first
      | (refine wpList_copy_more (o:=⟨some 39,_,_,_,_,_⟩) rfl (.tmp 37) (.tmp 38) 22 22 rfl 2 Tryz.underlying22 hsz1 (some ⟨ga,0,none⟩) A N N n c rfl rfl ga 0 Y _ hca X hla hsa hfa hoa w.heap.size w B1.out ba ?_; intro w3 H3 K3 b3; have B3:=Hd b3; have hcb:=(K3.out gb (Ne.symm hne)).trans HCB.out; have hlz:=HLZ.out; have hoz:=HOZ.out; have hfz:=HFZ0.out; have hsb:=HSZ.out w3 b3; have HKA:=Hd (fun (w4 : World) (h4 : ∀ k,k ≠ gb -> w4.heap[k]? = w3.heap[k]?)=>(h4 ga hne).trans H3.out); clear hla hsa hfa hoa K3 b3 H3)
      | (refine wpList_copy_more (o:=⟨some 42,_,_,_,_,_⟩) rfl (.tmp 40) (.tmp 41) 22 22 rfl 2 Tryz.underlying22 hsz1 (some ⟨gb,0,none⟩) B N N n' c' rfl rfl gb 0 Y _ hcb Z hlz hsb hfz hoz w.heap.size w B3.out bb ?_; intro w4 H4 K4 b4; have B4:=Hd b4; have ha4:=Hd (HKA.out w4 K4.out); clear hlz hsb hfz hoz K4 b4))
     go_ret2
     have e1:=ha4.out
     have e2:=H4.out
     rw [HFA.out] at e1
     rw [HFB.out] at e2
     exact ⟨j,N,ga,gb,firsts a N,firsts b N,HKJ.out,HNK.out,rfl,LRow.ofHeap ba (firsts_len a N) (by simp only [maxLen]; omega) e1,LRow.ofHeap bb (firsts_len b N) (by simp only [maxLen]; omega) e2,firsts_64 HLA.out N,firsts_64 HLB.out N,hne,B4.out⟩
end
section
open Go.RowKit
open Fl in
theorem bf_order {K : Nat} {a b : List Int} (hK : K <= 14) (oa : okL a) (ob : okL b) :
  FloatKind.f64.format.order (bfL K a b) 0 = some .gt /\
  (ltL K a b = false -> FloatKind.f64.format.order (bfL K a b) 4598175219545276416 = some .gt \/ FloatKind.f64.format.order (bfL K a b) 4598175219545276416 = some .eq) /\
  (ltL K a b = true -> FloatKind.f64.format.order (bfL K a b) 4598175219545276416 = some .lt):=by
 have hf:=(closed_any hK (mx_sz oa) (mx_sz ob)).2.fin hK (mx_sz oa) (mx_sz ob)
 have hsI : rg (bfL K a b) <= I:=Nat.le_of_lt hf.1.1
 have hpos : 0 < key (bfL K a b):=Int.lt_of_lt_of_le (by decide) hf.2.2
 have h1:=order_key (bfL K a b) 0 hsI (by decide)
 have h2:=order_key (bfL K a b) 4598175219545276416 hsI (by decide)
 have k0 : key 0 = 0:=by decide
 rw [k0,compare_int,if_neg (by omega),if_neg (by omega)] at h1
 rw [compare_int] at h2
 refine ⟨h1,fun h=>?_,fun h=>eq_of_beq h⟩
 have h3 : FloatKind.f64.format.order (bfL K a b) 4598175219545276416 = some (if key (bfL K a b) < key 4598175219545276416 then Ordering.lt else if key (bfL K a b) = key 4598175219545276416 then Ordering.eq else Ordering.gt):=h2
 unfold ltL at h
 rw [h3] at h ⊢
 split at h
 ·cases h
 ·rename_i q1
  rw [if_neg q1]
  split
  ·exact .inr rfl
  ·exact .inl rfl
set_option maxRecDepth 100000 in
set_option maxHeartbeats 4000000 in
theorem ringTrue_walk (W : World) (A : Option Addr) (n c : Nat) (a : List Int) (B : Option Addr) (n' c' : Nat) (b : List Int) (hn : n <= 20000000000000) (hn' : n' <= 20000000000000) (ha : UL W A n c a) (la : L64 a) (hb : UL W B n' c' b) (lb : L64 b) (hR : RWd An.PI W) :
  Calls Tryz.prog 4 #[.slice A n c,.slice B n' c'] W fun e w'=>e = .returned (.bool true) /\ Below W.heap.size W w':=by
 have HA:=Hd ha
 have HB:=Hd hb
 have HR:=Hd hR
 have HAW:=Hd (rawake_any W hR)
 have L64A : Hid (L64b a):=Hd (fun x hx=>by have:=la x hx; omega)
 have L64B : Hid (L64b b):=Hd (fun x hx=>by have:=lb x hx; omega)
 clear ha hb hR la lb
 go_enter Tryz.func4,Tryz.ntmps4
 go_wp2_with fail
 refine HAW.out.mono ?_
 rintro e w1 ⟨rfl,b1⟩
 have B1:=Hd b1
 have C1:=Hd (fit_any A B n c n' c' 7 a b w1 (by omega) hn hn' (HA.out.below b1) (HB.out.below b1) L64A.out L64B.out)
 clear b1 HAW
 go_wp2_with fail
 refine C1.out.mono ?_
 intro e w2 h2
 unfold FitPost at h2
 obtain ⟨K,N,g1,g2,x,y,hK,hN,rfl,hx,hy,lx,ly,hne,b2⟩:=h2
 have B2:=Hd (B1.out.trans (b2.mono B1.out.size))
 have HX:=Hd hx.u
 have HY:=Hd hy.u
 have h2K : 2 ^ K <= 2 ^ 7:=Nat.pow_le_pow_right (by decide) hK
 have h1K:=Nat.two_pow_pos K
 have hN1 : 1 <= N:=by omega
 have hN2 : N <= 128:=by omega
 have HOR : Hid (OrdOk N N):=Hd ⟨K,by omega,hN,rfl⟩
 have HCY:=Hd (fun u (hu : Below w2.heap.size w2 u)=>cyclic_full An.PI 8 (some ⟨g1,0,none⟩) (some ⟨g2,0,none⟩) N N N N x y u (by omega) (HX.out.below hu) (HY.out.below hu) (HR.out.below (B2.out.trans (hu.mono B2.out.size))) wheels8 (fun K' hK'=>by have:=pow_inj (K:=K) (K':=K') (by rw [<- hK',hN]); omega))
 have HR2:=Hd (fun u (hu : Below w2.heap.size w2 u)=>HR.out.below (B2.out.trans (hu.mono B2.out.size)))
 have HKN : Hid (K <= 14 /\ N = 2 ^ K):=Hd ⟨by omega,hN⟩
 have LX:=Hd lx
 have LY:=Hd ly
 clear hx hy lx ly b2 C1 B1 h2K h1K hN hne
 by_cases hok : okL x /\ okL y
 ·obtain ⟨oa,ob⟩:=hok
  obtain ⟨f0,f1,f2⟩:=bf_order HKN.out.1 oa ob
  have HBD:=Hd (fun u (hu : Below w2.heap.size w2 u)=>bound_is K N (some ⟨g1,0,none⟩) (some ⟨g2,0,none⟩) N N x y u HKN.out.1 HKN.out.2 (HX.out.below hu) (HY.out.below hu) oa ob (HR2.out u hu).aw.tab)
  cases hlt : ltL K x y with
  | false =>
    have HC8 : Hid (∀ u,Below w2.heap.size w2 u -> Calls Tryz.prog 19 #[.slice (some ⟨g1,0,none⟩) N N,.slice (some ⟨g2,0,none⟩) N N] u fun e w'=>e = .returned (.tuple #[.slice none 0 0,.int .i64 8]) /\ Below u.heap.size u w'):=Hd (fun u hu=>by
     refine (HCY.out u hu).mono ?_
     rintro e w' (⟨h,_⟩ | ⟨_,h,_⟩ | ⟨_,_,K',_,hN',_,h⟩)
     ·exact absurd HOR.out h
     ·exact absurd ⟨oa,ob⟩ h
     ·have e1:=pow_inj (K:=K) (K':=K') (by rw [<- hN',HKN.out.2])
      rw [e1] at h
      rcases h with ⟨_,h2,h3⟩ | ⟨h1,_⟩
      ·exact ⟨h2,h3⟩
      ·rw [hlt] at h1; cases h1)
    have f3:=f1 hlt
    generalize bfL K x y = F at *
    clear f0 f1 f2 hlt oa ob HCY
    rcases f3 with f3 | f3
    all_goals
     go_wp2_with fail
     refine (HBD.out w2 (Below.refl _ _)).mono ?_
     rintro e w3 ⟨rfl,b3⟩
     have B3:=Hd b3
     clear b3
     go_wp2_with fail
     refine (HC8.out w3 B3.out).mono ?_
     rintro e w4 ⟨rfl,b4⟩
     have B4:=Hd (B2.out.trans ((B3.out.trans (b4.mono B3.out.size)).mono B2.out.size))
     clear b4
     go_wp2_with fail
     go_ret
     exact ⟨rfl,B4.out⟩
  | true =>
    obtain ⟨_,_,hsm,_⟩:=told_prod HKN.out.1 (show WhlOk K (wheels8 K (by omega)).choose from (wheels8 K (by omega)).choose_spec.2.2) oa ob (closed_any HKN.out.1 (mx_sz oa) (mx_sz ob)).2 hlt
    have HSM : Hid (∀ p,(cvI x y N p).natAbs < 140737488355328):=Hd (by rw [HKN.out.2]; exact hsm)
    have HC0 : Hid (∀ u,Below w2.heap.size w2 u -> Calls Tryz.prog 19 #[.slice (some ⟨g1,0,none⟩) N N,.slice (some ⟨g2,0,none⟩) N N] u fun e w'=>∃ g,e = .returned (.tuple #[.slice (some ⟨g,0,none⟩) N N,.int .i64 0]) /\ UL w' (some ⟨g,0,none⟩) N N ((List.range N).map (cvI x y N)) /\ Below u.heap.size u w'):=Hd (fun u hu=>by
     refine (HCY.out u hu).mono ?_
     rintro e w' (⟨h,_⟩ | ⟨_,h,_⟩ | ⟨_,_,K',_,hN',_,h⟩)
     ·exact absurd HOR.out h
     ·exact absurd ⟨oa,ob⟩ h
     ·have e1:=pow_inj (K:=K) (K':=K') (by rw [<- hN',HKN.out.2])
      rw [e1] at h
      rcases h with ⟨h1,_⟩ | ⟨_,g,h1,h2,h3⟩
      ·rw [hlt] at h1; cases h1
      ·exact ⟨g,h1,h2.u,h3⟩)
    have HPL : Hid (∀ u,Below w2.heap.size w2 u -> Calls Tryz.prog 13 #[.slice (some ⟨g1,0,none⟩) N N,.slice (some ⟨g2,0,none⟩) N N] u fun e w'=>∃ g,e = .returned (.tuple #[.slice (some ⟨g,0,none⟩) N N,.int .i64 0]) /\ UL w' (some ⟨g,0,none⟩) N N ((List.range N).map (cvI x y N)) /\ Below u.heap.size u w'):=Hd (fun u hu=>by
     refine (rplainly_any K N (some ⟨g1,0,none⟩) (some ⟨g2,0,none⟩) N N x y u HKN.out.1 HKN.out.2 (HX.out.below hu) (HY.out.below hu) LX.out LY.out (HR2.out u hu).aw.tab).mono ?_
     rintro e w' (⟨_,g,h1,h2,h3⟩ | ⟨⟨j,_,h1⟩,_⟩)
     ·exact ⟨g,h1,h2.u,h3⟩
     ·have:=HSM.out j
      unfold sumB at h1
      have:=of_decide_eq_false h1
      omega)
    have f3:=f2 hlt
    generalize bfL K x y = F at *
    clear f1 f2 hlt oa ob HCY hsm
    go_wp2_with fail
    refine (HBD.out w2 (Below.refl _ _)).mono ?_
    rintro e w3 ⟨rfl,b3⟩
    have B3:=Hd b3
    clear b3
    go_wp2_with fail
    refine (HC0.out w3 B3.out).mono ?_
    rintro e w4 ⟨gc,rfl,hc,b4⟩
    have B4:=Hd (B3.out.trans (b4.mono B3.out.size))
    have HC:=Hd hc
    clear b4 hc B3
    go_wp2_with fail
    refine (HPL.out w4 B4.out).mono ?_
    rintro e w5 ⟨gd,rfl,hd,b5⟩
    have B5:=Hd (B4.out.trans (b5.mono B4.out.size))
    have HCC:=Hd (HC.out.below b5)
    have HD:=Hd hd
    clear b5 hd B4 HC
    go_wp2_with fail
    refine (same_longs _ N N _ N _ w5 (by omega) HCC.out HD.out).mono ?_
    rintro e w6 ⟨rfl,b6⟩
    have B6:=Hd (B2.out.trans ((B5.out.trans (b6.mono B5.out.size)).mono B2.out.size))
    have HC6:=Hd (HCC.out.below b6)
    clear b6 B5 HCC HD f0 f3
    go_wp2_with fail
    go_loopw [13] (fun iv wr=>∃ (i : Nat),iv = .int .i64 i /\ i <= N /\ Hid (w6 = wr)) (fun iv _=>N - (intOf iv).toNat)
    case atStart=>exact ⟨0,rfl,Nat.zero_le _,Hd rfl⟩
    case round =>
     obtain ⟨i,rfl,hi,HW⟩:=hrel
     have hww:=HW.out
     subst hww
     clear HW
     by_cases hlt : i < N
     ·have hci:=HC6.out.2.2.2 i (cvI x y N i) (by rw [List.getElem?_map,List.getElem?_range hlt]; rfl)
      obtain ⟨ad,hA,_,d1⟩:=hci
      obtain rfl:=Option.some.inj hA
      have hs:=HSM.out i
      obtain ⟨v,hv⟩ : ∃ v,v = cvI x y N i:=⟨_,rfl⟩
      rw [<- hv] at d1 hs
      clear hv hA
      have hz : (⟨gc,0,none⟩ : Addr).add i = ⟨gc,i,none⟩:=by
       rcases i with _ | i <;> simp [Addr.add]
      rw [hz] at d1
      clear hz
      have t1 : decide (140737488355328 <= v) = false:=decide_eq_false (by omega)
      have t2 : decide (v <= -140737488355328) = false:=decide_eq_false (by omega)
      have t3 : ¬ 140737488355328 <= v:=by omega
      have t4 : ¬ v <= -140737488355328:=by omega
      have t5 : v < 140737488355328:=by omega
      have t6 : -140737488355328 < v:=by omega
      clear hs
      go_wp2_with fail
      exact ⟨⟨i + 1,by go_num,hlt,Hd trivial⟩,by simp [intOf]; omega⟩
     ·obtain rfl : N = i:=by omega
      go_wp2_with fail
      go_ret
      exact ⟨rfl,B6.out⟩
 ·have HBD : Hid (∀ u,Below w2.heap.size w2 u -> Calls Tryz.prog 18 #[.slice (some ⟨g1,0,none⟩) N N,.slice (some ⟨g2,0,none⟩) N N] u fun e w'=>e = .returned (.tuple #[.float .f64 0,.int .i64 6]) /\ Below u.heap.size u w'):=Hd (fun u hu=>by
   refine (rbound_any (some ⟨g1,0,none⟩) (some ⟨g2,0,none⟩) N N N N x y u (by omega) (HX.out.below hu) (HY.out.below hu) (HR2.out u hu).aw.tab (mxL_float x) (mxL_float y)).mono ?_
   rintro e w' (⟨h,_⟩ | ⟨_,_,h1,h2⟩ | ⟨h1,h2,_⟩)
   ·exact absurd HOR.out h
   ·exact ⟨h1,h2⟩
   ·exact absurd ⟨h1,h2⟩ hok)
  have HC6 : Hid (∀ u,Below w2.heap.size w2 u -> Calls Tryz.prog 19 #[.slice (some ⟨g1,0,none⟩) N N,.slice (some ⟨g2,0,none⟩) N N] u fun e w'=>e = .returned (.tuple #[.slice none 0 0,.int .i64 6]) /\ Below u.heap.size u w'):=Hd (fun u hu=>by
   refine (HCY.out u hu).mono ?_
   rintro e w' (⟨h,_⟩ | ⟨_,_,h1,h2⟩ | ⟨h1,h2,_⟩)
   ·exact absurd HOR.out h
   ·exact ⟨h1,h2⟩
   ·exact absurd ⟨h1,h2⟩ hok)
  clear hok HCY
  go_wp2_with fail
  refine (HBD.out w2 (Below.refl _ _)).mono ?_
  rintro e w3 ⟨rfl,b3⟩
  have B3:=Hd b3
  clear b3
  go_wp2_with fail
  refine (HC6.out w3 B3.out).mono ?_
  rintro e w4 ⟨rfl,b4⟩
  have B4:=Hd (B2.out.trans ((B3.out.trans (b4.mono B3.out.size)).mono B2.out.size))
  clear b4
  go_wp2_with fail
  go_ret
  exact ⟨rfl,B4.out⟩
end
section
open Go.ChangeShapes Go.WideShapes Go.ChangeAt Go.RowKit
namespace ringTrue
theorem own : ownKnob Tryz.prog.godebug = none:=by kernel_rfl
set_option maxRecDepth 100000 in
theorem contract (H : Type) (enc : TypeId × Value -> H) (W : World) (base : Nat) (args : Array Value) (ds gs : List (DataW H)) (before : List MemPlace)
  (hval0 : ∀ (j : Nat) t v,Tryz.f4.params[j]? = some t -> args[j]? = some v -> Value.okWide Tryz.prog W .any base t v)
  (hW : DataW.Whole enc Tryz.prog Tryz.f4.params.toList Rows.ringTrueSpec.vars false W args.toList ds gs before)
  (hz : (DataW.weightsEach Tryz.prog (Tryz.f4.params.toList ++ (OpenSpec.ofChange Rows.ringTrueSpec).bare.plain.varTypes Tryz.prog) (ds ++ gs)).all (· <= reachBytes) = true) (hL : laidMetH Tryz.prog Rows.ringTrueRow.laid W) :
  Calls Tryz.prog 4 args W fun e W'=>∃ v,e = .returned v /\ Rows.ringTrueSpec.post enc Tryz.prog Tryz.f4 false true false false W args v W':=by
 have hval : ∀ (j : Nat) t v,Tryz.f4.params[j]? = some t -> args[j]? = some v -> Value.okWide Tryz.prog W .any base t v:=hval0
 have hW':=hW
 obtain ⟨p,q,hA0,hV,rfl,hfz,hnd⟩:=hW
 have hA : DataW.TrodAll enc Tryz.prog W 0 (fun _=>true) true Tryz.f4.params.toList args.toList ds p:=hA0
 rw [Tryz.params4] at hA hval
 have hts : (Tryz.f4.params.toList ++ (OpenSpec.ofChange Rows.ringTrueSpec).bare.plain.varTypes Tryz.prog) = [22,22]:=by kernel_rfl
 rw [hts] at hz
 obtain ⟨v0,vs0,d0,ds0,p0,q0,hargs,rfl,rfl,h0,r0⟩:=trodAll_cons hA
 obtain ⟨v1,vs1,d1,ds1,p1,q1,rfl,rfl,rfl,h1,r1⟩:=trodAll_cons r0
 obtain ⟨rfl,rfl,rfl⟩:=trodAll_nil r1
 obtain rfl : args = #[v0,v1]:=by cases args; simp_all
 obtain ⟨rfl,rfl⟩:=trodVars_none hV
 obtain ⟨a0,n0,c0,z0,rfl,w0,l0,_⟩:=in_longs Tryz.underlying22 Tryz.underlying2 (by kernel_rfl) (hval 0 22 v0 rfl rfl) h0
 have b0:=long_bound (j:=0) (t:=22) (e:=2) hz rfl rfl Tryz.underlying22 (by kernel_rfl) (long_size Tryz.underlying22 (by kernel_rfl) h0)
 obtain ⟨a1,n1,c1,z1,rfl,w1,l1,_⟩:=in_longs Tryz.underlying22 Tryz.underlying2 (by kernel_rfl) (hval 1 22 v1 rfl rfl) h1
 have b1:=long_bound (j:=1) (t:=22) (e:=2) hz rfl rfl Tryz.underlying22 (by kernel_rfl) (long_size Tryz.underlying22 (by kernel_rfl) h1)
 have hR : RWd An.PI W:=rwd_laid hL
 clear hA0 hval0 hz hL
 simp only [List.append_nil,List.nil_append] at hW'
 refine (ringTrue_walk W a0 n0 c0 z0 a1 n1 c1 z1 b0 b1 w0 l0 w1 l1 hR).mono fun e W' ⟨he,hg⟩=>?_
 subst he
 exact ⟨_,rfl,post_of_below (pv:=[]) hW' (fun _ _ _=>(trodAll_cons_mk (shut_bool Tryz.underlying4 _) trodAll_mk0)) (fun sp hsp=>(trodAll_cons_mk (WideElems.Trod_stays (by kernel_rfl) (by kernel_rfl) (of_decide_eq_true (by kernel_rfl)) h0 (fun x hx=>hg.same (hW'.lt x (by simp [hx]))) (fun x hx=>hsp x (by simp [hx]))) (trodAll_cons_mk (WideElems.Trod_stays (by kernel_rfl) (by kernel_rfl) (of_decide_eq_true (by kernel_rfl)) h1 (fun x hx=>hg.same (hW'.lt x (by simp [hx]))) (fun x hx=>hsp x (by simp [hx]))) trodAll_mk0))) (fun _ _=>rfl) (by simp)
  hg (ok_one (by kernel_rfl) rfl (okWide_bool_mk Tryz.underlying4 _))⟩
def lay (zs : List Nat) : Obj -> Obj
 | .cells _ t frozen=>.cells (zs.map fun (x : Nat)=>Value.int .u8 (Int.ofNat x)).toArray t frozen
 | o=>o
noncomputable def laidWorld (os : Os) : World :=
 { World.holding Tryz.prog os ⟨#[],#[],[]⟩ with heap:=(((World.holding Tryz.prog os ⟨#[],#[],[]⟩).heap.modify 1 (lay [0,1,28,2,29,14,24,3,30,22,20,15,25,17,4,8,31,27,13,23,21,19,16,7,26,12,18,6,11,5,10,9])).modify 2 (lay Lib.deBruijn64tab)).modify 3 (lay nibT) }
theorem laid_met (os : Os) : laidMet Tryz.prog Rows.ringTrueRow.laid ((laidWorld os).forCall (fun _ _=>0) ⟨#[],#[.slice none 0 0,.slice none 0 0],[]⟩).memory :=
 laidMet_of_run' 8 (by kernel_rfl) (by kernel_rfl)
theorem reads (os : Os) {H : Type} (enc : TypeId × Value -> H) : ∃ places,DataW.whole enc Tryz.prog ((laidWorld os).forCall (fun _ _=>0) ⟨#[],#[.slice none 0 0,.slice none 0 0],[]⟩).memory Tryz.f4.params.toList Rows.ringTrueSpec.vars false (#[.slice none 0 0,.slice none 0 0] : Array Value).toList 8 = some ([.nil,.nil],[],places) :=
 ⟨[],by kernel_rfl⟩
set_option maxRecDepth 100000 in
theorem lifted (os : Os) (started : os.Started) (H : Type) (enc : TypeId × Value -> H) (F : Stop.Interp) :
  ReturnsInHanded {} Tryz.checked os 4 .any ((OpenSpec.ofChange Rows.ringTrueSpec).preRow enc Tryz.prog Tryz.f4 Rows.ringTrueRow.domain false Rows.ringTrueRow.laid) (((OpenSpec.ofChange Rows.ringTrueSpec).at F).post enc Tryz.prog Tryz.f4 false true false false):=by
 obtain ⟨places,hx⟩:=reads os enc
 refine returnsInHanded_of_row (C:=Tryz.checked) (s:=OpenSpec.ofChange Rows.ringTrueSpec) own started (by kernel_rfl) Tryz.func4
  (witness_row_at (enc:=enc) (C:=Tryz.checked) false (laidWorld os) #[.slice none 0 0,.slice none 0 0] rfl (by kernel_rfl) (by kernel_rfl) (by kernel_rfl)
   (OpenSpec.preRow_of_cond 8 hx (by kernel_rfl) (fun k hk=>by cases hk) (by kernel_rfl) (laid_met os))) ?_
 intro W base args ds gs before hval hW _ _ hz hL _ _
 exact contract H enc W base args ds gs before hval hW hz hL
theorem said : Rows.RingTrueSaid :=
 OpenClaim.holds_of_cond 4 Tryz.f4 rfl rfl rfl rfl rfl rfl rfl ⟨rfl,rfl,rfl,rfl,rfl⟩ rfl rfl rfl rfl rfl (by kernel_rfl) Tryz.func4 (by kernel_rfl)
  (of_decide_eq_true (by kernel_rfl)) (by unfold Func.isWrapper; first | (rw [if_pos (by decide +kernel)]; kernel_rfl) | (rw [if_neg (by decide +kernel)]; exact ⟨rfl,rfl⟩))
  (fun os started H enc _ F=>by rw [OpenClaim.pre_eq_preRow]; exact lifted os started H enc F)
theorem plain (f : FuncId) (fn : Func) (hf : Tryz.pinned.checked.prog.funcNamed "rosette/rosettelaw11.RingTrue" = some f) (hfn : Tryz.pinned.checked.prog.funcs[f]? = some fn) :
  false = Tryz.pinned.checked.prog.looks [] /\ ∀ (j : Nat) t,fn.params[j]? = some t -> Tryz.pinned.checked.prog.wantsStandIn t = false:=by
 obtain rfl : f = 4 := Option.some.inj ((show Tryz.prog.funcNamed "rosette/rosettelaw11.RingTrue" = some 4 by kernel_rfl).symm.trans hf) |>.symm
 obtain rfl : fn = Tryz.f4:=(Option.some.inj (Tryz.func4.symm.trans hfn)).symm
 refine ⟨by kernel_rfl,fun j t ht=>?_⟩
 rw [Tryz.params4] at ht
 have hm:=Array.mem_of_getElem? ht
 have hor : t = 22:=by simp at hm; omega
 subst hor
 exact (show Tryz.prog.wantsStandIn 22 = false by kernel_rfl)
theorem card : Rows.RingTrueCardSaid :=
 Claim7.holds_tied_plain_at .later [] _ _ _ _ said (fun _ h=>by cases h) (by kernel_rfl) (fun _ h=>by cases h) ringTrue_row_tie rfl ⟨rfl,rfl⟩ (by kernel_rfl) rfl plain (by kernel_rfl)
end ringTrue
theorem ringTrue_holds : Rows.RingTrueCardSaid:=ringTrue.card
#print axioms ringTrue_holds
end
end Go.Proofs.YtfpopdneokekiaaGreatDoor

/-
The card of RingKeeps: for every input the call answers true, and every argument reads behind it as before. Conditions: the three tables that the transforms read hold what the program lays into them (tied by the card).
-/
import Derived.Test.YtfpopdneokekiaaGreatDoorL15
import Derived.Test.YtfpopdneokekiaaGreatDoorL43
import Derived.Test.YtfpopdneokekiaaGreatDoorCards
import Derived.Test.YtfpopdneokekiaaGreatDoorTie
import Derived.WalkKit
import Derived.ProofKit
import Derived.OpenShut
import Derived.Laws.Cover2
import Derived.Deep.DeepHandedRow
import Derived.Lib.LaidTab
import Derived.Lib.Hide
set_option linter.unusedVariables false
set_option linter.unusedSimpArgs false
namespace Go.Proofs.YtfpopdneokekiaaGreatDoor
section
open Go.RowKit
theorem ownsRow_below {w w' : World} {base e size : Nat} {v : Value} {n : Nat} {xs : List Value} (h : w.ownsRow base e size v n xs) (hb : Below w.heap.size w w') : w'.ownsRow base e size v n xs:=by
 refine ⟨h.1,?_⟩
 rcases h.2 with h' | ⟨g',cap',cur,h',hb',hg,rest⟩
 ·exact .inl h'
 ·exact .inr ⟨g',cap',cur,h',hb',by rw [hb.block g' (Array.getElem?_eq_some_iff.1 hg).1]; exact hg,rest⟩
theorem Rw.own.below {e : TypeId} {K : IntKind} {r : Rw} {w w' : World} {l : List Int} (h : r.own e K w l) (hb : Below w.heap.size w w') : r.own e K w' l:=ownsRow_below h hb
theorem KeptR.trans {R : List Rw} {w w1 w2 : World} (h : KeptR R w w1) (h2 : KeptR R w1 w2) : KeptR R w w2 :=
 ⟨h2.os.trans h.os,h2.tape.trans h.tape,h2.output.trans h.output,Nat.le_trans h.size h2.size,fun b hb hR=>(h2.block b (Nat.lt_of_lt_of_le hb h.size) hR).trans (h.block b hb hR)⟩
theorem KeptR.of_below {w w1 : World} (R : List Rw) (h : Below w.heap.size w w1) : KeptR R w w1:=⟨h.os,h.tape,h.output,h.size,fun b hb _=>h.block b hb⟩
theorem KeptR.all {w w1 : World} (h : KeptR [] w w1) : Below w.heap.size w w1:=⟨h.os,h.tape,h.output,h.size,fun b hb=>h.block b hb (fun r hr=>by cases hr)⟩
theorem cell1V (w : World) (p : Value) (hp : p.oneCell' = true) (t : TypeId) : ([p] : List Value).length = 1 * 1 /\ (∀ j u,([p] : List Value)[j]? = some u -> (w.alloc (.cells #[p] t)).cell? ((⟨w.heap.size,0,none⟩ : Addr).add j) = some u) /\ (∀ u ∈ ([p] : List Value),u.oneCell' = true):=by
 refine ⟨rfl,fun j u hu=>?_,fun u hu=>?_⟩
 ·rw [cell_new]
  rcases j with _ | j
  ·simpa using hu
  ·simp at hu
 ·simp at hu
  subst hu; exact hp
def BagF (f : Nat) (es : TypeId) (w0 w : World) (g : Nat) (v : Value) (xs : List Value) : Prop :=
 KeptR [] w0 w /\ w0.heap.size <= g /\ g < w.heap.size /\ w.cell? ⟨g,f,none⟩ = some v /\ (∀ j,j < 14 -> j ≠ f -> w.cell? ⟨g,j,none⟩ = some (.slice none 0 0)) /\ (∀ j,w.frozen? ⟨g,j,none⟩ = false) /\
 w.ownsRow 0 es 1 v xs.length xs /\ ∀ b,v.ownBlock = some b -> w0.heap.size <= b /\ b ≠ g
theorem BagF.alloc {f : Nat} {es : TypeId} {w0 w : World} {g : Nat} {v : Value} {xs : List Value} (h : BagF f es w0 w g v xs) (o : Obj) : BagF f es w0 (w.alloc o) g v xs:=by
 obtain ⟨h1,h2,h3,h4,h5,h6,h7,h8⟩:=h
 have hb : Below w.heap.size w (w.alloc o):=(Below.refl _ _).alloc (Nat.le_refl _) _
 exact ⟨h1.alloc o,h2,Nat.lt_of_lt_of_le h3 hb.size,(hb.cell (p:=⟨g,f,none⟩) h3).trans h4,fun j hj hf=>(hb.cell (p:=⟨g,j,none⟩) h3).trans (h5 j hj hf),fun j=>(hb.frozen (p:=⟨g,j,none⟩) h3).trans (h6 j),h7.alloc _,h8⟩
theorem BagF.grow {f : Nat} {es : TypeId} {w0 w w' : World} {g : Nat} {v v' u : Value} {xs : List Value} (h : BagF f es w0 w g v xs) (ho : w'.ownsRow 0 es 1 v' (xs.length + 1) (xs ++ [u])) (hg : w.grownBy w' v.ownBlock) (hl : v'.ownBlock = v.ownBlock \/ ∀ k,v'.ownBlock = some k -> w.heap.size <= k) :
  (w'.cell? ⟨g,f,none⟩ = some v /\ w'.frozen? ⟨g,f,none⟩ = false) /\ BagF f es w0 (w'.setCell ⟨g,f,none⟩ v') g v' (xs ++ [u]):=by
 obtain ⟨h1,h2,h3,h4,h5,h6,h7,h8⟩:=h
 have hbk : w'.heap[g]? = w.heap[g]?:=hg.block g h3 (fun e=>(h8 g e.symm).2 rfl)
 have hc : ∀ j,w'.cell? ⟨g,j,none⟩ = w.cell? ⟨g,j,none⟩:=fun j=>World.cell?_of_block (a:=⟨g,j,none⟩) hbk
 have hz : ∀ j,w'.frozen? ⟨g,j,none⟩ = w.frozen? ⟨g,j,none⟩:=fun j=>World.frozen?_of_block (a:=⟨g,j,none⟩) hbk
 have hset : w'.grownBy (w'.setCell ⟨g,f,none⟩ v') (some g):=grownBy_cell _ _ _ _
 have hv8 : ∀ b,v'.ownBlock = some b -> w0.heap.size <= b /\ b ≠ g:=fun b hb=>by
  rcases hl with h | h
  ·exact h8 b (h.symm.trans hb)
  ·have:=h b hb
   have:=h1.size
   omega
 refine ⟨⟨(hc f).trans h4,(hz f).trans (h6 f)⟩,(h1.grown hg (fun b hb=>.inr (h8 b hb).1)).grown hset (fun b hb=>.inr (by cases hb; exact h2)),h2,Nat.lt_of_lt_of_le h3 (Nat.le_trans hg.size hset.size),World.cell?_setCell_same _ _ _ ((hc f).trans h4),fun j hj hf=>?_,fun j=>by simpa using (hz j).trans (h6 j),?_,hv8⟩
 ·rw [World.cell?_setCell_other _ _ _ _ (by intro e; injection e with _ e2; exact hf e2.symm)]
  exact (hc j).trans (h5 j hj hf)
 ·rw [List.length_append]
  exact ho.kept hset (by
   cases hb : v'.ownBlock with
   | none=>exact .inl rfl
   | some b=>exact .inr (by simp [(hv8 b hb).2]))
def BagC (f g : Nat) (v : Value) (w : World) : Prop:=g < w.heap.size /\ w.cell? ⟨g,f,none⟩ = some v /\ ∀ j,j < 14 -> j ≠ f -> w.cell? ⟨g,j,none⟩ = some (.slice none 0 0)
theorem BagC.kept {f g : Nat} {v : Value} {w w' : World} {R : List Rw} (h : BagC f g v w) (hk : KeptR R w w') (hR : ∀ r ∈ R,r.A ≠ some g) : BagC f g v w' :=
 ⟨Nat.lt_of_lt_of_le h.1 hk.size,(hk.cell (p:=⟨g,f,none⟩) h.1 hR).trans h.2.1,fun j hj hf=>(hk.cell (p:=⟨g,j,none⟩) h.1 hR).trans (h.2.2 j hj hf)⟩
def RowsC (e : TypeId) (K : IntKind) (R : List Rw) (h : Nat) (w : World) : Prop :=
 (∀ (j : Nat) (r : Rw),R[j]? = some r -> ∃ xs,r.own e K w xs) /\ (∀ (j : Nat) (r : Rw),R[j]? = some r -> w.cell? ⟨h,j,none⟩ = some r.val) /\ h < w.heap.size
theorem RowsC.below {e : TypeId} {K : IntKind} {R : List Rw} {h : Nat} {w w' : World} (H : RowsC e K R h w) (hb : Below w.heap.size w w') : RowsC e K R h w' :=
 ⟨fun j r hj=>by
  obtain ⟨xs,hx⟩:=H.1 j r hj
  exact ⟨xs,hx.below hb⟩,fun j r hj=>(hb.cell (p:=⟨h,j,none⟩) H.2.2).trans (H.2.1 j r hj),Nat.lt_of_lt_of_le H.2.2 hb.size⟩
set_option maxRecDepth 400000 in
set_option maxHeartbeats 4000000 in
theorem putLongs_any (w0 w : World) (g : Nat) (v : Value) (xs : List Value) (A : Option Addr) (n c : Nat) (hx : xs.length <= 1000) (hB : BagF 2 22 w0 w g v xs) :
  Calls Tryz.prog 41 #[.pointer (some ⟨g,0,none⟩),.slice A n c] w fun e w'=>e = .returned (.tuple #[]) /\ ∃ v',BagF 2 22 w0 w' g v' (xs ++ [.slice A n c]):=by
 obtain ⟨j0,hj0,hy0,hy1,hy2⟩:=info_parts info_Longss
 have HB:=Hd hB
 obtain ⟨_,_,hlt,hc,_,hfz,_,_⟩:=hB
 have hfz2:=hfz 2
 have HOA:=Hd (HB.out.alloc (.cells #[.slice A n c] 22))
 have CELLS:=Hd (cell1V w (.slice A n c) rfl 22)
 have HX:=Hd hx
 clear hfz hx
 go_enter Tryz.func41,Tryz.ntmps41
 go_wp2_with (at_builtin; refine append_keep _ rfl (.tmp 8) (.tmp 10) 43 rfl 22 j0 _ 24 Tryz.underlying43 hj0 hy0 hy1 hy2 rfl v xs.length xs rfl HOA.out.2.2.2.2.2.2.1 ⟨w.heap.size,0,none⟩ 1 1 [Value.slice A n c] rfl CELLS.out.1 CELLS.out.2.1 CELLS.out.2.2 (by have:=HX.out; simp only [maxLen]; omega) (by have:=HX.out; omega) ?_; intro v2 w2 ho hg hl hkp; have HN:=Hd (HOA.out.grow ho hg hl); clear ho hg hl hkp; obtain ⟨AV,nV,cV,hv2⟩ : ∃ AV nV cV,v2 = Value.slice AV nV cV:=(by obtain ⟨r,h,_⟩:=Rw.of_own HN.out.2.2.2.2.2.2.2.1; exact ⟨_,_,_,h⟩); subst hv2; obtain ⟨hgc,hgf⟩:=HN.out.1)
 refine bodyPost_end (results_none Tryz.results41 _ _ _) rfl ?_
 exact ⟨rfl,_,HN.out.2⟩
set_option maxRecDepth 400000 in
set_option maxHeartbeats 4000000 in
theorem bagLongs_any (R : List Rw) (g h cm : Nat) (w : World) (hm1 : 0 < R.length) (hm2 : R.length <= 100) (hn : ∀ r ∈ R,r.n <= 1000000) (hA : Apart R) (hoff : ∀ r ∈ R,r.A ≠ some h) (hgR : ∀ r ∈ R,r.A ≠ some g) (HR : RowsC 2 .i64 R h w) (HC : BagC 2 g (.slice (some ⟨h,0,none⟩) R.length cm) w) :
  Calls Tryz.prog 42 #[.pointer (some ⟨g,0,none⟩)] w fun e w'=>e = .returned (.bool true) /\ KeptR R w w':=by
 have H0 : Hid (RowsC 2 .i64 R h w):=Hd HR
 have B0 : Hid (BagC 2 g (.slice (some ⟨h,0,none⟩) R.length cm) w):=Hd HC
 have K0 : Hid (KeptR R w w):=Hd (KeptR.refl _ _)
 have HF:=Hd (fun x (HR : RowsC 2 .i64 R h x)=>flatLongs_own R h cm x hm1 hm2 hn HR.1 hA HR.2.1 HR.2.2 hoff)
 have HGR:=Hd hgR
 clear HR HC hm1 hm2 hn hA hoff hgR
 go_enter Tryz.func42,Tryz.ntmps42
 have c0:=B0.out.2.2 0 (by decide) (by decide)
 go_wp2_with fail
 refine (flatLimbs_nil w).mono ?_
 rintro e w1 ⟨rfl,hb⟩
 have hk:=KeptR.of_below R hb
 have H1:=Hd (H0.out.below hb)
 have B1:=Hd (B0.out.kept hk HGR.out)
 have K1:=Hd (K0.out.trans hk)
 clear hk c0 B0 K0 hb
 have c1:=B1.out.2.2 1 (by decide) (by decide)
 go_wp2_with fail
 refine (flatInts_nil w1).mono ?_
 rintro e w2 ⟨rfl,hb⟩
 have hk:=KeptR.of_below R hb
 have H2:=Hd (H1.out.below hb)
 have B2:=Hd (B1.out.kept hk HGR.out)
 have K2:=Hd (K1.out.trans hk)
 clear hk c1 B1 K1 hb
 have c2:=B2.out.2.1
 go_wp2_with fail
 refine (HF.out w2 H2.out).mono ?_
 rintro e w3 ⟨rfl,hk⟩
 have B3:=Hd (B2.out.kept hk HGR.out)
 have K3:=Hd (K2.out.trans hk)
 clear hk c2 B2 K2
 have c3:=B3.out.2.2 3 (by decide) (by decide)
 go_wp2_with fail
 refine (flatTexts_nil w3).mono ?_
 rintro e w4 ⟨rfl,hb⟩
 have hk:=KeptR.of_below R hb
 have B4:=Hd (B3.out.kept hk HGR.out)
 have K4:=Hd (K3.out.trans hk)
 clear hk c3 B3 K3 hb
 have c4:=B4.out.2.2 4 (by decide) (by decide)
 go_wp2_with fail
 refine (flatBytes_nil w4).mono ?_
 rintro e w5 ⟨rfl,hb⟩
 have hk:=KeptR.of_below R hb
 have B5:=Hd (B4.out.kept hk HGR.out)
 have K5:=Hd (K4.out.trans hk)
 clear hk c4 B4 K4 hb
 have c5:=B5.out.2.2 5 (by decide) (by decide)
 go_wp2_with fail
 refine (flatReals_nil w5).mono ?_
 rintro e w6 ⟨rfl,hb⟩
 have hk:=KeptR.of_below R hb
 have B6:=Hd (B5.out.kept hk HGR.out)
 have K6:=Hd (K5.out.trans hk)
 clear hk c5 B5 K5 hb
 have c6:=B6.out.2.2 6 (by decide) (by decide)
 go_wp2_with fail
 refine (flatRows_nil w6).mono ?_
 rintro e w7 ⟨rfl,hb⟩
 have hk:=KeptR.of_below R hb
 have B7:=Hd (B6.out.kept hk HGR.out)
 have K7:=Hd (K6.out.trans hk)
 clear hk c6 B6 K6 hb
 have c7:=B7.out.2.2 7 (by decide) (by decide)
 go_wp2_with fail
 refine (flatWholes_nil w7).mono ?_
 rintro e w8 ⟨rfl,hb⟩
 have hk:=KeptR.of_below R hb
 have B8:=Hd (B7.out.kept hk HGR.out)
 have K8:=Hd (K7.out.trans hk)
 clear hk c7 B7 K7 hb
 have c8:=B8.out.2.2 8 (by decide) (by decide)
 go_wp2_with fail
 refine (flatDyads_nil w8).mono ?_
 rintro e w9 ⟨rfl,hb⟩
 have hk:=KeptR.of_below R hb
 have B9:=Hd (B8.out.kept hk HGR.out)
 have K9:=Hd (K8.out.trans hk)
 clear hk c8 B8 K8 hb
 have c9:=B9.out.2.2 9 (by decide) (by decide)
 go_wp2_with fail
 refine (flatGaps_nil w9).mono ?_
 rintro e w10 ⟨rfl,hb⟩
 have hk:=KeptR.of_below R hb
 have B10:=Hd (B9.out.kept hk HGR.out)
 have K10:=Hd (K9.out.trans hk)
 clear hk c9 B9 K9 hb
 have c10:=B10.out.2.2 10 (by decide) (by decide)
 go_wp2_with fail
 refine (flatBoxes_nil w10).mono ?_
 rintro e w11 ⟨rfl,hb⟩
 have hk:=KeptR.of_below R hb
 have B11:=Hd (B10.out.kept hk HGR.out)
 have K11:=Hd (K10.out.trans hk)
 clear hk c10 B10 K10 hb
 have c11:=B11.out.2.2 11 (by decide) (by decide)
 go_wp2_with fail
 refine (flatCerts_nil w11).mono ?_
 rintro e w12 ⟨rfl,hb⟩
 have hk:=KeptR.of_below R hb
 have B12:=Hd (B11.out.kept hk HGR.out)
 have K12:=Hd (K11.out.trans hk)
 clear hk c11 B11 K11 hb
 have c12:=B12.out.2.2 12 (by decide) (by decide)
 go_wp2_with fail
 refine (flatTerms_nil w12).mono ?_
 rintro e w13 ⟨rfl,hb⟩
 have hk:=KeptR.of_below R hb
 have B13:=Hd (B12.out.kept hk HGR.out)
 have K13:=Hd (K12.out.trans hk)
 clear hk c12 B12 K12 hb
 have c13:=B13.out.2.2 13 (by decide) (by decide)
 go_wp2_with fail
 refine (flatHits_nil w13).mono ?_
 rintro e w14 ⟨rfl,hb⟩
 have hk:=KeptR.of_below R hb
 have B14:=Hd (B13.out.kept hk HGR.out)
 have K14:=Hd (K13.out.trans hk)
 clear hk c13 B13 K13 hb
 go_wp2
 go_ret
 exact ⟨rfl,K14.out⟩
set_option maxRecDepth 400000 in
set_option maxHeartbeats 4000000 in
theorem apartLongs_any (R : List Rw) (h0 c0 : Nat) (w : World) (hm1 : 0 < R.length) (hm2 : R.length <= 100) (hn : ∀ r ∈ R,r.n <= 1000000) (hA : Apart R) (HR : RowsC 2 .i64 R h0 w) :
  Calls Tryz.prog 25 #[.slice (some ⟨h0,0,none⟩) R.length c0] w fun e w'=>e = .returned (.bool true) /\ KeptR R w w':=by
 have H0 : Hid (RowsC 2 .i64 R h0 w):=Hd HR
 obtain ⟨m,hm⟩ : ∃ m,m = R.length:=⟨_,rfl⟩
 have HM:=Hd hm
 have HRB : Hid (∀ r ∈ R,∀ b,r.A = some b -> b < w.heap.size):=Hd (fun r hr b hb=>by
  obtain ⟨j,hj⟩:=List.getElem?_of_mem hr
  obtain ⟨xs,hx⟩:=HR.1 j r hj
  exact hx.lt hb)
 have HF:=Hd (fun x g h cm hoff hgR (HR : RowsC 2 .i64 R h x) HC=>bagLongs_any R g h cm x hm1 hm2 hn hA hoff hgR HR HC)
 have HSTART : Hid (BagF 2 22 w (w.alloc (.cells #[.slice none 0 0,.slice none 0 0,.slice none 0 0,.slice none 0 0,.slice none 0 0,.slice none 0 0,.slice none 0 0,.slice none 0 0,.slice none 0 0,.slice none 0 0,.slice none 0 0,.slice none 0 0,.slice none 0 0,.slice none 0 0] 81)) w.heap.size (.slice none 0 0) []):=Hd (by
  have hcell : ∀ j,j < 14 -> (w.alloc (.cells #[.slice none 0 0,.slice none 0 0,.slice none 0 0,.slice none 0 0,.slice none 0 0,.slice none 0 0,.slice none 0 0,.slice none 0 0,.slice none 0 0,.slice none 0 0,.slice none 0 0,.slice none 0 0,.slice none 0 0,.slice none 0 0] 81)).cell? ⟨w.heap.size,j,none⟩ = some (.slice none 0 0):=fun j hj=>by
   have h:=cell_new w #[Value.slice none 0 0,Value.slice none 0 0,Value.slice none 0 0,Value.slice none 0 0,Value.slice none 0 0,Value.slice none 0 0,Value.slice none 0 0,Value.slice none 0 0,Value.slice none 0 0,Value.slice none 0 0,Value.slice none 0 0,Value.slice none 0 0,Value.slice none 0 0,Value.slice none 0 0] 81 j
   have e : (⟨w.heap.size,0,none⟩ : Addr).add j = ⟨w.heap.size,j,none⟩:=by unfold Addr.add; split <;> simp_all
   rw [e] at h
   rw [h]
   rcases j with _ | _ | _ | _ | _ | _ | _ | _ | _ | _ | _ | _ | _ | _ | j <;> first | rfl | omega
  exact ⟨(KeptR.refl _ _).alloc _,Nat.le_refl _,by simp,hcell 2 (by decide),fun j hj _=>hcell j hj,fun j=>by simp,World.ownsRow_nil _ _ _ _,fun b hb=>by simp [Value.ownBlock] at hb⟩)
 rw [<- hm]
 have hm1' : 0 < m:=by omega
 have hm2' : m <= 100:=by omega
 clear HR hm hm1 hm2 hn hA
 go_enter Tryz.func25,Tryz.ntmps25
 go_wp2_with fail
 go_loopw [4] (fun kv wr=>∃ (k : Nat) (v : Value),kv = .int .i64 k /\ k <= m /\ Hid (BagF 2 22 w wr w.heap.size v ((R.take k).map Rw.val))) (fun kv _=>m - (intOf kv).toNat)
 case atStart=>exact ⟨0,_,rfl,Nat.zero_le _,HSTART⟩
 case round =>
  clear HSTART
  obtain ⟨k,v,rfl,hk,HB⟩:=hrel
  have HBW:=Hd HB.out.1.all
  by_cases hlt : k < m
  ·obtain ⟨r,hr⟩ : ∃ r,R[k]? = some r:=⟨_,List.getElem?_eq_getElem (by rw [<- HM.out]; exact hlt)⟩
   have hc:=(H0.out.below HBW.out).2.1 k r hr
   unfold Rw.val at hc
   obtain ⟨AD,hAD⟩ : ∃ AD,AD = r.A.map (fun g=>(⟨g,0,none⟩ : Addr)):=⟨_,rfl⟩
   obtain ⟨n,hnn⟩ : ∃ n,n = r.n:=⟨_,rfl⟩
   obtain ⟨c,hcc⟩ : ∃ c,c = r.c:=⟨_,rfl⟩
   have hrv : r.val = .slice AD n c:=by unfold Rw.val; rw [<- hAD,<- hnn,<- hcc]
   rw [<- hAD,<- hnn,<- hcc] at hc
   have HNX : Hid ((R.take (k + 1)).map Rw.val = (R.take k).map Rw.val ++ [.slice AD n c]):=Hd (by rw [List.take_add_one,hr,Option.toList_some,List.map_append,<- hrv]; rfl)
   have HPUT:=Hd (putLongs_any w wr w.heap.size v ((R.take k).map Rw.val) AD n c (by rw [List.length_map,List.length_take]; omega) HB.out)
   clear hr hAD hnn hcc hrv
   go_wp2_with (refine HPUT.out.mono ?_; rintro e w' ⟨rfl,HB2⟩; have HN:=Hd HB2; clear HB2)
   obtain ⟨v',hB'⟩:=HN.out
   exact ⟨⟨k + 1,v',by go_num,hlt,Hd (by rw [HNX.out]; exact hB')⟩,by simp [intOf]; omega⟩
  ·obtain rfl : m = k:=by omega
   have hb:=HB.out
   rw [List.take_of_length_le (by rw [<- HM.out]; exact Nat.le_refl _)] at hb
   obtain ⟨b1,b2,b3,b4,b5,b6,b7,b8⟩:=hb
   rw [List.length_map] at b7
   obtain ⟨h,cm,hv,hhl⟩ : ∃ h cm,v = .slice (some ⟨h,0,none⟩) R.length cm /\ h < wr.heap.size:=by
    rcases b7.2 with ⟨_,h0⟩ | ⟨h,cap,cur,hv,_⟩
    ·rw [<- HM.out] at h0; omega
    ·exact ⟨h,cap,hv,(World.ownsRow.lt b7 h (by rw [hv]; rfl)).2⟩
   subst hv
   have hb8:=b8 h rfl
   have HRC : RowsC 2 .i64 R h wr:=⟨(H0.out.below HBW.out).1,fun j r hj=>by
    have hjl:=(List.getElem?_eq_some_iff.1 hj).1
    rw [World.ownsRow.cellAt b7 j (by omega),List.getElem?_map,hj]; rfl,hhl⟩
   have HBC : BagC 2 w.heap.size (.slice (some ⟨h,0,none⟩) R.length cm) wr:=⟨b3,b4,b5⟩
   have HAP:=Hd (HF.out wr w.heap.size h cm (fun r hr e1=>by have:=HRB.out r hr h e1; omega) (fun r hr e1=>by have:=HRB.out r hr _ e1; omega) HRC HBC)
   have HKP:=Hd (KeptR.of_below R HBW.out)
   clear b1 b2 b3 b4 b5 b6 b7 b8 hb8 HRC HBC hhl
   go_wp2_with fail
   refine HAP.out.mono ?_
   rintro e w5 ⟨rfl,hk5⟩
   have HK5:=Hd (HKP.out.trans hk5)
   clear hk5
   go_wp2
   go_ret
   exact ⟨rfl,HK5.out⟩
end
section
open Go.RowKit
def OwnR (e : TypeId) (K : IntKind) (w : World) (lo hi : Nat) (A : Option Addr) (n c : Nat) (l : List Int) : Prop:=∃ r : Rw,Value.slice A n c = r.val /\ r.own e K w l /\ ∀ b,r.A = some b -> lo <= b /\ b < hi
theorem OwnR.of {e : TypeId} {K : IntKind} {w : World} {base : Nat} {A : Option Addr} {n c : Nat} {l : List Int} (h : w.ownsRow base e 1 (.slice A n c) n (l.map (Value.int K))) : OwnR e K w base w.heap.size A n c l:=by
 obtain ⟨r,h1,h2⟩:=Rw.of_own h
 refine ⟨r,h1,?_,fun b hb=>?_⟩
 ·unfold Rw.own
  rw [<- h1,h2]
  exact h.mono (Nat.zero_le _)
 ·have:=h.lt b (by rw [h1,Rw.block,hb])
  exact this
theorem OwnR.below {e : TypeId} {K : IntKind} {w w' : World} {lo hi : Nat} {A : Option Addr} {n c : Nat} {l : List Int} (h : OwnR e K w lo hi A n c l) (hb : Below w.heap.size w w') : OwnR e K w' lo hi A n c l:=by
 obtain ⟨r,h1,h2,h3⟩:=h
 exact ⟨r,h1,h2.below hb,h3⟩
theorem own_keptR {e : TypeId} {K : IntKind} {r : Rw} {w w' : World} {l : List Int} {R : List Rw} (h : r.own e K w l) (hk : KeptR R w w') (hR : ∀ q ∈ R,∀ b,q.A = some b -> r.A ≠ some b) : r.own e K w' l:=by
 refine ⟨h.1,?_⟩
 rcases h.2 with h' | ⟨g',cap',cur,h',hb',hg,rest⟩
 ·exact .inl h'
 ·have hA : r.A = some g':=by rw [<- Rw.block,h']; rfl
  exact .inr ⟨g',cap',cur,h',hb',by rw [hk.block g' (Array.getElem?_eq_some_iff.1 hg).1 (fun q hq e1=>hR q hq g' e1 hA)]; exact hg,rest⟩
theorem OwnR.kept {e : TypeId} {K : IntKind} {w w' : World} {lo hi : Nat} {A : Option Addr} {n c : Nat} {l : List Int} {R : List Rw} (h : OwnR e K w lo hi A n c l) (hk : KeptR R w w') (hR : ∀ q ∈ R,∀ b,q.A = some b -> ¬ (lo <= b /\ b < hi)) : OwnR e K w' lo hi A n c l:=by
 obtain ⟨r,h1,h2,h3⟩:=h
 exact ⟨r,h1,own_keptR h2 hk (fun q hq b hb e1=>hR q hq b hb (h3 b e1)),h3⟩
theorem OwnR.ul {w : World} {lo hi : Nat} {A : Option Addr} {n c : Nat} {l : List Int} (h : OwnR 2 .i64 w lo hi A n c l) : UL w A n c l:=by
 obtain ⟨r,h1,h2,_⟩:=h
 have h3 : w.ownsRow 0 2 1 (.slice A n c) n (l.map (Value.int .i64)):=by
  rw [h1]
  have : r.n = n:=by unfold Rw.val at h1; injection h1 with _ h; exact h.symm
  rw [<- this]
  exact h2
 obtain ⟨A',c',e1,hu⟩:=UL.of_own h3
 injection e1 with e1 _ e2
 subst e1
 subst e2
 exact hu
theorem LRow.kept {w w' : World} {base g n : Nat} {l : List Int} {R : List Rw} (h : LRow w base g n l) (hk : KeptR R w w') (hR : ∀ q ∈ R,q.A ≠ some g) : LRow w' base g n l:=by
 refine ⟨h.1,?_⟩
 rcases h.2 with ⟨h',_⟩ | ⟨g',cap',cur,h',hb',hg,rest⟩
 ·cases h'
 ·have e : g = g':=by
   injection h' with e1
   injection e1 with e1
   injection e1 with e1
  subst e
  exact .inr ⟨g,cap',cur,h',hb',by rw [hk.block g (Array.getElem?_eq_some_iff.1 hg).1 hR]; exact hg,rest⟩
theorem St.kept {L L' : List (Nat × List Int)} {N : Nat} {W w w' : World} {R : List Rw} (S : St L N W w) (hk : KeptR R w w') (hs : L'.Sublist L) (hR : ∀ q ∈ R,∃ b,q.A = some b /\ W.heap.size <= b /\ ∀ p ∈ L',p.1 ≠ b) : St L' N W w':=by
 obtain ⟨h1,h2,h3,h4⟩:=S
 refine ⟨fun p hp=>LRow.kept (h1 p (hs.subset hp)) hk (fun q hq e=>?_),(hs.map Prod.fst).nodup h2,h3,?_⟩
 ·obtain ⟨b,hb,_,h5⟩:=hR q hq
  rw [hb] at e
  injection e with e
  exact h5 p hp e.symm
 ·exact h4.trans (hk.below h4.size (fun q hq b hb=>by
   obtain ⟨b',hb',h5,_⟩:=hR q hq
   rw [hb] at hb'
   injection hb' with e
   omega))
def Rows4 (N g1 g2 g3 g4 : Nat) : List Rw:=[⟨some g1,N,N⟩,⟨some g2,N,N⟩,⟨some g3,N,N⟩,⟨some g4,N,N⟩]
theorem apart_st {L : List (Nat × List Int)} {N g1 g2 g3 g4 : Nat} {l1 l2 l3 l4 : List Int} {W w : World} (hN : N <= 16384) (S : St L N W w) (h1 : (g1,l1) ∈ L) (h2 : (g2,l2) ∈ L) (h3 : (g3,l3) ∈ L) (h4 : (g4,l4) ∈ L) (n12 : g1 ≠ g2) (n13 : g1 ≠ g3) (n14 : g1 ≠ g4) (n23 : g2 ≠ g3) (n24 : g2 ≠ g4) (n34 : g3 ≠ g4) :
  Calls Tryz.prog 25 #[.slice (some ⟨w.heap.size,0,none⟩) 4 4] (w.alloc (.cells #[.slice (some ⟨g1,0,none⟩) N N,.slice (some ⟨g2,0,none⟩) N N,.slice (some ⟨g3,0,none⟩) N N,.slice (some ⟨g4,0,none⟩) N N] 22)) fun e w'=>e = .returned (.bool true) /\ KeptR (Rows4 N g1 g2 g3 g4) w w':=by
 have hb : Below w.heap.size w (w.alloc (.cells #[.slice (some ⟨g1,0,none⟩) N N,.slice (some ⟨g2,0,none⟩) N N,.slice (some ⟨g3,0,none⟩) N N,.slice (some ⟨g4,0,none⟩) N N] 22)):=(Below.refl _ _).alloc (Nat.le_refl _) _
 have hc : ∀ j,(w.alloc (.cells #[.slice (some ⟨g1,0,none⟩) N N,.slice (some ⟨g2,0,none⟩) N N,.slice (some ⟨g3,0,none⟩) N N,.slice (some ⟨g4,0,none⟩) N N] 22)).cell? ⟨w.heap.size,j,none⟩ = (#[Value.slice (some ⟨g1,0,none⟩) N N,.slice (some ⟨g2,0,none⟩) N N,.slice (some ⟨g3,0,none⟩) N N,.slice (some ⟨g4,0,none⟩) N N])[j]?:=fun j=>by
  have h:=cell_new w #[Value.slice (some ⟨g1,0,none⟩) N N,.slice (some ⟨g2,0,none⟩) N N,.slice (some ⟨g3,0,none⟩) N N,.slice (some ⟨g4,0,none⟩) N N] 22 j
  have e : (⟨w.heap.size,0,none⟩ : Addr).add j = ⟨w.heap.size,j,none⟩:=by unfold Addr.add; split <;> simp_all
  rw [e] at h
  exact h
 have own : ∀ {g : Nat} {l : List Int},(g,l) ∈ L -> (⟨some g,N,N⟩ : Rw).own 2 .i64 w l:=fun hg=>World.ownsRow.mono (S.1 _ hg) (Nat.zero_le _)
 have ap : ∀ {a b : Nat},a ≠ b -> (⟨some a,N,N⟩ : Rw).A = none \/ (⟨some a,N,N⟩ : Rw).A ≠ (⟨some b,N,N⟩ : Rw).A:=fun h=>.inr (fun e=>by injection e with e; exact h e)
 refine (apartLongs_any (Rows4 N g1 g2 g3 g4) w.heap.size 4 _ (by simp [Rows4]) (by simp [Rows4]) ?_ ?_ ⟨?_,?_,by simp⟩).mono ?_
 ·intro r hr
  simp [Rows4] at hr
  rcases hr with rfl | rfl | rfl | rfl <;> exact Nat.le_trans hN (by decide)
 ·intro i j a b hij hi hj
  unfold Rows4 at hi hj
  rcases i with _ | _ | _ | _ | i <;> rcases j with _ | _ | _ | _ | j <;> simp at hi hj hij
  all_goals
   subst hi; subst hj
   first | exact ap n12 | exact ap n13 | exact ap n14 | exact ap n23 | exact ap n24 | exact ap n34 | exact ap n12.symm | exact ap n13.symm | exact ap n14.symm | exact ap n23.symm | exact ap n24.symm | exact ap n34.symm
 ·intro j r hr
  unfold Rows4 at hr
  rcases j with _ | _ | _ | _ | j <;> simp at hr
  ·subst hr; exact ⟨_,(own h1).below hb⟩
  ·subst hr; exact ⟨_,(own h2).below hb⟩
  ·subst hr; exact ⟨_,(own h3).below hb⟩
  ·subst hr; exact ⟨_,(own h4).below hb⟩
 ·intro j r hr
  unfold Rows4 at hr
  rcases j with _ | _ | _ | _ | j <;> simp at hr
  all_goals
   subst hr
   first | (rw [hc 0]; rfl) | (rw [hc 1]; rfl) | (rw [hc 2]; rfl) | (rw [hc 3]; rfl)
 ·rintro e w' ⟨rfl,hk⟩
  exact ⟨rfl,(KeptR.of_below _ hb).trans hk⟩
theorem St.apart {L : List (Nat × List Int)} {N i j g g' : Nat} {l l' : List Int} {W w : World} (S : St L N W w) (hi : L[i]? = some (g,l)) (hj : L[j]? = some (g',l')) (h : i ≠ j) : g ≠ g':=fun e=>by
 have h1 : (L.map Prod.fst)[i]? = some g:=by rw [List.getElem?_map,hi]; rfl
 have h2 : (L.map Prod.fst)[j]? = some g':=by rw [List.getElem?_map,hj]; rfl
 have h3:=(List.getElem?_eq_some_iff.1 h1).1
 exact h ((List.getElem?_inj h3 S.2.1).1 (by rw [h1,h2,e]))
theorem St.lt {L : List (Nat × List Int)} {N g : Nat} {l : List Int} {W w : World} (S : St L N W w) (h : (g,l) ∈ L) : W.heap.size <= g /\ g < w.heap.size:=RowV.lt (S.1 _ h)
set_option maxRecDepth 100000 in
set_option maxHeartbeats 4000000 in
theorem ringKeeps_walk (W : World) (A : Option Addr) (n c : Nat) (a : List Int) (B : Option Addr) (n' c' : Nat) (b : List Int) (hn : n <= 20000000000000) (hn' : n' <= 20000000000000) (ha : UL W A n c a) (la : L64 a) (hb : UL W B n' c' b) (lb : L64 b) (hR : RWd An.PI W) :
  Calls Tryz.prog 7 #[.slice A n c,.slice B n' c'] W fun e w'=>e = .returned (.bool true) /\ Below W.heap.size W w':=by
 obtain ⟨i0,hi0,hz0,hz1,hz2⟩:=info_parts i64_info
 have hsz1 : (Tryz.prog.info? 2).map (·.size) = some 1:=by kernel_rfl
 have HA:=Hd ha
 have HB:=Hd hb
 have HRW:=Hd hR
 have HAW:=Hd (rawake_any W hR)
 clear ha hb hR la lb
 go_enter Tryz.func7,Tryz.ntmps7
 go_wp2_with fail
 refine HAW.out.mono ?_
 rintro e w1 ⟨rfl,b1⟩
 have B1:=Hd b1
 have C1:=Hd (small_any A n c a w1 hn (HA.out.below b1))
 clear b1 HAW
 go_wp2_with fail
 refine C1.out.mono ?_
 rintro e w2 ⟨g1,rfl,r1,b2⟩
 have R1:=Hd r1.u
 have B2:=Hd (B1.out.trans (b2.mono B1.out.size))
 have C2:=Hd (small_any B n' c' b w2 hn' (HB.out.below B2.out))
 clear r1 b2 C1 B1
 go_wp2_with fail
 refine C2.out.mono ?_
 rintro e w3 ⟨g2,rfl,r2,b3⟩
 have B3:=Hd (B2.out.trans (b3.mono B2.out.size))
 have C3:=Hd (fit_rows (some ⟨g1,0,none⟩) (some ⟨g2,0,none⟩) n n n' n' 5 (a.map sm) (b.map sm) w3 (by omega) hn hn' (R1.out.below b3) r2.u)
 clear r2 b3 C2 B2 R1
 go_wp2_with fail
 refine C3.out.mono ?_
 intro e w4 h4
 unfold FitP at h4
 obtain ⟨K,N,gx,gy,hK,hN,rfl,hx,hy,hne,b4⟩:=h4
 have hNle : N <= 32:=by rw [hN]; exact Nat.pow_le_pow_right (n:=2) (by decide) hK
 have hNpos : 1 <= N:=by rw [hN]; exact Nat.two_pow_pos K
 have HKN : Hid (K <= 5 /\ N = 2 ^ K):=Hd ⟨hK,hN⟩
 have B4:=Hd (B3.out.trans (b4.mono B3.out.size))
 have S4 : Hid (St [(gy,firsts (b.map sm) N),(gx,firsts (a.map sm) N)] N W w4):=Hd (by
  refine ⟨fun p hp=>?_,?_,HRW.out,B4.out⟩
  ·rcases List.mem_cons.1 hp with rfl | hp
   ·exact RowV.base hy (Nat.le_trans B3.out.size (RowV.lt hy).1)
   ·rcases List.mem_singleton.1 hp with rfl
    exact RowV.base hx (Nat.le_trans B3.out.size (RowV.lt hx).1)
  ·simp only [List.map_cons,List.map_nil,List.nodup_cons,List.mem_singleton,List.not_mem_nil,not_false_eq_true,List.nodup_nil,and_true]
   exact fun e=>hne e.symm)
 have HX:=Hd ((Bd.sm a).firsts N)
 have HY:=Hd ((Bd.sm b).firsts N)
 obtain ⟨x,hxe⟩ : ∃ x,x = firsts (a.map sm) N:=⟨_,rfl⟩
 obtain ⟨y,hye⟩ : ∃ y,y = firsts (b.map sm) N:=⟨_,rfl⟩
 rw [<- hxe,<- hye] at S4
 rw [<- hxe] at HX
 rw [<- hye] at HY
 clear hxe hye hx hy hne b4 C3 B3 hK hN HA HB B4 HRW
 go_wp2_with fail
 have CC:=Hd (cyc_st (by have:=HKN.out.1; omega) HKN.out.2 S4.out (List.mem_of_getElem? (i:=1) rfl) (List.mem_of_getElem? (i:=0) rfl) (HX.out) (Bd.mono (HY.out) (by omega)))
 refine CC.out.mono ?_
 rintro e w5 ⟨g5,rfl,s5⟩
 have S5:=Hd s5
 clear s5 CC S4
 go_wp2_with fail
 have CC:=Hd (cyc_st (by have:=HKN.out.1; omega) HKN.out.2 S5.out (List.mem_of_getElem? (i:=2) rfl) (List.mem_of_getElem? (i:=1) rfl) (HX.out) (Bd.mono (HY.out) (by omega)))
 refine CC.out.mono ?_
 rintro e w6 ⟨g6,rfl,s6⟩
 have S6:=Hd s6
 clear s6 CC S5
 go_wp2_with fail
 have CC:=Hd (pln_st (by have:=HKN.out.1; omega) HKN.out.2 S6.out (List.mem_of_getElem? (i:=3) rfl) (List.mem_of_getElem? (i:=2) rfl) (HX.out) (HY.out) (by omega) (by omega) (by omega))
 refine CC.out.mono ?_
 rintro e w7 ⟨g7,rfl,s7⟩
 have S7:=Hd s7
 clear s7 CC S6
 go_wp2_with fail
 have CC:=Hd (pln_st (by have:=HKN.out.1; omega) HKN.out.2 S7.out (List.mem_of_getElem? (i:=4) rfl) (List.mem_of_getElem? (i:=3) rfl) (HX.out) (HY.out) (by omega) (by omega) (by omega))
 refine CC.out.mono ?_
 rintro e w8 ⟨g8,rfl,s8⟩
 have S8:=Hd s8
 clear s8 CC S7
 go_wp2_with fail
 refine (copy_longs _ N N _ w8 (by omega) (S8.out.u (List.mem_of_getElem? (i:=3) rfl))).mono ?_
 rintro e w9 ⟨v,rfl,ho,b9⟩
 obtain ⟨AW,cW,rfl,_⟩:=UL.of_own ho
 have RW:=Hd (OwnR.of ho)
 have S9:=Hd (S8.out.step b9)
 have Z9:=Hd (fun g l (h : (g,l) ∈ _)=>S8.out.lt (g:=g) (l:=l) h)
 clear ho b9 S8
 go_wp2_with fail
 have CC:=Hd (same_longs _ N N _ N _ w9 (by omega) (S9.out.u (List.mem_of_getElem? (i:=3) rfl)) (S9.out.u (List.mem_of_getElem? (i:=2) rfl)))
 refine CC.out.mono ?_
 rintro e w10 ⟨rfl,b10⟩
 have S10:=Hd (S9.out.step b10)
 have RW:=Hd (RW.out.below b10)
 clear b10 CC S9
 go_wp2_with fail
 have CC:=Hd (same_longs _ N N _ N _ w10 (by omega) (S10.out.u (List.mem_of_getElem? (i:=1) rfl)) (S10.out.u (List.mem_of_getElem? (i:=0) rfl)))
 refine CC.out.mono ?_
 rintro e w11 ⟨rfl,b11⟩
 have S11:=Hd (S10.out.step b11)
 have RW:=Hd (RW.out.below b11)
 clear b11 CC S10
 go_wp2_with fail
 have CC:=Hd (apart_st (by omega) S11.out (List.mem_of_getElem? (i:=3) rfl) (List.mem_of_getElem? (i:=2) rfl) (List.mem_of_getElem? (i:=1) rfl) (List.mem_of_getElem? (i:=0) rfl) (S11.out.apart (i:=3) (j:=2) rfl rfl (by decide)) (S11.out.apart (i:=3) (j:=1) rfl rfl (by decide)) (S11.out.apart (i:=3) (j:=0) rfl rfl (by decide)) (S11.out.apart (i:=2) (j:=1) rfl rfl (by decide)) (S11.out.apart (i:=2) (j:=0) rfl rfl (by decide)) (S11.out.apart (i:=1) (j:=0) rfl rfl (by decide)))
 refine CC.out.mono ?_
 rintro e w12 ⟨rfl,hk⟩
 have RW:=Hd (RW.out.kept hk (fun q hq b hb=>by
  have z5:=Z9.out g5 _ (List.mem_of_getElem? (i:=3) rfl)
  have z6:=Z9.out g6 _ (List.mem_of_getElem? (i:=2) rfl)
  have z7:=Z9.out g7 _ (List.mem_of_getElem? (i:=1) rfl)
  have z8:=Z9.out g8 _ (List.mem_of_getElem? (i:=0) rfl)
  simp [Rows4] at hq
  rcases hq with rfl | rfl | rfl | rfl <;> (injection hb with hb; omega)))
 have S12 : Hid (St [(gy,y),(gx,x)] N W w12):=Hd (by
  refine S11.out.kept hk ((List.Sublist.refl _).cons _ |>.cons _ |>.cons _ |>.cons _) (fun q hq=>?_)
  have pt : ∀ (i g : Nat) (l : List Int),i < 4 -> [(g8,_),(g7,_),(g6,_),(g5,_),(gy,y),(gx,x)][i]? = some (g,l) -> W.heap.size <= g /\ ∀ p ∈ [(gy,y),(gx,x)],p.1 ≠ g:=fun i g l hi hg=>by
   refine ⟨(S11.out.lt (List.mem_of_getElem? hg)).1,fun p hp e=>?_⟩
   simp at hp
   rcases hp with rfl | rfl
   ·exact S11.out.apart (i:=i) (j:=4) hg rfl (by omega) e.symm
   ·exact S11.out.apart (i:=i) (j:=5) hg rfl (by omega) e.symm
  simp [Rows4] at hq
  rcases hq with rfl | rfl | rfl | rfl
  ·exact ⟨g5,rfl,pt 3 _ _ (by decide) rfl⟩
  ·exact ⟨g6,rfl,pt 2 _ _ (by decide) rfl⟩
  ·exact ⟨g7,rfl,pt 1 _ _ (by decide) rfl⟩
  ·exact ⟨g8,rfl,pt 0 _ _ (by decide) rfl⟩)
 clear hk CC S11 Z9
 go_wp2_with fail
 have CC:=Hd (cyc_told 32767 65534 (k:=8) (K:=K) (by omega) (by have:=HKN.out.1; omega) HKN.out.2 (S12.out.u (List.mem_of_getElem? (i:=1) rfl)) (S12.out.u (List.mem_of_getElem? (i:=0) rfl)) S12.out.rwd wheels8 (by omega) (by omega) (by omega) (by omega) HX.out (Bd.mono (HY.out) (by omega)) (small_orders ⟨K,by have:=HKN.out.1; omega⟩))
 refine CC.out.mono ?_
 rintro e w13 ⟨g13,rfl,r13,b13⟩
 have RW:=Hd (RW.out.below b13)
 have S13:=Hd (S12.out.new r13 b13)
 clear r13 b13 CC S12
 go_wp2_with fail
 refine (same_longs _ N N AW cW _ w13 (by omega) (S13.out.u (List.mem_of_getElem? (i:=0) rfl)) RW.out.ul).mono ?_
 rintro e w14 ⟨rfl,b14⟩
 have B14:=Hd ((S13.out.step b14).2.2.2)
 clear b14
 go_wp2_with fail
 go_ret
 exact ⟨rfl,B14.out⟩
end
section
open Go.ChangeShapes Go.WideShapes Go.ChangeAt Go.RowKit
namespace ringKeeps
theorem own : ownKnob Tryz.prog.godebug = none:=by kernel_rfl
set_option maxRecDepth 100000 in
theorem contract (H : Type) (enc : TypeId × Value -> H) (W : World) (base : Nat) (args : Array Value) (ds gs : List (DataW H)) (before : List MemPlace)
  (hval0 : ∀ (j : Nat) t v,Tryz.f7.params[j]? = some t -> args[j]? = some v -> Value.okWide Tryz.prog W .any base t v)
  (hW : DataW.Whole enc Tryz.prog Tryz.f7.params.toList Rows.ringKeepsSpec.vars false W args.toList ds gs before)
  (hz : (DataW.weightsEach Tryz.prog (Tryz.f7.params.toList ++ (OpenSpec.ofChange Rows.ringKeepsSpec).bare.plain.varTypes Tryz.prog) (ds ++ gs)).all (· <= reachBytes) = true) (hL : laidMetH Tryz.prog Rows.ringKeepsRow.laid W) :
  Calls Tryz.prog 7 args W fun e W'=>∃ v,e = .returned v /\ Rows.ringKeepsSpec.post enc Tryz.prog Tryz.f7 false true false false W args v W':=by
 have hval : ∀ (j : Nat) t v,Tryz.f7.params[j]? = some t -> args[j]? = some v -> Value.okWide Tryz.prog W .any base t v:=hval0
 have hW':=hW
 obtain ⟨p,q,hA0,hV,rfl,hfz,hnd⟩:=hW
 have hA : DataW.TrodAll enc Tryz.prog W 0 (fun _=>true) true Tryz.f7.params.toList args.toList ds p:=hA0
 rw [Tryz.params7] at hA hval
 have hts : (Tryz.f7.params.toList ++ (OpenSpec.ofChange Rows.ringKeepsSpec).bare.plain.varTypes Tryz.prog) = [22,22]:=by kernel_rfl
 rw [hts] at hz
 obtain ⟨v0,vs0,d0,ds0,p0,q0,hargs,rfl,rfl,h0,r0⟩:=trodAll_cons hA
 obtain ⟨v1,vs1,d1,ds1,p1,q1,rfl,rfl,rfl,h1,r1⟩:=trodAll_cons r0
 obtain ⟨rfl,rfl,rfl⟩:=trodAll_nil r1
 obtain rfl : args = #[v0,v1]:=by cases args; simp_all
 obtain ⟨rfl,rfl⟩:=trodVars_none hV
 obtain ⟨a0,n0,c0,z0,rfl,w0,l0,_⟩:=in_longs Tryz.underlying22 Tryz.underlying2 (by kernel_rfl) (hval 0 22 v0 rfl rfl) h0
 have b0:=long_bound (j:=0) (t:=22) (e:=2) hz rfl rfl Tryz.underlying22 (by kernel_rfl) (long_size Tryz.underlying22 (by kernel_rfl) h0)
 obtain ⟨a1,n1,c1,z1,rfl,w1,l1,_⟩:=in_longs Tryz.underlying22 Tryz.underlying2 (by kernel_rfl) (hval 1 22 v1 rfl rfl) h1
 have b1:=long_bound (j:=1) (t:=22) (e:=2) hz rfl rfl Tryz.underlying22 (by kernel_rfl) (long_size Tryz.underlying22 (by kernel_rfl) h1)
 have hR : RWd An.PI W:=rwd_laid hL
 clear hA0 hval0 hz hL
 simp only [List.append_nil,List.nil_append] at hW'
 refine (ringKeeps_walk W a0 n0 c0 z0 a1 n1 c1 z1 b0 b1 w0 l0 w1 l1 hR).mono fun e W' ⟨he,hg⟩=>?_
 subst he
 exact ⟨_,rfl,post_of_below (pv:=[]) hW' (fun _ _ _=>(trodAll_cons_mk (shut_bool Tryz.underlying4 _) trodAll_mk0)) (fun sp hsp=>(trodAll_cons_mk (WideElems.Trod_stays (by kernel_rfl) (by kernel_rfl) (of_decide_eq_true (by kernel_rfl)) h0 (fun x hx=>hg.same (hW'.lt x (by simp [hx]))) (fun x hx=>hsp x (by simp [hx]))) (trodAll_cons_mk (WideElems.Trod_stays (by kernel_rfl) (by kernel_rfl) (of_decide_eq_true (by kernel_rfl)) h1 (fun x hx=>hg.same (hW'.lt x (by simp [hx]))) (fun x hx=>hsp x (by simp [hx]))) trodAll_mk0))) (fun _ _=>rfl) (by simp)
  hg (ok_one (by kernel_rfl) rfl (okWide_bool_mk Tryz.underlying4 _))⟩
def lay (zs : List Nat) : Obj -> Obj
 | .cells _ t frozen=>.cells (zs.map fun (x : Nat)=>Value.int .u8 (Int.ofNat x)).toArray t frozen
 | o=>o
noncomputable def laidWorld (os : Os) : World :=
 { World.holding Tryz.prog os ⟨#[],#[],[]⟩ with heap:=(((World.holding Tryz.prog os ⟨#[],#[],[]⟩).heap.modify 1 (lay [0,1,28,2,29,14,24,3,30,22,20,15,25,17,4,8,31,27,13,23,21,19,16,7,26,12,18,6,11,5,10,9])).modify 2 (lay Lib.deBruijn64tab)).modify 3 (lay nibT) }
theorem laid_met (os : Os) : laidMet Tryz.prog Rows.ringKeepsRow.laid ((laidWorld os).forCall (fun _ _=>0) ⟨#[],#[.slice none 0 0,.slice none 0 0],[]⟩).memory :=
 laidMet_of_run' 8 (by kernel_rfl) (by kernel_rfl)
theorem reads (os : Os) {H : Type} (enc : TypeId × Value -> H) : ∃ places,DataW.whole enc Tryz.prog ((laidWorld os).forCall (fun _ _=>0) ⟨#[],#[.slice none 0 0,.slice none 0 0],[]⟩).memory Tryz.f7.params.toList Rows.ringKeepsSpec.vars false (#[.slice none 0 0,.slice none 0 0] : Array Value).toList 8 = some ([.nil,.nil],[],places) :=
 ⟨[],by kernel_rfl⟩
set_option maxRecDepth 100000 in
theorem lifted (os : Os) (started : os.Started) (H : Type) (enc : TypeId × Value -> H) (F : Stop.Interp) :
  ReturnsInHanded {} Tryz.checked os 7 .any ((OpenSpec.ofChange Rows.ringKeepsSpec).preRow enc Tryz.prog Tryz.f7 Rows.ringKeepsRow.domain false Rows.ringKeepsRow.laid) (((OpenSpec.ofChange Rows.ringKeepsSpec).at F).post enc Tryz.prog Tryz.f7 false true false false):=by
 obtain ⟨places,hx⟩:=reads os enc
 refine returnsInHanded_of_row (C:=Tryz.checked) (s:=OpenSpec.ofChange Rows.ringKeepsSpec) own started (by kernel_rfl) Tryz.func7
  (witness_row_at (enc:=enc) (C:=Tryz.checked) false (laidWorld os) #[.slice none 0 0,.slice none 0 0] rfl (by kernel_rfl) (by kernel_rfl) (by kernel_rfl)
   (OpenSpec.preRow_of_cond 8 hx (by kernel_rfl) (fun k hk=>by cases hk) (by kernel_rfl) (laid_met os))) ?_
 intro W base args ds gs before hval hW _ _ hz hL _ _
 exact contract H enc W base args ds gs before hval hW hz hL
theorem said : Rows.RingKeepsSaid :=
 OpenClaim.holds_of_cond 7 Tryz.f7 rfl rfl rfl rfl rfl rfl rfl ⟨rfl,rfl,rfl,rfl,rfl⟩ rfl rfl rfl rfl rfl (by kernel_rfl) Tryz.func7 (by kernel_rfl)
  (of_decide_eq_true (by kernel_rfl)) (by unfold Func.isWrapper; first | (rw [if_pos (by decide +kernel)]; kernel_rfl) | (rw [if_neg (by decide +kernel)]; exact ⟨rfl,rfl⟩))
  (fun os started H enc _ F=>by rw [OpenClaim.pre_eq_preRow]; exact lifted os started H enc F)
theorem plain (f : FuncId) (fn : Func) (hf : Tryz.pinned.checked.prog.funcNamed "rosette/rosettelaw11.RingKeeps" = some f) (hfn : Tryz.pinned.checked.prog.funcs[f]? = some fn) :
  false = Tryz.pinned.checked.prog.looks [] /\ ∀ (j : Nat) t,fn.params[j]? = some t -> Tryz.pinned.checked.prog.wantsStandIn t = false:=by
 obtain rfl : f = 7 := Option.some.inj ((show Tryz.prog.funcNamed "rosette/rosettelaw11.RingKeeps" = some 7 by kernel_rfl).symm.trans hf) |>.symm
 obtain rfl : fn = Tryz.f7:=(Option.some.inj (Tryz.func7.symm.trans hfn)).symm
 refine ⟨by kernel_rfl,fun j t ht=>?_⟩
 rw [Tryz.params7] at ht
 have hm:=Array.mem_of_getElem? ht
 have hor : t = 22:=by simp at hm; omega
 subst hor
 exact (show Tryz.prog.wantsStandIn 22 = false by kernel_rfl)
theorem card : Rows.RingKeepsCardSaid :=
 Claim7.holds_tied_plain_at .later [] _ _ _ _ said (fun _ h=>by cases h) (by kernel_rfl) (fun _ h=>by cases h) ringKeeps_row_tie rfl ⟨rfl,rfl⟩ (by kernel_rfl) rfl plain (by kernel_rfl)
end ringKeeps
theorem ringKeeps_holds : Rows.RingKeepsCardSaid:=ringKeeps.card
#print axioms ringKeeps_holds
end
end Go.Proofs.YtfpopdneokekiaaGreatDoor

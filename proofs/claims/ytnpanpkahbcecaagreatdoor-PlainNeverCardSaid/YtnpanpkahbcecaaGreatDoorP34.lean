/-
Walks: rosetteref11's Order and greatest.
-/
import Derived.Test.YtnpanpkahbcecaaGreatDoorP33
import Derived.Lib.EndianBits
import Derived.Deep.RegionWith
import Derived.Lib.Hide
set_option linter.unusedVariables false
set_option linter.unusedSimpArgs false
namespace Go.Proofs.YtnpanpkahbcecaaGreatDoor
section
open Go.RowKit
set_option maxRecDepth 100000 in
set_option maxHeartbeats 2000000 in
theorem pairs_any (n g : Nat) (a : List Nat) (w : World) (hn1 : 1 <= n) (hn2 : n <= 16384) (ha : FRow w 0 g n a) :
  Calls Tryz.prog 128 #[.slice (some ⟨g,0,none⟩) n n,.slice none 0 0] w fun e w'=>∃ g2,e = .returned (.slice (some ⟨g2,0,none⟩) n n) /\ CRow w' w.heap.size g2 n (a.map (fun x=>(x,0))) /\ Below w.heap.size w w':=by
 obtain ⟨i0,hi0,hz0,hz1,hz2⟩:=info_parts c128_info
 have HA:=Hd ha
 have HLL:=Hd ha.len
 obtain ⟨L,hL⟩ : ∃ L : List (Nat × Nat),L = a.map (fun x=>(x,0)):=⟨_,rfl⟩
 have HLM:=Hd hL
 rw [<- hL]
 clear ha hL
 go_enter Tryz.func128,Tryz.ntmps128
 go_wp2_with (refine wpList_make_full _ rfl (.tmp 10) (.tmp 10) 123 rfl w.heap.size 160 i0 _ 1 Tryz.underlying123 hi0 hz0 hz1 .i64 .i64 _ _ n rfl rfl (by omega) (by omega) (by rw [hz2]; omega) (by simp only [maxLen]; omega) (Nat.le_refl _) ?_; intro w1 hown1 hg1; have HB1:=Hd ((Below.refl w.heap.size w).grown hg1 (Nat.le_refl _) (fun k hk=>by cases hk)); have ROW:=Hd (CRow.made hown1); clear hown1 hg1)
 go_loopw [14] (fun iv wr=>∃ (i : Nat) (o : List (Nat × Nat)),iv = .int .i64 i /\ i <= n /\ Hid (∀ j < i,o[j]? = L[j]?) /\ Hid (CRow wr w.heap.size w.heap.size n o) /\ Hid (Below w.heap.size w wr)) (fun iv _=>n - (intOf iv).toNat)
 case atStart=>exact ⟨0,List.replicate n (0,0),rfl,Nat.zero_le _,Hd (fun j hj=>absurd hj (Nat.not_lt_zero _)),ROW,HB1⟩
 case round =>
  clear ROW HB1
  obtain ⟨i,o,rfl,hi,HI,HR,HB⟩:=hrel
  by_cases hlt : i < n
  ·obtain ⟨y,hy⟩ : ∃ y,a[i]? = some y:=⟨_,List.getElem?_eq_getElem (by rw [HLL.out]; exact hlt)⟩
   have d1:=(HA.out.below HB.out).cell i y hy
   have k4 : L[i]? = some ((y,0) : Nat × Nat):=by rw [HLM.out,List.getElem?_map,hy]; rfl
   obtain ⟨v0,hv0⟩ : ∃ v0,o[i]? = some v0:=⟨_,List.getElem?_eq_getElem (by have:=HR.out.len; omega)⟩
   have hcell:=HR.out.cell i v0 hv0
   have hfr:=HR.out.free i
   have hLn : L.length = n:=by rw [HLM.out,List.length_map,HLL.out]
   have HIN : Hid (∀ j < i + 1,(o.set i ((y,0) : Nat × Nat))[j]? = L[j]?):=Hd (fun j hj=>by
    have hol : o.length = L.length:=by rw [HR.out.len,hLn]
    by_cases e : j = i
    ·subst e; exact set_right_self k4 hol
    ·exact set_right k4 hol (HI.out j (by omega)))
   have hst:=fun u : World=>run_store_complex (P:=Tryz.prog) (w:=u) (a:=⟨w.heap.size,i,none⟩) (m:=.plain) .f64 y 0
   have HRN:=Hd (HR.out.set i (y,0))
   have HBN:=Hd (HB.out.setCell (p:=⟨w.heap.size,i,none⟩) (Nat.le_refl _) (.complex .f64 y 0))
   clear hy k4 hv0 hLn
   go_wp2_with fail
   exact ⟨⟨i + 1,_,by go_num,hlt,HIN,HRN,HBN⟩,by simp [intOf]; omega⟩
  ·obtain rfl : n = i:=by omega
   have HOL : Hid (o = L):=Hd (by
    apply List.ext_getElem?
    intro k
    by_cases hk : k < n
    ·exact HI.out k hk
    ·rw [List.getElem?_eq_none (by rw [HR.out.len]; omega),List.getElem?_eq_none (by rw [HLM.out,List.length_map,HLL.out]; omega)])
   go_wp2_with fail
   go_ret
   exact ⟨_,rfl,by rw [<- HOL.out]; exact HR.out,HB.out⟩
set_option maxHeartbeats 1000000 in
theorem rforward_any (K P n g : Nat) (l : List (Nat × Nat)) (a : List Nat) (x : Nat -> Nat × Nat) (w : World) (hK : K <= 14) (hn : n = 2 ^ K) (hR : RWd P w) (h : Whl P K l) (ha : FRow w 0 g n a) (hx : ∀ p < n,a[p]? = some (x p).1 /\ (x p).2 = 0) (hok : StepOk (wW K (halfL K l)) K x) :
  Calls Tryz.prog 88 #[.slice (some ⟨g,0,none⟩) n n] w (RPostC w n ((List.range n).map (LV (wW K (halfL K l)) K x K))):=by
 have h2 : 2 ^ K <= 2 ^ 14:=Nat.pow_le_pow_right (by decide) hK
 have h1:=Nat.two_pow_pos K
 have HP:=Hd (pairs_any n g a w (by omega) (by omega) ha)
 have HF:=Hd (fun (u : World) (hu : Below w.heap.size w u) g2 (hr : CRow u w.heap.size g2 n (a.map (fun x=>(x,0))))=>forward_any K P n g2 l (a.map (fun x=>(x,0))) x u hK hn (hR.below hu) h (hr.base (Nat.zero_le _)) (fun p hp=>by
  rw [List.getElem?_map,(hx p hp).1,<- (hx p hp).2]; rfl) hok)
 obtain ⟨Z,hZ⟩ : ∃ Z,Z = (List.range n).map (LV (wW K (halfL K l)) K x K):=⟨_,rfl⟩
 rw [<- hZ] at HF ⊢
 clear hZ hok hx ha h hR hn h1 h2
 go_enter Tryz.func88,Tryz.ntmps88
 go_wp2_with fail
 refine HP.out.mono ?_
 rintro e w1 ⟨g2,rfl,hr,hb⟩
 have HC:=Hd (HF.out w1 hb g2 hr)
 have HB:=Hd hb
 clear hr hb HF HP
 go_wp2_with fail
 refine HC.out.mono ?_
 rintro e w2 ⟨g3,rfl,hr2,hb2⟩
 have HR2:=Hd (hr2.base (Nat.le_trans HB.out.size hr2.lt.1))
 have HB2:=Hd (HB.out.trans (hb2.mono HB.out.size))
 clear hr2 hb2
 go_wp2_with fail
 go_ret2
 exact ⟨_,rfl,HR2.out,HB2.out⟩
end
section
open Go.RowKit
set_option maxHeartbeats 1000000 in
theorem rback_any (K P n g : Nat) (l xs : List (Nat × Nat)) (x : Nat -> Nat × Nat) (w : World) (hK : K <= 14) (hn : n = 2 ^ K) (hR : RWd P w) (h : Whl P K l) (hv : ∀ z ∈ l,z.2 < 2 * Fl.W) (hr : CRow w 0 g n xs) (hx : ∀ p < n,xs[p]? = some (x p))
  (hok : StepOk (wW K ((halfL K l).map cjW)) K x) (hf : ∀ p < n,finW (LV (wW K ((halfL K l).map cjW)) K x K p).1 /\ finW (LV (wW K ((halfL K l).map cjW)) K x K p).2) :
  Calls Tryz.prog 90 #[.slice (some ⟨g,0,none⟩) n n] w fun e w'=>∃ g1,e = .returned (.tuple #[.slice (some ⟨g1,0,none⟩) n n,.int .i64 0]) /\ FRow w' w.heap.size g1 n ((List.range n).map (fun p=>scW (-(K : Int)) (LV (wW K ((halfL K l).map cjW)) K x K p).1)) /\ Below w.heap.size w w':=by
 have h2 : 2 ^ K <= 2 ^ 14:=Nat.pow_le_pow_right (by decide) hK
 have h1:=Nat.two_pow_pos K
 have HB0:=Hd (back_any K P n g l xs x w hK hn hR h hv hr hx hok hf)
 obtain ⟨F,hF⟩ : ∃ F,F = LV (wW K ((halfL K l).map cjW)) K x K:=⟨_,rfl⟩
 rw [<- hF] at HB0 ⊢
 have hn1 : 1 <= n:=by omega
 have hn2 : n <= 16384:=by omega
 have HS:=Hd (fun (u : World) g2 (hh : CRow u 0 g2 n ((List.range n).map (fun p=>scC (-(K : Int)) (F p))))=>split_any n g2 _ u hn1 hn2 hh)
 have e : ((List.range n).map (fun p=>scC (-(K : Int)) (F p))).map (·.1) = (List.range n).map (fun p=>scW (-(K : Int)) (F p).1):=by rw [List.map_map]; rfl
 rw [e] at HS
 obtain ⟨Z,hZ⟩ : ∃ Z,Z = (List.range n).map (fun p=>scW (-(K : Int)) (F p).1):=⟨_,rfl⟩
 obtain ⟨Y,hY⟩ : ∃ Y,Y = (List.range n).map (fun p=>scC (-(K : Int)) (F p)):=⟨_,rfl⟩
 rw [<- hY] at HS HB0
 rw [<- hZ] at HS ⊢
 clear e hZ hY hF hn hR h hv hr hx hok hf h1 h2
 go_enter Tryz.func90,Tryz.ntmps90
 go_wp2_with fail
 refine HB0.out.mono ?_
 rintro e w1 ⟨g2,rfl,hr,hb⟩
 have HC:=Hd (HS.out w1 g2 (hr.base (Nat.zero_le _)))
 have HB:=Hd hb
 clear hr hb HS HB0
 go_wp2_with fail
 refine HC.out.mono ?_
 rintro e w2 ⟨ga,gb,rfl,hr2,hb2⟩
 have HR2:=Hd (hr2.base (Nat.le_trans HB.out.size hr2.lt.1))
 have HB2:=Hd (HB.out.trans (hb2.mono HB.out.size))
 clear hr2 hb2
 go_wp2_with fail
 go_ret2
 exact ⟨_,rfl,HR2.out,HB2.out⟩
end
section
open Go.RowKit
def LRow (w : World) (base g n : Nat) (l : List Int) : Prop:=RowV 2 w base g n n (l.map (Value.int .i64))
theorem LRow.made {w : World} {base n m : Nat} (h : w.ownsRow base 2 1 (.slice (some ⟨m,0,none⟩) n n) n (madeCells (Value.int .i64 0).cells (n * 1)).toList) : LRow w base m n (List.replicate n 0):=by
 have:=RowV.made (z:=.int .i64 0) rfl h
 unfold LRow; rw [List.map_replicate]; exact this
theorem LRow.len {w : World} {base g n : Nat} {l : List Int} (h : LRow w base g n l) : l.length = n:=by have:=RowV.len h; simpa using this
theorem LRow.cell {w : World} {base g n : Nat} {l : List Int} (h : LRow w base g n l) (j : Nat) (x : Int) (hj : l[j]? = some x) : w.cell? ⟨g,j,none⟩ = some (.int .i64 x):=RowV.cell h j (.int .i64 x) (by rw [List.getElem?_map,hj]; rfl)
theorem LRow.free {w : World} {base g n : Nat} {l : List Int} (h : LRow w base g n l) (j : Nat) : w.frozen? ⟨g,j,none⟩ = false:=RowV.free h j
theorem LRow.set {w : World} {base g n : Nat} {l : List Int} (h : LRow w base g n l) (j : Nat) (x : Int) : LRow (w.setCell ⟨g,j,none⟩ (.int .i64 x)) base g n (l.set j x):=by
 have:=RowV.set h j (.int .i64 x)
 unfold LRow; rw [List.map_set]; exact this
theorem LRow.drewN {w : World} {base g n : Nat} {l : List Int} (h : LRow w base g n l) (m : Nat) : LRow (w.drewN m) base g n l:=h
set_option maxRecDepth 100000 in
set_option maxHeartbeats 4000000 in
theorem rcyclic_core (n f : Nat) (A B : Option Addr) (c c' : Nat) (fa fb : List Nat) (U V Wp : List (Nat × Nat)) (Z : List Nat) (w : World) (hn1 : 1 <= n) (hn2 : n <= 16384)
  (hbound : Calls Tryz.prog 86 #[.slice A n c,.slice B n c'] w fun e w'=>e = .returned (.tuple #[.float .f64 f,.int .i64 0]) /\ Below w.heap.size w w')
  (hlt : (FloatKind.f64.format.order f 4598175219545276416 == some Ordering.lt) = true)
  (hfa : ∀ u,Below w.heap.size w u -> Calls Tryz.prog 87 #[.slice A n c] u fun e w'=>∃ g s,e = .returned (.tuple #[.slice (some ⟨g,0,none⟩) n n,.float .f64 s,.bool true]) /\ FRow w' u.heap.size g n fa /\ Below u.heap.size u w')
  (hfb : ∀ u,Below w.heap.size w u -> Calls Tryz.prog 87 #[.slice B n c'] u fun e w'=>∃ g s,e = .returned (.tuple #[.slice (some ⟨g,0,none⟩) n n,.float .f64 s,.bool true]) /\ FRow w' u.heap.size g n fb /\ Below u.heap.size u w')
  (hU : ∀ u g,Below w.heap.size w u -> FRow u 0 g n fa -> Calls Tryz.prog 88 #[.slice (some ⟨g,0,none⟩) n n] u (RPostC u n U))
  (hV : ∀ u g,Below w.heap.size w u -> FRow u 0 g n fb -> Calls Tryz.prog 88 #[.slice (some ⟨g,0,none⟩) n n] u (RPostC u n V))
  (hP : ∀ u g g',CRow u 0 g n U -> CRow u 0 g' n V -> Calls Tryz.prog 89 #[.slice (some ⟨g,0,none⟩) n n,.slice (some ⟨g',0,none⟩) n n] u (RPostC u n Wp))
  (hZ : ∀ u g,Below w.heap.size w u -> CRow u 0 g n Wp -> Calls Tryz.prog 90 #[.slice (some ⟨g,0,none⟩) n n] u fun e w'=>∃ g1,e = .returned (.tuple #[.slice (some ⟨g1,0,none⟩) n n,.int .i64 0]) /\ FRow w' u.heap.size g1 n Z /\ Below u.heap.size u w')
  (hZv : ∀ z ∈ Z,z < 2 * Fl.W) :
  Calls Tryz.prog 57 #[.slice A n c,.slice B n c'] w fun e w'=>∃ g,e = .returned (.tuple #[.slice (some ⟨g,0,none⟩) n n,.int .i64 0]) /\ LRow w' w.heap.size g n (Z.map Fl.nearN) /\ Below w.heap.size w w':=by
 obtain ⟨i0,hi0,hz0,hz1,hz2⟩:=info_parts i64_info
 have HBD:=Hd hbound
 have HFA:=Hd hfa
 have HFB:=Hd hfb
 have HU:=Hd hU
 have HV:=Hd hV
 have HP:=Hd hP
 have HZ:=Hd hZ
 have HZV:=Hd hZv
 obtain ⟨L,hL⟩ : ∃ L,L = Z.map Fl.nearN:=⟨_,rfl⟩
 have HLM:=Hd hL
 rw [<- hL]
 clear hbound hfa hfb hU hV hP hZ hZv hL
 go_enter Tryz.func57,Tryz.ntmps57
 go_wp2_with fail
 refine HBD.out.mono ?_
 rintro e w1 ⟨rfl,b1⟩
 have B1:=Hd b1
 clear b1 HBD
 go_wp2_with fail
 refine (HFA.out w1 B1.out).mono ?_
 rintro e w2 ⟨g1,s1,rfl,r1,b2⟩
 have R1:=Hd (r1.base (Nat.zero_le _))
 have B2:=Hd (B1.out.trans (b2.mono B1.out.size))
 clear r1 b2 HFA B1
 go_wp2_with fail
 refine (HFB.out w2 B2.out).mono ?_
 rintro e w3 ⟨g2,s2,rfl,r2,b3⟩
 have R1':=Hd (R1.out.below (b3.mono (Nat.le_refl _)))
 have R2:=Hd (r2.base (Nat.zero_le _))
 have B3:=Hd (B2.out.trans (b3.mono B2.out.size))
 clear r2 b3 HFB B2 R1
 go_wp2_with fail
 refine (HU.out w3 g1 B3.out R1'.out).mono ?_
 rintro e w4 ⟨g3,rfl,r3,b4⟩
 have R2':=Hd (R2.out.below b4)
 have R3:=Hd (r3.base (Nat.zero_le _))
 have B4:=Hd (B3.out.trans (b4.mono B3.out.size))
 clear r3 b4 HU B3 R2 R1'
 go_wp2_with fail
 refine (HV.out w4 g2 B4.out R2'.out).mono ?_
 rintro e w5 ⟨g4,rfl,r4,b5⟩
 have R3':=Hd (R3.out.below b5)
 have R4:=Hd (r4.base (Nat.zero_le _))
 have B5:=Hd (B4.out.trans (b5.mono B4.out.size))
 clear r4 b5 HV B4 R3 R2'
 go_wp2_with fail
 refine (HP.out w5 g3 g4 R3'.out R4.out).mono ?_
 rintro e w6 ⟨g5,rfl,r5,b6⟩
 have R5:=Hd (r5.base (Nat.zero_le _))
 have B6:=Hd (B5.out.trans (b6.mono B5.out.size))
 clear r5 b6 HP B5 R3' R4
 go_wp2_with fail
 refine (HZ.out w6 g5 B6.out R5.out).mono ?_
 rintro e w7 ⟨g6,rfl,r6,b7⟩
 have R6:=Hd r6
 have B7:=Hd (B6.out.trans (b7.mono B6.out.size))
 clear r6 b7 HZ B6 R5
 have HLL:=Hd R6.out.len
 go_wp2_with (refine wpList_make_full _ rfl (.tmp 73) (.tmp 73) 22 rfl w7.heap.size 2 i0 _ 1 Tryz.underlying22 hi0 hz0 hz1 .i64 .i64 _ _ n rfl rfl (by omega) (by omega) (by rw [hz2]; omega) (by simp only [maxLen]; omega) (Nat.le_refl _) ?_; intro w8 hown1 hg1; have HB1:=Hd ((Below.refl w7.heap.size w7).grown hg1 (Nat.le_refl _) (fun k hk=>by cases hk)); have ROW:=Hd (LRow.made hown1); clear hown1 hg1; have STOP : Hid True:=Hd trivial; revert STOP)
 intro STOP
 clear STOP
 have R6':=Hd (R6.out.below HB1.out)
 have B8:=Hd (B7.out.trans (HB1.out.mono B7.out.size))
 obtain ⟨G,hG⟩ : ∃ G,G = w7.heap.size:=⟨_,rfl⟩
 have hGb : w.heap.size <= G:=by rw [hG]; exact B7.out.size
 have hg6 : g6 < G:=by rw [hG]; exact R6.out.lt.2
 have ROW2 : Hid (LRow w8 w.heap.size G n (List.replicate n 0)):=Hd (RowV.base (by rw [hG]; exact ROW.out) hGb)
 rw [<- hG]
 clear hG R6 B7 HB1 ROW hlt
 go_wp2_with fail
 go_loopw [77] (fun iv wr=>∃ (i : Nat) (o : List Int),iv = .int .i64 i /\ i <= n /\ Hid (∀ j < i,o[j]? = L[j]?) /\ Hid (LRow wr w.heap.size G n o) /\ Hid (FRow wr 0 g6 n Z) /\ Hid (Below w.heap.size w wr)) (fun iv _=>n - (intOf iv).toNat)
 case atStart=>exact ⟨0,List.replicate n 0,rfl,Nat.zero_le _,Hd (fun j hj=>absurd hj (Nat.not_lt_zero _)),ROW2,Hd (R6'.out.base (Nat.zero_le _)),B8⟩
 case round =>
  clear ROW2 R6' B8
  obtain ⟨i,o,rfl,hi,HI,HR,HQ,HB⟩:=hrel
  by_cases hlt : i < n
  ·obtain ⟨z,hz⟩ : ∃ z,Z[i]? = some z:=⟨_,List.getElem?_eq_getElem (by rw [HLL.out]; exact hlt)⟩
   have hzv:=HZV.out z (List.mem_of_getElem? hz)
   have HN:=Hd (fun u=>near_any z u hzv)
   have d1:=HQ.out.cell i z hz
   have hfr : wr.frozen? ⟨G,i,none⟩ = false:=HR.out.free i
   obtain ⟨y,hy⟩ : ∃ y,y = Fl.nearN z:=⟨_,rfl⟩
   have k4 : L[i]? = some y:=by rw [HLM.out,List.getElem?_map,hz,hy]; rfl
   obtain ⟨v0,hv0⟩ : ∃ v0,o[i]? = some v0:=⟨_,List.getElem?_eq_getElem (by have:=HR.out.len; omega)⟩
   have hLn : L.length = n:=by rw [HLM.out,List.length_map,HLL.out]
   have HIN : Hid (∀ j < i + 1,(o.set i y)[j]? = L[j]?):=Hd (fun j hj=>by
    have hol : o.length = L.length:=by rw [HR.out.len,hLn]
    by_cases e : j = i
    ·subst e; exact set_right_self k4 hol
    ·exact set_right k4 hol (HI.out j (by omega)))
   have HV0:=Hd hv0
   unfold NPost at HN
   rw [<- hy] at HN
   clear hz k4 hv0 hLn hy hfr
   go_wp2_with fail
   refine (HN.out _).mono ?_
   rintro e w9 ⟨rfl,nq,rfl⟩
   have HRD:=Hd (HR.out.drewN nq)
   have HQD:=Hd (HQ.out.drewN nq)
   have HBD:=Hd (Below.drewN' HB.out nq)
   have hcell:=HRD.out.cell i v0 HV0.out
   have hfr:=HRD.out.free i
   have HRN:=Hd (HRD.out.set i y)
   have HQN : Hid (FRow ((wr.drewN nq).setCell ⟨G,i,none⟩ (.int .i64 y)) 0 g6 n Z):=Hd (RowV.setOther (e':=76) HQD.out G i (.int .i64 y) (by omega) (Nat.zero_le _))
   have HBN:=Hd (HBD.out.setCell (p:=⟨G,i,none⟩) hGb (.int .i64 y))
   clear HRD HQD HBD HR HQ HB
   generalize wr.drewN nq = v at *
   go_wp2_with fail
   exact ⟨⟨i + 1,_,by go_num,hlt,HIN,HRN,HQN,HBN⟩,by simp [intOf]; omega⟩
  ·obtain rfl : n = i:=by omega
   have HOL : Hid (o = L):=Hd (by
    apply List.ext_getElem?
    intro k
    by_cases hk : k < n
    ·exact HI.out k hk
    ·rw [List.getElem?_eq_none (by rw [HR.out.len]; omega),List.getElem?_eq_none (by rw [HLM.out,List.length_map,HLL.out]; omega)])
   go_wp2_with fail
   go_ret2
   exact ⟨_,rfl,by rw [<- HOL.out]; exact HR.out,HB.out⟩
end
section
open Go.RowKit
theorem rcyclic_err (n n' f : Nat) (T : Int) (A B : Option Addr) (c c' : Nat) (w : World) (hT : T ≠ 0)
  (hbound : Calls Tryz.prog 86 #[.slice A n c,.slice B n' c'] w fun e w'=>e = .returned (.tuple #[.float .f64 f,.int .i64 T]) /\ Below w.heap.size w w') :
  Calls Tryz.prog 57 #[.slice A n c,.slice B n' c'] w fun e w'=>e = .returned (.tuple #[.slice none 0 0,.int .i64 T]) /\ Below w.heap.size w w':=by
 have HBD:=Hd hbound
 have h0 : (T != 0) = true:=by simpa using hT
 clear hbound
 go_enter Tryz.func57,Tryz.ntmps57
 go_wp2_with fail
 refine HBD.out.mono ?_
 rintro e w1 ⟨rfl,b1⟩
 have B1:=Hd b1
 clear b1 HBD
 go_wp2_with fail
 go_ret2
 exact ⟨rfl,B1.out⟩
theorem rcyclic_bound (n n' f : Nat) (A B : Option Addr) (c c' : Nat) (w : World)
  (hbound : Calls Tryz.prog 86 #[.slice A n c,.slice B n' c'] w fun e w'=>e = .returned (.tuple #[.float .f64 f,.int .i64 0]) /\ Below w.heap.size w w')
  (hge : (FloatKind.f64.format.order f 4598175219545276416 == some Ordering.lt) = false) :
  Calls Tryz.prog 57 #[.slice A n c,.slice B n' c'] w fun e w'=>e = .returned (.tuple #[.slice none 0 0,.int .i64 8]) /\ Below w.heap.size w w':=by
 have HBD:=Hd hbound
 clear hbound
 go_enter Tryz.func57,Tryz.ntmps57
 go_wp2_with fail
 refine HBD.out.mono ?_
 rintro e w1 ⟨rfl,b1⟩
 have B1:=Hd b1
 clear b1 HBD
 go_wp2_with fail
 go_ret2
 exact ⟨rfl,B1.out⟩
end
section
open Go.RowKit
def wvH (V : Int) : Value:=.int .i64 (IntKind.i64.wrap (V / 18446744073709551616))
def wvL (V : Int) : Value:=.int .u64 (IntKind.u64.wrap V)
end
section
open Go.RowKit
end
section
open Go.RowKit
end
section
open Go.RowKit
def WCl (g : Nat) (V : Int) (w : World) : Prop:=(w.cell? ⟨g,0,none⟩ = some (wvH V) /\ w.cell? ⟨g,1,none⟩ = some (wvL V)) /\ (w.frozen? ⟨g,0,none⟩ = false /\ w.frozen? ⟨g,1,none⟩ = false) /\ g < w.heap.size
theorem WCl.below {g : Nat} {V : Int} {w w' : World} (h : WCl g V w) (hb : Below w.heap.size w w') : WCl g V w':=by
 obtain ⟨⟨h0,h1⟩,⟨f0,f1⟩,hl⟩:=h
 refine ⟨⟨(hb.cell (p:=⟨g,0,none⟩) hl).trans h0,(hb.cell (p:=⟨g,1,none⟩) hl).trans h1⟩,⟨?_,?_⟩,Nat.lt_of_lt_of_le hl hb.size⟩
 ·rw [<- f0]; unfold World.frozen?; rw [hb.block g hl]
 ·rw [<- f1]; unfold World.frozen?; rw [hb.block g hl]
end
section
open Go.RowKit
def lowS (x y : Nat -> Int) : Nat -> Int
 | 0=>0
 | i + 1=>lowS x y i + (x i % 4294967296) * y i
def allS (x y : Nat -> Int) : Nat -> Int
 | 0=>0
 | i + 1=>allS x y i + x i * y i
end
section
open Go.RowKit
end
section
open Go.RowKit
def cvI (a b : List Int) (n j : Nat) : Int:=allS (fun m=>a.getD m 0) (fun m=>b.getD ((j + n - m) % n) 0) n
def L64b (l : List Int) : Prop:=∀ x ∈ l,-9223372036854775808 <= x /\ x < 9223372036854775808
theorem get_of {l : List Int} {n m : Nat} (hl : l.length = n) (hm : m < n) : l[m]? = some (l.getD m 0):=by
 rw [List.getD_eq_getElem?_getD,List.getElem?_eq_getElem (by omega)]; rfl
end
section
open Go.RowKit
end
end Go.Proofs.YtnpanpkahbcecaaGreatDoor

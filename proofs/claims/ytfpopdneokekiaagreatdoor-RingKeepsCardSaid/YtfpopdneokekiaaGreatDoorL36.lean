/-
Walks: rosetteref11's Order and greatest.
-/
import Derived.Test.YtfpopdneokekiaaGreatDoorL35
import Derived.Lib.EndianBits
import Derived.Deep.RegionWith
import Derived.Lib.Hide
set_option linter.unusedVariables false
set_option linter.unusedSimpArgs false
namespace Go.Proofs.YtfpopdneokekiaaGreatDoor
section
open Go.RowKit
set_option maxRecDepth 100000 in
set_option maxHeartbeats 2000000 in
theorem pairs_any (n g : Nat) (a : List Nat) (w : World) (hn1 : 1 <= n) (hn2 : n <= 16384) (ha : FRow w 0 g n a) :
  Calls Tryz.prog 62 #[.slice (some ⟨g,0,none⟩) n n,.slice none 0 0] w fun e w'=>∃ g2,e = .returned (.slice (some ⟨g2,0,none⟩) n n) /\ CRow w' w.heap.size g2 n (a.map (fun x=>(x,0))) /\ Below w.heap.size w w':=by
 obtain ⟨i0,hi0,hz0,hz1,hz2⟩:=info_parts c128_info
 have HA:=Hd ha
 have HLL:=Hd ha.len
 obtain ⟨L,hL⟩ : ∃ L : List (Nat × Nat),L = a.map (fun x=>(x,0)):=⟨_,rfl⟩
 have HLM:=Hd hL
 rw [<- hL]
 clear ha hL
 go_enter Tryz.func62,Tryz.ntmps62
 go_wp2_with (refine wpList_make_full _ rfl (.tmp 10) (.tmp 10) 58 rfl w.heap.size 103 i0 _ 1 Tryz.underlying58 hi0 hz0 hz1 .i64 .i64 _ _ n rfl rfl (by omega) (by omega) (by rw [hz2]; omega) (by simp only [maxLen]; omega) (Nat.le_refl _) ?_; intro w1 hown1 hg1; have HB1:=Hd ((Below.refl w.heap.size w).grown hg1 (Nat.le_refl _) (fun k hk=>by cases hk)); have ROW:=Hd (CRow.made hown1); clear hown1 hg1)
 go_loopw [14] (fun iv wr=>∃ (i : Nat) (o : List (Nat × Nat)),iv = .int .i64 i /\ i <= n /\ Hid (∀ j < i,o[j]? = L[j]?) /\ Hid (CRow wr w.heap.size w.heap.size n o) /\ Hid (Below w.heap.size w wr)) (fun iv _=>n - (intOf iv).toNat)
 case atStart=>exact ⟨0,List.replicate n (0,0),rfl,Nat.zero_le _,Hd (fun j hj=>absurd hj (Nat.not_lt_zero _)),ROW,HB1⟩
 case round =>
  clear ROW HB1
  obtain ⟨i,o,rfl,hi,HI,HR,HB⟩:=hrel
  by_cases hlt : i < n
  ·obtain ⟨y,hy⟩ : ∃ y,a[i]? = some y:=⟨_,List.getElem?_eq_getElem (by rw [HLL.out]; exact hlt)⟩
   have d1:=(HA.out.below HB.out).cell i y hy
   have k4 : L[i]? = some ((y,0) : Nat × Nat):=by rw [HLM.out,List.getElem?_map,hy]; rfl
   obtain ⟨v0,hv0⟩ : ∃ v0,o[i]? = some v0:=⟨_,List.getElem?_eq_getElem (by have:=HR.out.len; omega)⟩
   have hcell:=HR.out.cell i v0 hv0
   have hfr:=HR.out.free i
   have hLn : L.length = n:=by rw [HLM.out,List.length_map,HLL.out]
   have HIN : Hid (∀ j < i + 1,(o.set i ((y,0) : Nat × Nat))[j]? = L[j]?):=Hd (fun j hj=>by
    have hol : o.length = L.length:=by rw [HR.out.len,hLn]
    by_cases e : j = i
    ·subst e; exact set_right_self k4 hol
    ·exact set_right k4 hol (HI.out j (by omega)))
   have hst:=fun u : World=>run_store_complex (P:=Tryz.prog) (w:=u) (a:=⟨w.heap.size,i,none⟩) (m:=.plain) .f64 y 0
   have HRN:=Hd (HR.out.set i (y,0))
   have HBN:=Hd (HB.out.setCell (p:=⟨w.heap.size,i,none⟩) (Nat.le_refl _) (.complex .f64 y 0))
   clear hy k4 hv0 hLn
   go_wp2_with fail
   exact ⟨⟨i + 1,_,by go_num,hlt,HIN,HRN,HBN⟩,by simp [intOf]; omega⟩
  ·obtain rfl : n = i:=by omega
   have HOL : Hid (o = L):=Hd (by
    apply List.ext_getElem?
    intro k
    by_cases hk : k < n
    ·exact HI.out k hk
    ·rw [List.getElem?_eq_none (by rw [HR.out.len]; omega),List.getElem?_eq_none (by rw [HLM.out,List.length_map,HLL.out]; omega)])
   go_wp2_with fail
   go_ret
   exact ⟨_,rfl,by rw [<- HOL.out]; exact HR.out,HB.out⟩
set_option maxHeartbeats 1000000 in
theorem rforward_any (K P n g : Nat) (l : List (Nat × Nat)) (a : List Nat) (x : Nat -> Nat × Nat) (w : World) (hK : K <= 14) (hn : n = 2 ^ K) (hR : RWd P w) (h : Whl P K l) (ha : FRow w 0 g n a) (hx : ∀ p < n,a[p]? = some (x p).1 /\ (x p).2 = 0) (hok : StepOk (wW K (halfL K l)) K x) :
  Calls Tryz.prog 37 #[.slice (some ⟨g,0,none⟩) n n] w (RPostC w n ((List.range n).map (LV (wW K (halfL K l)) K x K))):=by
 have h2 : 2 ^ K <= 2 ^ 14:=Nat.pow_le_pow_right (by decide) hK
 have h1:=Nat.two_pow_pos K
 have HP:=Hd (pairs_any n g a w (by omega) (by omega) ha)
 have HF:=Hd (fun (u : World) (hu : Below w.heap.size w u) g2 (hr : CRow u w.heap.size g2 n (a.map (fun x=>(x,0))))=>forward_any K P n g2 l (a.map (fun x=>(x,0))) x u hK hn (hR.below hu) h (hr.base (Nat.zero_le _)) (fun p hp=>by
  rw [List.getElem?_map,(hx p hp).1,<- (hx p hp).2]; rfl) hok)
 obtain ⟨Z,hZ⟩ : ∃ Z,Z = (List.range n).map (LV (wW K (halfL K l)) K x K):=⟨_,rfl⟩
 rw [<- hZ] at HF ⊢
 clear hZ hok hx ha h hR hn h1 h2
 go_enter Tryz.func37,Tryz.ntmps37
 go_wp2_with fail
 refine HP.out.mono ?_
 rintro e w1 ⟨g2,rfl,hr,hb⟩
 have HC:=Hd (HF.out w1 hb g2 hr)
 have HB:=Hd hb
 clear hr hb HF HP
 go_wp2_with fail
 refine HC.out.mono ?_
 rintro e w2 ⟨g3,rfl,hr2,hb2⟩
 have HR2:=Hd (hr2.base (Nat.le_trans HB.out.size hr2.lt.1))
 have HB2:=Hd (HB.out.trans (hb2.mono HB.out.size))
 clear hr2 hb2
 go_wp2_with fail
 go_ret2
 exact ⟨_,rfl,HR2.out,HB2.out⟩
end
section
open Go.RowKit
set_option maxHeartbeats 1000000 in
theorem rback_any (K P n g : Nat) (l xs : List (Nat × Nat)) (x : Nat -> Nat × Nat) (w : World) (hK : K <= 14) (hn : n = 2 ^ K) (hR : RWd P w) (h : Whl P K l) (hv : ∀ z ∈ l,z.2 < 2 * Fl.W) (hr : CRow w 0 g n xs) (hx : ∀ p < n,xs[p]? = some (x p))
  (hok : StepOk (wW K ((halfL K l).map cjW)) K x) (hf : ∀ p < n,finW (LV (wW K ((halfL K l).map cjW)) K x K p).1 /\ finW (LV (wW K ((halfL K l).map cjW)) K x K p).2) :
  Calls Tryz.prog 39 #[.slice (some ⟨g,0,none⟩) n n] w fun e w'=>∃ g1,e = .returned (.tuple #[.slice (some ⟨g1,0,none⟩) n n,.int .i64 0]) /\ FRow w' w.heap.size g1 n ((List.range n).map (fun p=>scW (-(K : Int)) (LV (wW K ((halfL K l).map cjW)) K x K p).1)) /\ Below w.heap.size w w':=by
 have h2 : 2 ^ K <= 2 ^ 14:=Nat.pow_le_pow_right (by decide) hK
 have h1:=Nat.two_pow_pos K
 have HB0:=Hd (back_any K P n g l xs x w hK hn hR h hv hr hx hok hf)
 obtain ⟨F,hF⟩ : ∃ F,F = LV (wW K ((halfL K l).map cjW)) K x K:=⟨_,rfl⟩
 rw [<- hF] at HB0 ⊢
 have hn1 : 1 <= n:=by omega
 have hn2 : n <= 16384:=by omega
 have HS:=Hd (fun (u : World) g2 (hh : CRow u 0 g2 n ((List.range n).map (fun p=>scC (-(K : Int)) (F p))))=>split_any n g2 _ u hn1 hn2 hh)
 have e : ((List.range n).map (fun p=>scC (-(K : Int)) (F p))).map (·.1) = (List.range n).map (fun p=>scW (-(K : Int)) (F p).1):=by rw [List.map_map]; rfl
 rw [e] at HS
 obtain ⟨Z,hZ⟩ : ∃ Z,Z = (List.range n).map (fun p=>scW (-(K : Int)) (F p).1):=⟨_,rfl⟩
 obtain ⟨Y,hY⟩ : ∃ Y,Y = (List.range n).map (fun p=>scC (-(K : Int)) (F p)):=⟨_,rfl⟩
 rw [<- hY] at HS HB0
 rw [<- hZ] at HS ⊢
 clear e hZ hY hF hn hR h hv hr hx hok hf h1 h2
 go_enter Tryz.func39,Tryz.ntmps39
 go_wp2_with fail
 refine HB0.out.mono ?_
 rintro e w1 ⟨g2,rfl,hr,hb⟩
 have HC:=Hd (HS.out w1 g2 (hr.base (Nat.zero_le _)))
 have HB:=Hd hb
 clear hr hb HS HB0
 go_wp2_with fail
 refine HC.out.mono ?_
 rintro e w2 ⟨ga,gb,rfl,hr2,hb2⟩
 have HR2:=Hd (hr2.base (Nat.le_trans HB.out.size hr2.lt.1))
 have HB2:=Hd (HB.out.trans (hb2.mono HB.out.size))
 clear hr2 hb2
 go_wp2_with fail
 go_ret2
 exact ⟨_,rfl,HR2.out,HB2.out⟩
end
section
open Go.RowKit
def LRow (w : World) (base g n : Nat) (l : List Int) : Prop:=RowV 2 w base g n n (l.map (Value.int .i64))
theorem LRow.made {w : World} {base n m : Nat} (h : w.ownsRow base 2 1 (.slice (some ⟨m,0,none⟩) n n) n (madeCells (Value.int .i64 0).cells (n * 1)).toList) : LRow w base m n (List.replicate n 0):=by
 have:=RowV.made (z:=.int .i64 0) rfl h
 unfold LRow; rw [List.map_replicate]; exact this
theorem LRow.len {w : World} {base g n : Nat} {l : List Int} (h : LRow w base g n l) : l.length = n:=by have:=RowV.len h; simpa using this
theorem LRow.cell {w : World} {base g n : Nat} {l : List Int} (h : LRow w base g n l) (j : Nat) (x : Int) (hj : l[j]? = some x) : w.cell? ⟨g,j,none⟩ = some (.int .i64 x):=RowV.cell h j (.int .i64 x) (by rw [List.getElem?_map,hj]; rfl)
theorem LRow.free {w : World} {base g n : Nat} {l : List Int} (h : LRow w base g n l) (j : Nat) : w.frozen? ⟨g,j,none⟩ = false:=RowV.free h j
theorem LRow.set {w : World} {base g n : Nat} {l : List Int} (h : LRow w base g n l) (j : Nat) (x : Int) : LRow (w.setCell ⟨g,j,none⟩ (.int .i64 x)) base g n (l.set j x):=by
 have:=RowV.set h j (.int .i64 x)
 unfold LRow; rw [List.map_set]; exact this
theorem LRow.drewN {w : World} {base g n : Nat} {l : List Int} (h : LRow w base g n l) (m : Nat) : LRow (w.drewN m) base g n l:=h
set_option maxRecDepth 100000 in
set_option maxHeartbeats 4000000 in
theorem rcyclic_core (n f : Nat) (A B : Option Addr) (c c' : Nat) (fa fb : List Nat) (U V Wp : List (Nat × Nat)) (Z : List Nat) (w : World) (hn1 : 1 <= n) (hn2 : n <= 16384)
  (hbound : Calls Tryz.prog 18 #[.slice A n c,.slice B n c'] w fun e w'=>e = .returned (.tuple #[.float .f64 f,.int .i64 0]) /\ Below w.heap.size w w')
  (hlt : (FloatKind.f64.format.order f 4598175219545276416 == some Ordering.lt) = true)
  (hfa : ∀ u,Below w.heap.size w u -> Calls Tryz.prog 35 #[.slice A n c] u fun e w'=>∃ g s,e = .returned (.tuple #[.slice (some ⟨g,0,none⟩) n n,.float .f64 s,.bool true]) /\ FRow w' u.heap.size g n fa /\ Below u.heap.size u w')
  (hfb : ∀ u,Below w.heap.size w u -> Calls Tryz.prog 35 #[.slice B n c'] u fun e w'=>∃ g s,e = .returned (.tuple #[.slice (some ⟨g,0,none⟩) n n,.float .f64 s,.bool true]) /\ FRow w' u.heap.size g n fb /\ Below u.heap.size u w')
  (hU : ∀ u g,Below w.heap.size w u -> FRow u 0 g n fa -> Calls Tryz.prog 37 #[.slice (some ⟨g,0,none⟩) n n] u (RPostC u n U))
  (hV : ∀ u g,Below w.heap.size w u -> FRow u 0 g n fb -> Calls Tryz.prog 37 #[.slice (some ⟨g,0,none⟩) n n] u (RPostC u n V))
  (hP : ∀ u g g',CRow u 0 g n U -> CRow u 0 g' n V -> Calls Tryz.prog 38 #[.slice (some ⟨g,0,none⟩) n n,.slice (some ⟨g',0,none⟩) n n] u (RPostC u n Wp))
  (hZ : ∀ u g,Below w.heap.size w u -> CRow u 0 g n Wp -> Calls Tryz.prog 39 #[.slice (some ⟨g,0,none⟩) n n] u fun e w'=>∃ g1,e = .returned (.tuple #[.slice (some ⟨g1,0,none⟩) n n,.int .i64 0]) /\ FRow w' u.heap.size g1 n Z /\ Below u.heap.size u w')
  (hZv : ∀ z ∈ Z,z < 2 * Fl.W) :
  Calls Tryz.prog 19 #[.slice A n c,.slice B n c'] w fun e w'=>∃ g,e = .returned (.tuple #[.slice (some ⟨g,0,none⟩) n n,.int .i64 0]) /\ LRow w' w.heap.size g n (Z.map Fl.nearN) /\ Below w.heap.size w w':=by
 obtain ⟨i0,hi0,hz0,hz1,hz2⟩:=info_parts i64_info
 have HBD:=Hd hbound
 have HFA:=Hd hfa
 have HFB:=Hd hfb
 have HU:=Hd hU
 have HV:=Hd hV
 have HP:=Hd hP
 have HZ:=Hd hZ
 have HZV:=Hd hZv
 obtain ⟨L,hL⟩ : ∃ L,L = Z.map Fl.nearN:=⟨_,rfl⟩
 have HLM:=Hd hL
 rw [<- hL]
 clear hbound hfa hfb hU hV hP hZ hZv hL
 go_enter Tryz.func19,Tryz.ntmps19
 go_wp2_with fail
 refine HBD.out.mono ?_
 rintro e w1 ⟨rfl,b1⟩
 have B1:=Hd b1
 clear b1 HBD
 go_wp2_with fail
 refine (HFA.out w1 B1.out).mono ?_
 rintro e w2 ⟨g1,s1,rfl,r1,b2⟩
 have R1:=Hd (r1.base (Nat.zero_le _))
 have B2:=Hd (B1.out.trans (b2.mono B1.out.size))
 clear r1 b2 HFA B1
 go_wp2_with fail
 refine (HFB.out w2 B2.out).mono ?_
 rintro e w3 ⟨g2,s2,rfl,r2,b3⟩
 have R1':=Hd (R1.out.below (b3.mono (Nat.le_refl _)))
 have R2:=Hd (r2.base (Nat.zero_le _))
 have B3:=Hd (B2.out.trans (b3.mono B2.out.size))
 clear r2 b3 HFB B2 R1
 go_wp2_with fail
 refine (HU.out w3 g1 B3.out R1'.out).mono ?_
 rintro e w4 ⟨g3,rfl,r3,b4⟩
 have R2':=Hd (R2.out.below b4)
 have R3:=Hd (r3.base (Nat.zero_le _))
 have B4:=Hd (B3.out.trans (b4.mono B3.out.size))
 clear r3 b4 HU B3 R2 R1'
 go_wp2_with fail
 refine (HV.out w4 g2 B4.out R2'.out).mono ?_
 rintro e w5 ⟨g4,rfl,r4,b5⟩
 have R3':=Hd (R3.out.below b5)
 have R4:=Hd (r4.base (Nat.zero_le _))
 have B5:=Hd (B4.out.trans (b5.mono B4.out.size))
 clear r4 b5 HV B4 R3 R2'
 go_wp2_with fail
 refine (HP.out w5 g3 g4 R3'.out R4.out).mono ?_
 rintro e w6 ⟨g5,rfl,r5,b6⟩
 have R5:=Hd (r5.base (Nat.zero_le _))
 have B6:=Hd (B5.out.trans (b6.mono B5.out.size))
 clear r5 b6 HP B5 R3' R4
 go_wp2_with fail
 refine (HZ.out w6 g5 B6.out R5.out).mono ?_
 rintro e w7 ⟨g6,rfl,r6,b7⟩
 have R6:=Hd r6
 have B7:=Hd (B6.out.trans (b7.mono B6.out.size))
 clear r6 b7 HZ B6 R5
 have HLL:=Hd R6.out.len
 go_wp2_with (refine wpList_make_full _ rfl (.tmp 73) (.tmp 73) 22 rfl w7.heap.size 2 i0 _ 1 Tryz.underlying22 hi0 hz0 hz1 .i64 .i64 _ _ n rfl rfl (by omega) (by omega) (by rw [hz2]; omega) (by simp only [maxLen]; omega) (Nat.le_refl _) ?_; intro w8 hown1 hg1; have HB1:=Hd ((Below.refl w7.heap.size w7).grown hg1 (Nat.le_refl _) (fun k hk=>by cases hk)); have ROW:=Hd (LRow.made hown1); clear hown1 hg1; have STOP : Hid True:=Hd trivial; revert STOP)
 intro STOP
 clear STOP
 have R6':=Hd (R6.out.below HB1.out)
 have B8:=Hd (B7.out.trans (HB1.out.mono B7.out.size))
 obtain ⟨G,hG⟩ : ∃ G,G = w7.heap.size:=⟨_,rfl⟩
 have hGb : w.heap.size <= G:=by rw [hG]; exact B7.out.size
 have hg6 : g6 < G:=by rw [hG]; exact R6.out.lt.2
 have ROW2 : Hid (LRow w8 w.heap.size G n (List.replicate n 0)):=Hd (RowV.base (by rw [hG]; exact ROW.out) hGb)
 rw [<- hG]
 clear hG R6 B7 HB1 ROW hlt
 go_wp2_with fail
 go_loopw [77] (fun iv wr=>∃ (i : Nat) (o : List Int),iv = .int .i64 i /\ i <= n /\ Hid (∀ j < i,o[j]? = L[j]?) /\ Hid (LRow wr w.heap.size G n o) /\ Hid (FRow wr 0 g6 n Z) /\ Hid (Below w.heap.size w wr)) (fun iv _=>n - (intOf iv).toNat)
 case atStart=>exact ⟨0,List.replicate n 0,rfl,Nat.zero_le _,Hd (fun j hj=>absurd hj (Nat.not_lt_zero _)),ROW2,Hd (R6'.out.base (Nat.zero_le _)),B8⟩
 case round =>
  clear ROW2 R6' B8
  obtain ⟨i,o,rfl,hi,HI,HR,HQ,HB⟩:=hrel
  by_cases hlt : i < n
  ·obtain ⟨z,hz⟩ : ∃ z,Z[i]? = some z:=⟨_,List.getElem?_eq_getElem (by rw [HLL.out]; exact hlt)⟩
   have hzv:=HZV.out z (List.mem_of_getElem? hz)
   have HN:=Hd (fun u=>near_any z u hzv)
   have d1:=HQ.out.cell i z hz
   have hfr : wr.frozen? ⟨G,i,none⟩ = false:=HR.out.free i
   obtain ⟨y,hy⟩ : ∃ y,y = Fl.nearN z:=⟨_,rfl⟩
   have k4 : L[i]? = some y:=by rw [HLM.out,List.getElem?_map,hz,hy]; rfl
   obtain ⟨v0,hv0⟩ : ∃ v0,o[i]? = some v0:=⟨_,List.getElem?_eq_getElem (by have:=HR.out.len; omega)⟩
   have hLn : L.length = n:=by rw [HLM.out,List.length_map,HLL.out]
   have HIN : Hid (∀ j < i + 1,(o.set i y)[j]? = L[j]?):=Hd (fun j hj=>by
    have hol : o.length = L.length:=by rw [HR.out.len,hLn]
    by_cases e : j = i
    ·subst e; exact set_right_self k4 hol
    ·exact set_right k4 hol (HI.out j (by omega)))
   have HV0:=Hd hv0
   unfold NPost at HN
   rw [<- hy] at HN
   clear hz k4 hv0 hLn hy hfr
   go_wp2_with fail
   refine (HN.out _).mono ?_
   rintro e w9 ⟨rfl,nq,rfl⟩
   have HRD:=Hd (HR.out.drewN nq)
   have HQD:=Hd (HQ.out.drewN nq)
   have HBD:=Hd (Below.drewN' HB.out nq)
   have hcell:=HRD.out.cell i v0 HV0.out
   have hfr:=HRD.out.free i
   have HRN:=Hd (HRD.out.set i y)
   have HQN : Hid (FRow ((wr.drewN nq).setCell ⟨G,i,none⟩ (.int .i64 y)) 0 g6 n Z):=Hd (RowV.setOther (e':=32) HQD.out G i (.int .i64 y) (by omega) (Nat.zero_le _))
   have HBN:=Hd (HBD.out.setCell (p:=⟨G,i,none⟩) hGb (.int .i64 y))
   clear HRD HQD HBD HR HQ HB
   generalize wr.drewN nq = v at *
   go_wp2_with fail
   exact ⟨⟨i + 1,_,by go_num,hlt,HIN,HRN,HQN,HBN⟩,by simp [intOf]; omega⟩
  ·obtain rfl : n = i:=by omega
   have HOL : Hid (o = L):=Hd (by
    apply List.ext_getElem?
    intro k
    by_cases hk : k < n
    ·exact HI.out k hk
    ·rw [List.getElem?_eq_none (by rw [HR.out.len]; omega),List.getElem?_eq_none (by rw [HLM.out,List.length_map,HLL.out]; omega)])
   go_wp2_with fail
   go_ret2
   exact ⟨_,rfl,by rw [<- HOL.out]; exact HR.out,HB.out⟩
end
section
open Go.RowKit
theorem rcyclic_err (n n' f : Nat) (T : Int) (A B : Option Addr) (c c' : Nat) (w : World) (hT : T ≠ 0)
  (hbound : Calls Tryz.prog 18 #[.slice A n c,.slice B n' c'] w fun e w'=>e = .returned (.tuple #[.float .f64 f,.int .i64 T]) /\ Below w.heap.size w w') :
  Calls Tryz.prog 19 #[.slice A n c,.slice B n' c'] w fun e w'=>e = .returned (.tuple #[.slice none 0 0,.int .i64 T]) /\ Below w.heap.size w w':=by
 have HBD:=Hd hbound
 have h0 : (T != 0) = true:=by simpa using hT
 clear hbound
 go_enter Tryz.func19,Tryz.ntmps19
 go_wp2_with fail
 refine HBD.out.mono ?_
 rintro e w1 ⟨rfl,b1⟩
 have B1:=Hd b1
 clear b1 HBD
 go_wp2_with fail
 go_ret2
 exact ⟨rfl,B1.out⟩
theorem rcyclic_bound (n n' f : Nat) (A B : Option Addr) (c c' : Nat) (w : World)
  (hbound : Calls Tryz.prog 18 #[.slice A n c,.slice B n' c'] w fun e w'=>e = .returned (.tuple #[.float .f64 f,.int .i64 0]) /\ Below w.heap.size w w')
  (hge : (FloatKind.f64.format.order f 4598175219545276416 == some Ordering.lt) = false) :
  Calls Tryz.prog 19 #[.slice A n c,.slice B n' c'] w fun e w'=>e = .returned (.tuple #[.slice none 0 0,.int .i64 8]) /\ Below w.heap.size w w':=by
 have HBD:=Hd hbound
 clear hbound
 go_enter Tryz.func19,Tryz.ntmps19
 go_wp2_with fail
 refine HBD.out.mono ?_
 rintro e w1 ⟨rfl,b1⟩
 have B1:=Hd b1
 clear b1 HBD
 go_wp2_with fail
 go_ret2
 exact ⟨rfl,B1.out⟩
end
section
open Go.RowKit
def wvH (V : Int) : Value:=.int .i64 (IntKind.i64.wrap (V / 18446744073709551616))
def wvL (V : Int) : Value:=.int .u64 (IntKind.u64.wrap V)
def wv (V : Int) : Value:=.agg #[wvH V,wvL V]
theorem prod_parts (x y : Int) (hx : -9223372036854775808 <= x /\ x < 9223372036854775808) (hy : -9223372036854775808 <= y /\ y < 9223372036854775808) (X Y : Nat) (eX : IntKind.u64.wrap x = (X : Int)) (eY : IntKind.u64.wrap y = (Y : Int)) :
  X < 18446744073709551616 /\ Y < 18446744073709551616 /\ ((X * Y % 18446744073709551616 : Nat) : Int) = IntKind.u64.wrap (x * y) /\
  (∀ h1 h2 : Int,h1 = (if x < 0 then IntKind.u64.wrap (((X * Y / 18446744073709551616 : Nat) : Int) - Y) else ((X * Y / 18446744073709551616 : Nat) : Int)) -> h2 = (if y < 0 then IntKind.u64.wrap (h1 - X) else h1) -> IntKind.i64.wrap h2 = IntKind.i64.wrap (x * y / 18446744073709551616)):=by
 rw [IntKind.wrap_u64] at eX eY
 obtain ⟨p,hp⟩ : ∃ p,p = x * y:=⟨_,rfl⟩
 obtain ⟨q,hq⟩ : ∃ q,q = X * Y:=⟨_,rfl⟩
 have hX : X < 18446744073709551616:=by omega
 have hY : Y < 18446744073709551616:=by omega
 have hc : (q : Int) = (X : Int) * (Y : Int):=by rw [hq,Int.natCast_mul]
 have key : (q : Int) = p + (if x < 0 then 18446744073709551616 * (Y : Int) else 0) + (if y < 0 then 18446744073709551616 * x else 0):=by
  by_cases c1 : x < 0 <;> by_cases c2 : y < 0
  ·have e1 : (X : Int) = x + 18446744073709551616:=by omega
   have e2 : (Y : Int) = y + 18446744073709551616:=by omega
   rw [hc,if_pos c1,if_pos c2,e1,e2,Int.add_mul,Int.mul_add,<- hp]; omega
  ·have e1 : (X : Int) = x + 18446744073709551616:=by omega
   have e2 : (Y : Int) = y:=by omega
   rw [hc,if_pos c1,if_neg c2,e1,e2,Int.add_mul,<- hp]; omega
  ·have e1 : (X : Int) = x:=by omega
   have e2 : (Y : Int) = y + 18446744073709551616:=by omega
   rw [hc,if_neg c1,if_pos c2,e1,e2,Int.mul_add,<- hp]; omega
  ·have e1 : (X : Int) = x:=by omega
   have e2 : (Y : Int) = y:=by omega
   rw [hc,if_neg c1,if_neg c2,e1,e2,<- hp]; omega
 rw [<- hp,<- hq]
 refine ⟨hX,hY,?_,?_⟩
 ·rw [IntKind.wrap_u64]
  clear hp hq hc
  split at key <;> split at key <;> omega
 ·intro h1 h2 e1 e2
  clear hp hq hc
  rw [IntKind.wrap_i64,IntKind.wrap_i64]
  by_cases c1 : x < 0 <;> by_cases c2 : y < 0 <;> simp only [c1,c2,if_true,if_false] at key e1 e2 <;> (try simp only [IntKind.wrap_u64] at e1) <;> (try simp only [IntKind.wrap_u64] at e2) <;> omega
end
section
open Go.RowKit
set_option maxHeartbeats 1000000 in
theorem product_any2 (x y : Int) (w : World) (hx : -9223372036854775808 <= x /\ x < 9223372036854775808) (hy : -9223372036854775808 <= y /\ y < 9223372036854775808) :
  Calls Tryz.prog 49 #[.int .i64 x,.int .i64 y] w fun e w'=>e = .returned (wv (x * y)) /\ Below w.heap.size w w':=by
 obtain ⟨X,eX⟩ : ∃ X : Nat,IntKind.u64.wrap x = (X : Int):=⟨(IntKind.u64.wrap x).toNat,by rw [IntKind.wrap_u64]; omega⟩
 obtain ⟨Y,eY⟩ : ∃ Y : Nat,IntKind.u64.wrap y = (Y : Int):=⟨(IntKind.u64.wrap y).toNat,by rw [IntKind.wrap_u64]; omega⟩
 obtain ⟨hX,hY,hlo,hhi⟩:=prod_parts x y hx hy X Y eX eY
 have HM:=Hd (fun u=>mul64_any X Y hX hY u)
 obtain ⟨H,hH⟩ : ∃ H : Nat,H = X * Y / 18446744073709551616:=⟨_,rfl⟩
 obtain ⟨O,hO⟩ : ∃ O : Nat,O = X * Y % 18446744073709551616:=⟨_,rfl⟩
 rw [<- hH] at HM hhi
 rw [<- hO] at HM hlo
 have HBO : Hid (∀ o,Below w.heap.size w (w.alloc o)):=Hd (fun o=>(Below.refl w.heap.size w).alloc (Nat.le_refl _) o)
 have HLO:=Hd hlo
 have HHI:=Hd hhi
 clear hlo hhi hH hO
 by_cases c1 : x < 0
 ·by_cases c2 : y < 0
  ·obtain ⟨h1,e1⟩ : ∃ h1,IntKind.u64.wrap ((H : Int) - Y) = h1:=⟨_,rfl⟩
   obtain ⟨h2,e2⟩ : ∃ h2,IntKind.u64.wrap (h1 - X) = h2:=⟨_,rfl⟩
   have HF:=Hd (HHI.out h1 h2 (by rw [if_pos c1]; exact e1.symm) (by rw [if_pos c2]; exact e2.symm))
   have HEQ : Hid ((.agg #[.int .i64 (IntKind.i64.wrap h2),.int .u64 (O : Int)] : Value) = wv (x * y)):=Hd (by unfold wv wvH wvL; rw [<- HLO.out,<- HF.out])
   go_enter Tryz.func49,Tryz.ntmps49
   go_wp2_with fail
   refine (HM.out _).mono ?_
   rintro e w1 ⟨rfl,rfl⟩
   go_wp2_with fail
   refine bodyPost_ret (v:=.agg #[.int .i64 (wrap64 h2),.int .u64 (O : Int)]) (by simp [results,Tryz.results49,go_sem]) rfl ⟨by rw [<- HEQ.out]; simp [go_sem]; unfold wrap64; rw [IntKind.wrap_i64],HBO.out _⟩
  ·obtain ⟨h1,e1⟩ : ∃ h1,IntKind.u64.wrap ((H : Int) - Y) = h1:=⟨_,rfl⟩
   have HF:=Hd (HHI.out h1 h1 (by rw [if_pos c1]; exact e1.symm) (by rw [if_neg c2]))
   have HEQ : Hid ((.agg #[.int .i64 (IntKind.i64.wrap h1),.int .u64 (O : Int)] : Value) = wv (x * y)):=Hd (by unfold wv wvH wvL; rw [<- HLO.out,<- HF.out])
   go_enter Tryz.func49,Tryz.ntmps49
   go_wp2_with fail
   refine (HM.out _).mono ?_
   rintro e w1 ⟨rfl,rfl⟩
   go_wp2_with fail
   refine bodyPost_ret (v:=.agg #[.int .i64 (wrap64 h1),.int .u64 (O : Int)]) (by simp [results,Tryz.results49,go_sem]) rfl ⟨by rw [<- HEQ.out]; simp [go_sem]; unfold wrap64; rw [IntKind.wrap_i64],HBO.out _⟩
 ·by_cases c2 : y < 0
  ·obtain ⟨h2,e2⟩ : ∃ h2,IntKind.u64.wrap ((H : Int) - X) = h2:=⟨_,rfl⟩
   have HF:=Hd (HHI.out (H : Int) h2 (by rw [if_neg c1]) (by rw [if_pos c2]; exact e2.symm))
   have HEQ : Hid ((.agg #[.int .i64 (IntKind.i64.wrap h2),.int .u64 (O : Int)] : Value) = wv (x * y)):=Hd (by unfold wv wvH wvL; rw [<- HLO.out,<- HF.out])
   go_enter Tryz.func49,Tryz.ntmps49
   go_wp2_with fail
   refine (HM.out _).mono ?_
   rintro e w1 ⟨rfl,rfl⟩
   go_wp2_with fail
   refine bodyPost_ret (v:=.agg #[.int .i64 (wrap64 h2),.int .u64 (O : Int)]) (by simp [results,Tryz.results49,go_sem]) rfl ⟨by rw [<- HEQ.out]; simp [go_sem]; unfold wrap64; rw [IntKind.wrap_i64],HBO.out _⟩
  ·have HF:=Hd (HHI.out (H : Int) (H : Int) (by rw [if_neg c1]) (by rw [if_neg c2]))
   have HEQ : Hid ((.agg #[.int .i64 (IntKind.i64.wrap (H : Int)),.int .u64 (O : Int)] : Value) = wv (x * y)):=Hd (by unfold wv wvH wvL; rw [<- HLO.out,<- HF.out])
   go_enter Tryz.func49,Tryz.ntmps49
   go_wp2_with fail
   refine (HM.out _).mono ?_
   rintro e w1 ⟨rfl,rfl⟩
   go_wp2_with fail
   refine bodyPost_ret (v:=.agg #[.int .i64 (wrap64 (H : Int)),.int .u64 (O : Int)]) (by simp [results,Tryz.results49,go_sem]) rfl ⟨by rw [<- HEQ.out]; simp [go_sem]; unfold wrap64; rw [IntKind.wrap_i64],HBO.out _⟩
end
section
open Go.RowKit
set_option maxHeartbeats 1000000 in
theorem plus_any2 (V U : Int) (w : World) :
  Calls Tryz.prog 48 #[wv V,wv U] w fun e w'=>e = .returned (wv (V + U)) /\ Below w.heap.size w w':=by
 obtain ⟨a,ea⟩ : ∃ a : Nat,IntKind.u64.wrap V = (a : Int):=⟨(IntKind.u64.wrap V).toNat,by rw [IntKind.wrap_u64]; omega⟩
 obtain ⟨b,eb⟩ : ∃ b : Nat,IntKind.u64.wrap U = (b : Int):=⟨(IntKind.u64.wrap U).toNat,by rw [IntKind.wrap_u64]; omega⟩
 obtain ⟨p,ep⟩ : ∃ p : Int,IntKind.i64.wrap (V / 18446744073709551616) = p:=⟨_,rfl⟩
 obtain ⟨q,eq⟩ : ∃ q : Int,IntKind.i64.wrap (U / 18446744073709551616) = q:=⟨_,rfl⟩
 have HA:=Hd (fun u=>run_add64_zero a b u)
 obtain ⟨s,hs⟩ : ∃ s : Nat,s = (a + b + 0) % 18446744073709551616:=⟨_,rfl⟩
 obtain ⟨c,hc⟩ : ∃ c : Nat,c = (a + b + 0) / 18446744073709551616:=⟨_,rfl⟩
 rw [<- hs,<- hc] at HA
 have hadd:=fun u=>HA.out u
 have HL : Hid (IntKind.u64.wrap (V + U) = (s : Int)):=Hd (by
  rw [IntKind.wrap_u64] at ea eb ⊢; omega)
 have hcw : IntKind.i64.wrap (c : Int) = (c : Int):=by
  rw [IntKind.wrap_u64] at ea eb; rw [IntKind.wrap_i64]; omega
 obtain ⟨r,hr⟩ : ∃ r,IntKind.i64.wrap (p + q) = r:=⟨_,rfl⟩
 obtain ⟨t,ht⟩ : ∃ t,IntKind.i64.wrap (r + (c : Int)) = t:=⟨_,rfl⟩
 have HH : Hid (IntKind.i64.wrap ((V + U) / 18446744073709551616) = t):=Hd (by
  rw [IntKind.wrap_u64] at ea eb
  rw [IntKind.wrap_i64] at ep eq hr ht ⊢
  omega)
 have HEQ : Hid ((.agg #[.int .i64 t,.int .u64 (s : Int)] : Value) = wv (V + U)):=Hd (by unfold wv wvH wvL; rw [HL.out,HH.out])
 have HBO : Hid (∀ o1 o2 o3,Below w.heap.size w (((w.alloc o1).alloc o2).alloc o3)):=Hd (fun o1 o2 o3=>by
  have h1:=(Below.refl w.heap.size w).alloc (Nat.le_refl _) o1
  have h2:=h1.alloc h1.size o2
  exact h2.alloc h2.size o3)
 rw [show wv V = .agg #[.int .i64 p,.int .u64 (a : Int)] by unfold wv wvH wvL; rw [ea,ep],show wv U = .agg #[.int .i64 q,.int .u64 (b : Int)] by unfold wv wvH wvL; rw [eb,eq]]
 clear ea eb ep eq hs hc HA
 go_enter Tryz.func48,Tryz.ntmps48
 go_wp2_with fail
 refine bodyPost_ret (v:=.agg #[.int .i64 t,.int .u64 (s : Int)]) (by simp [results,Tryz.results48,go_sem]) rfl ⟨by rw [<- HEQ.out],HBO.out _ _ _⟩
end
section
open Go.RowKit
def WCl (g : Nat) (V : Int) (w : World) : Prop:=(w.cell? ⟨g,0,none⟩ = some (wvH V) /\ w.cell? ⟨g,1,none⟩ = some (wvL V)) /\ (w.frozen? ⟨g,0,none⟩ = false /\ w.frozen? ⟨g,1,none⟩ = false) /\ g < w.heap.size
def put2 (w : World) (g : Nat) (V : Int) : World:=(w.setCell ⟨g,0,none⟩ (wvH V)).setCell ⟨g,1,none⟩ (wvL V)
theorem WCl.below {g : Nat} {V : Int} {w w' : World} (h : WCl g V w) (hb : Below w.heap.size w w') : WCl g V w':=by
 obtain ⟨⟨h0,h1⟩,⟨f0,f1⟩,hl⟩:=h
 refine ⟨⟨(hb.cell (p:=⟨g,0,none⟩) hl).trans h0,(hb.cell (p:=⟨g,1,none⟩) hl).trans h1⟩,⟨?_,?_⟩,Nat.lt_of_lt_of_le hl hb.size⟩
 ·rw [<- f0]; unfold World.frozen?; rw [hb.block g hl]
 ·rw [<- f1]; unfold World.frozen?; rw [hb.block g hl]
theorem put2_cells {g : Nat} {V U : Int} {w : World} (h : WCl g V w) : (put2 w g U).cell? ⟨g,0,none⟩ = some (wvH U) /\ (put2 w g U).cell? ⟨g,1,none⟩ = some (wvL U):=by
 obtain ⟨⟨h0,h1⟩,_⟩:=h
 unfold put2
 have a1:=(cs_other w g 0 1 (wvH U) (by decide)).trans h1
 exact ⟨by rw [cs_other _ _ _ _ _ (by decide)]; exact cs_same _ _ _ _ _ h0,cs_same _ _ _ _ _ a1⟩
end
section
open Go.RowKit
def lowS (x y : Nat -> Int) : Nat -> Int
 | 0=>0
 | i + 1=>lowS x y i + (x i % 4294967296) * y i
def highS (x y : Nat -> Int) : Nat -> Int
 | 0=>0
 | i + 1=>highS x y i + (x i / 4294967296) * y i
def allS (x y : Nat -> Int) : Nat -> Int
 | 0=>0
 | i + 1=>allS x y i + x i * y i
theorem all_split (x y : Nat -> Int) (i : Nat) : allS x y i = 4294967296 * highS x y i + lowS x y i:=by
 induction i with
 | zero=>rfl
 | succ i ih =>
   simp only [allS,highS,lowS]
   have e : x i * y i = 4294967296 * ((x i / 4294967296) * y i) + (x i % 4294967296) * y i:=by
    have h : x i = 4294967296 * (x i / 4294967296) + x i % 4294967296:=by omega
    conv=>lhs; rw [h,Int.add_mul,Int.mul_assoc]
   rw [ih,e]; omega
theorem low_le (x y : Nat -> Int) (i : Nat) (hy : ∀ m < i,-9223372036854775808 <= y m /\ y m < 9223372036854775808) : (lowS x y i).natAbs <= i * (4294967296 * 9223372036854775808):=by
 induction i with
 | zero=>simp [lowS]
 | succ i ih =>
   have h1:=ih (fun m hm=>hy m (by omega))
   have h2:=hy i (by omega)
   have h3 : ((x i % 4294967296) * y i).natAbs <= 4294967296 * 9223372036854775808:=by
    rw [Int.natAbs_mul]
    exact Nat.mul_le_mul (by omega) (by omega)
   simp only [lowS]
   have:=Int.natAbs_add_le (lowS x y i) ((x i % 4294967296) * y i)
   omega
theorem WCl.new (w : World) (t : TypeId) : WCl w.heap.size 0 (w.alloc (.cells #[.int .i64 0,.int .u64 0] t)):=by
 have e0 : wvH 0 = .int .i64 0:=rfl
 have e1 : wvL 0 = .int .u64 0:=rfl
 unfold WCl
 rw [e0,e1]
 refine ⟨⟨by simp,by simp⟩,⟨by simp,by simp⟩,by simp⟩
theorem wput {g : Nat} {V U : Int} {w : World} (h : WCl g V w) : WCl g U (put2 w g U) /\ (∀ B w0,B <= g -> Below B w0 w -> Below B w0 (put2 w g U)) /\ (∀ g' T,g ≠ g' -> WCl g' T w -> WCl g' T (put2 w g U)):=by
 obtain ⟨c0,c1⟩:=put2_cells (U:=U) h
 obtain ⟨_,⟨f0,f1⟩,hl⟩:=h
 have hz : (put2 w g U).heap.size = w.heap.size:=by unfold put2; rw [size_setCell,size_setCell]
 refine ⟨⟨⟨c0,c1⟩,⟨?_,?_⟩,by rw [hz]; exact hl⟩,fun B w0 hB hb=>(hb.setCell (p:=⟨g,0,none⟩) hB _).setCell (p:=⟨g,1,none⟩) hB _,?_⟩
 ·unfold put2; rw [World.frozen?_setCell,World.frozen?_setCell]; exact f0
 ·unfold put2; rw [World.frozen?_setCell,World.frozen?_setCell]; exact f1
 ·rintro g' T hne ⟨⟨a0,a1⟩,⟨b0,b1⟩,hl'⟩
  have ne : ∀ i k,(⟨g,i,none⟩ : Addr) ≠ ⟨g',k,none⟩:=fun i k e=>hne (by injection e)
  refine ⟨⟨?_,?_⟩,⟨?_,?_⟩,by rw [hz]; exact hl'⟩
  ·unfold put2; rw [World.cell?_setCell_other _ _ _ _ (ne 1 0),World.cell?_setCell_other _ _ _ _ (ne 0 0)]; exact a0
  ·unfold put2; rw [World.cell?_setCell_other _ _ _ _ (ne 1 1),World.cell?_setCell_other _ _ _ _ (ne 0 1)]; exact a1
  ·unfold put2; rw [World.frozen?_setCell,World.frozen?_setCell]; exact b0
  ·unfold put2; rw [World.frozen?_setCell,World.frozen?_setCell]; exact b1
theorem i64_or32 (x y : Int) (hx : x % 4294967296 = 0) (hy0 : 0 <= y) (hy : y < 4294967296) : bits .or .i64 x y = IntKind.i64.wrap (x + y):=by
 show IntKind.i64.wrap ((BitVec.ofInt 64 x ||| BitVec.ofInt 64 y).toNat : Int) = _
 have h1 : (BitVec.ofInt 64 x).toNat = (x % 18446744073709551616).toNat:=by rw [BitVec.toNat_ofInt]; rfl
 have h2 : (BitVec.ofInt 64 y).toNat = (y % 18446744073709551616).toNat:=by rw [BitVec.toNat_ofInt]; rfl
 rw [BitVec.toNat_or,h1,h2]
 obtain ⟨A,hA⟩ : ∃ A : Nat,(x % 18446744073709551616).toNat = 2 ^ 32 * A:=⟨(x % 18446744073709551616).toNat / 4294967296,by omega⟩
 rw [hA,<- Nat.two_pow_add_eq_or_of_lt (by omega : (y % 18446744073709551616).toNat < 2 ^ 32),IntKind.wrap_i64,IntKind.wrap_i64]
 omega
theorem high_le (x y : Nat -> Int) (i : Nat) (hx : ∀ m < i,-9223372036854775808 <= x m /\ x m < 9223372036854775808) (hy : ∀ m < i,-9223372036854775808 <= y m /\ y m < 9223372036854775808) : (highS x y i).natAbs <= i * (2147483648 * 9223372036854775808):=by
 induction i with
 | zero=>simp [highS]
 | succ i ih =>
   have h1:=ih (fun m hm=>hx m (by omega)) (fun m hm=>hy m (by omega))
   have h2:=hy i (by omega)
   have h4:=hx i (by omega)
   have h3 : ((x i / 4294967296) * y i).natAbs <= 2147483648 * 9223372036854775808:=by
    rw [Int.natAbs_mul]
    exact Nat.mul_le_mul (by omega) (by omega)
   simp only [highS]
   have:=Int.natAbs_add_le (highS x y i) ((x i / 4294967296) * y i)
   omega
theorem wide_shift (L : Int) (hL : L.natAbs <= 16384 * (4294967296 * 9223372036854775808)) :
  (.agg #[.int .i64 (IntKind.i64.wrap (L / 18446744073709551616) / 4294967296),.int .u64 (bits BinOp.or IntKind.u64 (IntKind.u64.wrap L / 4294967296) (IntKind.u64.wrap (IntKind.u64.wrap (IntKind.i64.wrap (L / 18446744073709551616)) * 4294967296)))] : Value) = wv (L / 4294967296):=by
 unfold wv wvH wvL
 have e1 : IntKind.i64.wrap (L / 18446744073709551616) / 4294967296 = IntKind.i64.wrap (L / 4294967296 / 18446744073709551616):=by
  rw [IntKind.wrap_i64,IntKind.wrap_i64]; omega
 have e2 : bits BinOp.or IntKind.u64 (IntKind.u64.wrap L / 4294967296) (IntKind.u64.wrap (IntKind.u64.wrap (IntKind.i64.wrap (L / 18446744073709551616)) * 4294967296)) = IntKind.u64.wrap (L / 4294967296):=by
  have b1 : 0 <= IntKind.u64.wrap L / 4294967296 /\ IntKind.u64.wrap L / 4294967296 < 4294967296:=by rw [IntKind.wrap_u64]; omega
  have b2 : 0 <= IntKind.u64.wrap (IntKind.u64.wrap (IntKind.i64.wrap (L / 18446744073709551616)) * 4294967296) /\ IntKind.u64.wrap (IntKind.u64.wrap (IntKind.i64.wrap (L / 18446744073709551616)) * 4294967296) % 4294967296 = 0 /\ IntKind.u64.wrap (IntKind.u64.wrap (IntKind.i64.wrap (L / 18446744073709551616)) * 4294967296) < 18446744073709551616:=by
   rw [IntKind.wrap_u64,IntKind.wrap_u64]; omega
  rw [u64_or32 _ _ b1.1 b1.2 b2.1 b2.2.1 b2.2.2]
  rw [IntKind.wrap_u64,IntKind.wrap_u64,IntKind.wrap_u64,IntKind.wrap_u64,IntKind.wrap_i64]
  omega
 rw [e1,e2]
def sumS (v : Int) : Int:=if -9223372036854775808 <= v /\ v < 9223372036854775808 then v else 0
def sumB (v : Int) : Bool:=decide (-9223372036854775808 <= v /\ v < 9223372036854775808)
theorem sum_good (T L H A : Int) (hA : A = 4294967296 * H + L) (hT : H + L / 4294967296 = T) (h1 : IntKind.i64.wrap (T / 18446744073709551616) = IntKind.i64.wrap (IntKind.u64.wrap T) / 9223372036854775808) (h2 : IntKind.i64.wrap (IntKind.i32.wrap (IntKind.i64.wrap (IntKind.u64.wrap T))) = IntKind.i64.wrap (IntKind.u64.wrap T)) (hb : T.natAbs <= 100000000000000000000000000000000000) :
  IntKind.i64.wrap (IntKind.u64.wrap T) = T /\ IntKind.i64.wrap (T * 4294967296) = T * 4294967296 /\ bits BinOp.or IntKind.i64 (T * 4294967296) (L % 4294967296) = sumS A /\ sumB A = true:=by
 have e32 : IntKind.i32.wrap (IntKind.i64.wrap (IntKind.u64.wrap T)) = (IntKind.i64.wrap (IntKind.u64.wrap T) + 2147483648) % 4294967296 - 2147483648:=by rw [IntKind.wrap_i32]
 rw [e32] at h2
 rw [IntKind.wrap_u64] at *
 simp only [IntKind.wrap_i64] at h1 h2 ⊢
 have a1 : (T / 18446744073709551616 + 9223372036854775808) % 18446744073709551616 - 9223372036854775808 = T / 18446744073709551616:=by omega
 rw [a1] at h1
 obtain ⟨t,ht⟩ : ∃ t,t = (T % 18446744073709551616 + 9223372036854775808) % 18446744073709551616 - 9223372036854775808:=⟨_,rfl⟩
 rw [<- ht] at h1 h2 ⊢
 have h3 : -2147483648 <= t /\ t < 2147483648:=by clear h1 hA hT; omega
 have h4 : T = t:=by clear h2 hA hT e32; omega
 have hr : -2147483648 <= T /\ T < 2147483648:=by omega
 have hf : -9223372036854775808 <= A /\ A < 9223372036854775808:=by omega
 refine ⟨by omega,by omega,?_,?_⟩
 ·rw [i64_or32 _ _ (by omega) (by omega) (by omega),IntKind.wrap_i64]
  unfold sumS; rw [if_pos hf]; omega
 ·unfold sumB; exact decide_eq_true hf
theorem sum_bad (T L H A : Int) (hA : A = 4294967296 * H + L) (hT : H + L / 4294967296 = T) (h : ¬ (IntKind.i64.wrap (T / 18446744073709551616) = IntKind.i64.wrap (IntKind.u64.wrap T) / 9223372036854775808 /\ IntKind.i64.wrap (IntKind.i32.wrap (IntKind.i64.wrap (IntKind.u64.wrap T))) = IntKind.i64.wrap (IntKind.u64.wrap T))) (hb : T.natAbs <= 100000000000000000000000000000000000) :
  sumS A = 0 /\ sumB A = false:=by
 have e32 : IntKind.i32.wrap (IntKind.i64.wrap (IntKind.u64.wrap T)) = (IntKind.i64.wrap (IntKind.u64.wrap T) + 2147483648) % 4294967296 - 2147483648:=by rw [IntKind.wrap_i32]
 rw [e32] at h
 rw [IntKind.wrap_u64] at *
 simp only [IntKind.wrap_i64] at h
 have hf : ¬ (-9223372036854775808 <= A /\ A < 9223372036854775808):=by
  intro hf
  apply h
  have hr : -2147483648 <= T /\ T < 2147483648:=by clear h e32; omega
  have a2 : (T % 18446744073709551616 + 9223372036854775808) % 18446744073709551616 - 9223372036854775808 = T:=by omega
  rw [a2]
  clear h e32 hA hT hf
  constructor <;> omega
 exact ⟨by unfold sumS; rw [if_neg hf],by unfold sumB; exact decide_eq_false hf⟩
end
section
open Go.RowKit
set_option maxRecDepth 100000 in
set_option maxHeartbeats 4000000 in
theorem sum_any2 (A B : Option Addr) (n c c' j : Nat) (a b : List Int) (x y : Nat -> Int) (w : World) (hn1 : 1 <= n) (hn2 : n <= 16384) (hj : j < n) (ha : UL w A n c a) (hb : UL w B n c' b)
  (hx : ∀ m < n,a[m]? = some (x m)) (hy : ∀ m < n,b[(j + n - m) % n]? = some (y m))
  (hxr : ∀ m < n,-9223372036854775808 <= x m /\ x m < 9223372036854775808) (hyr : ∀ m < n,-9223372036854775808 <= y m /\ y m < 9223372036854775808) :
  Calls Tryz.prog 32 #[.slice A n c,.slice B n c',.int .i64 j] w fun e w'=>e = .returned (.tuple #[.int .i64 (sumS (allS x y n)),.bool (sumB (allS x y n))]) /\ Below w.heap.size w w':=by
 have HA:=Hd ha
 have HB:=Hd hb
 have hb1:=(Below.refl w.heap.size w).alloc (Nat.le_refl _) (.cells #[.int .i64 0,.int .u64 0] 88)
 have L1:=WCl.new w 88
 have hb2:=(Below.refl _ (w.alloc (.cells #[.int .i64 0,.int .u64 0] 88))).alloc (Nat.le_refl _) (.cells #[.int .i64 0,.int .u64 0] 88)
 have L2:=WCl.new (w.alloc (.cells #[.int .i64 0,.int .u64 0] 88)) 88
 have H1:=Hd (L1.below hb2)
 have H2:=Hd L2
 have HBW:=Hd (hb1.trans (hb2.mono hb1.size))
 clear hb1 hb2 L1 L2 ha hb
 go_enter Tryz.func32,Tryz.ntmps32
 go_wp2_with fail
 generalize (w.alloc (.cells #[.int .i64 0,.int .u64 0] 88)).alloc (.cells #[.int .i64 0,.int .u64 0] 88) = W at *
 obtain ⟨g1,hg1⟩ : ∃ g1,g1 = w.heap.size:=⟨_,rfl⟩
 obtain ⟨g2,hg2⟩ : ∃ g2,g2 = w.heap.size + 1:=⟨_,rfl⟩
 have H1' : Hid (WCl g1 0 W):=Hd (by rw [hg1]; exact H1.out)
 have H2' : Hid (WCl g2 0 W):=Hd (by rw [hg2]; have:=H2.out; simpa using this)
 rw [<- hg2,<- hg1]
 have hgb : w.heap.size <= g1:=by omega
 have hgc : w.heap.size <= g2:=by omega
 have hgne : g1 ≠ g2:=by omega
 clear H1 H2 hg1 hg2
 go_loopw [19] (fun iv wr=>∃ (i : Nat),iv = .int .i64 i /\ i <= n /\ Hid (WCl g1 (lowS x y i) wr) /\ Hid (WCl g2 (highS x y i) wr) /\ Hid (Below w.heap.size w wr)) (fun iv _=>n - (intOf iv).toNat)
 case atStart=>exact ⟨0,rfl,Nat.zero_le _,H1',H2',HBW⟩
 case round =>
  clear H1' H2' HBW
  obtain ⟨i,rfl,hi,H1,H2,HBW⟩:=hrel
  by_cases hlt : i < n
  ·obtain ⟨ad,rfl,_,d1⟩:=(HA.out.below HBW.out).2.2.2 i _ (hx i hlt)
   obtain ⟨bd,rfl,_,d2⟩:=(HB.out.below HBW.out).2.2.2 _ _ (hy i hlt)
   obtain ⟨r,hr⟩ : ∃ r,r = (j + n - i) % n:=⟨_,rfl⟩
   rw [<- hr] at d2
   have hrn : r < n:=by rw [hr]; exact Nat.mod_lt _ (by omega)
   have u1 : IntKind.i64.wrap ((j : Int) - (i : Int)) = (j : Int) - (i : Int):=by rw [IntKind.wrap_i64]; omega
   have u2 : IntKind.i64.wrap ((j : Int) - (i : Int) + (n : Int)) = (j : Int) - (i : Int) + (n : Int):=by rw [IntKind.wrap_i64]; omega
   have e0 : ((j : Int) - (i : Int) + (n : Int)) = ((j + n - i : Nat) : Int):=by omega
   have u3 : Int.tmod ((j : Int) - (i : Int) + (n : Int)) (n : Int) = (r : Int):=by
    rw [e0,Int.tmod_eq_emod_of_nonneg (by omega),hr,Int.natCast_emod]
   have u3' : ((j : Int) - (i : Int) + (n : Int)) % (n : Int) = (r : Int):=by
    rw [e0,hr,Int.natCast_emod]
   have n0 : ((n : Int) == 0) = false:=by simp; omega
   have b1 : (r : Int) < (n : Int):=by omega
   have HM1:=Hd (fun u=>product_any2 (x i % 4294967296) (y i) u (by omega) (hyr i hlt))
   have HP1:=Hd (fun u=>plus_any2 (lowS x y i) (x i % 4294967296 * y i) u)
   have HL1 : Hid (lowS x y (i + 1) = lowS x y i + x i % 4294967296 * y i):=Hd rfl
   have hxi:=hxr i hlt
   have HM2:=Hd (fun u=>product_any2 (x i / 4294967296) (y i) u (by omega) (hyr i hlt))
   have HP2:=Hd (fun u=>plus_any2 (highS x y i) (x i / 4294967296 * y i) u)
   have HL2 : Hid (highS x y (i + 1) = highS x y i + x i / 4294967296 * y i):=Hd rfl
   obtain ⟨X,hX⟩ : ∃ X,X = x i:=⟨_,rfl⟩
   obtain ⟨Y,hY⟩ : ∃ Y,Y = y i:=⟨_,rfl⟩
   obtain ⟨V,hV⟩ : ∃ V,V = lowS x y i:=⟨_,rfl⟩
   obtain ⟨U,hU⟩ : ∃ U,U = highS x y i:=⟨_,rfl⟩
   rw [<- hX,<- hY] at HM1 HM2 HP1 HP2 HL1 HL2
   rw [<- hX] at d1
   rw [<- hY] at d2
   rw [<- hV] at HP1 HL1 H1
   rw [<- hU] at HP2 HL2 H2
   have C12 : Hid (IntKind.i64.wrap (IntKind.u32.wrap X) = X % 4294967296):=Hd (by rw [show IntKind.u32.wrap X = X % 4294967296 by simp [IntKind.wrap,IntKind.bits,IntKind.signed],IntKind.wrap_i64]; omega)
   clear hr e0 hX hY hV hU hxi
   go_wp2_with fail
   obtain ⟨k0,k1⟩:=H1.out.1
   refine wp_region_text (fun v=>v.cell? ⟨g1,0,none⟩ = some (wvH V) /\ v.cell? ⟨g1,1,none⟩ = some (wvL V) /\ Below wr.heap.size wr v) [true,true,true,true,true,false,false] 7 (by kernel_rfl) (by kernel_rfl) (fun _ _ _ _ _ h=>h) ?_ ?_
   ·exact ⟨k0,k1,below_drew (Below.refl _ _)⟩
   simp only [List.take_succ_cons,List.take_zero]
   iterate 5
    refine wpHL_take ?_ (by rfl) ?_ ?_
    rotate_left
    ·rintro v ⟨_,_,_⟩; go_simp; try with_reducible rfl
    simp only [Act.put,List.setIfInBounds_toArray,List.set_cons_zero,List.set_cons_succ]
   refine wpHL_call (by rfl) (fun K hK=>?_)
   have HK:=Hd hK
   clear hK
   go_simp
   rw [C12.out]
   refine (HM1.out _).mono ?_
   rintro e w2 ⟨rfl,hb2⟩
   have HB2:=Hd ((below_drew (Below.refl wr.heap.size wr)).trans (hb2.mono (below_drew (Below.refl wr.heap.size wr)).size))
   have HW2:=Hd (H1.out.below HB2.out)
   clear hb2
   refine HK.out _ _ ⟨HW2.out.1.1,HW2.out.1.2,HB2.out⟩ ?_
   clear HK
   try simp only [Act.put,List.setIfInBounds_toArray,List.set_cons_zero,List.set_cons_succ]
   refine wpHL_call (by rfl) (fun K hK=>?_)
   have HK:=Hd hK
   clear hK
   go_simp
   refine (HP1.out _).mono ?_
   rintro e w3 ⟨rfl,hb3⟩
   have HB3:=Hd (HB2.out.trans (hb3.mono HB2.out.size))
   have HW3:=Hd (H1.out.below HB3.out)
   clear hb3
   refine HK.out _ _ ⟨HW3.out.1.1,HW3.out.1.2,HB3.out⟩ (wpHL_nil ?_)
   clear HK
   simp only [QT,List.drop_succ_cons,List.drop_zero,Act.put,List.setIfInBounds_toArray,List.set_cons_zero,List.set_cons_succ]
   obtain ⟨q0,q1⟩:=HW3.out.1
   obtain ⟨q2,q3⟩:=HW3.out.2.1
   clear k0 k1
   rw [show wv (V + X % 4294967296 * Y) = .agg #[wvH (V + X % 4294967296 * Y),wvL (V + X % 4294967296 * Y)] from rfl]
   rw [<- HL1.out]
   generalize hV' : lowS x y (i + 1) = V' at *
   have HVE:=Hd hV'
   clear hV'
   have HP3:=Hd (wput (U:=V') HW3.out)
   unfold put2 wvH wvL at HP3
   unfold wvH wvL
   generalize IntKind.i64.wrap (V' / 18446744073709551616) = p at HP3 ⊢
   generalize IntKind.u64.wrap V' = q at HP3 ⊢
   unfold wvH at q0
   unfold wvL at q1
   go_wp2_with fail
   have HW4 : Hid (WCl g1 V' ((w3.setCell ⟨g1,0,none⟩ (.int .i64 p)).setCell ⟨g1,1,none⟩ (.int .u64 q)) /\ WCl g2 U ((w3.setCell ⟨g1,0,none⟩ (.int .i64 p)).setCell ⟨g1,1,none⟩ (.int .u64 q)) /\ Below w.heap.size w ((w3.setCell ⟨g1,0,none⟩ (.int .i64 p)).setCell ⟨g1,1,none⟩ (.int .u64 q))) :=
    Hd ⟨HP3.out.1,HP3.out.2.2 g2 U hgne (H2.out.below HB3.out),HP3.out.2.1 _ _ hgb (HBW.out.trans (HB3.out.mono HBW.out.size))⟩
   clear HP3 q0 q1 q2 q3 d1 d2 HM1 HP1 C12 H1 HW2
   generalize (w3.setCell ⟨g1,0,none⟩ (.int .i64 p)).setCell ⟨g1,1,none⟩ (.int .u64 q) = w4 at *
   obtain ⟨k0,k1⟩:=HW4.out.2.1.1
   refine wp_region_text (fun v=>v.cell? ⟨g2,0,none⟩ = some (wvH U) /\ v.cell? ⟨g2,1,none⟩ = some (wvL U) /\ Below w4.heap.size w4 v) [true,true,true,true,false,false] 6 (by kernel_rfl) (by kernel_rfl) (fun _ _ _ _ _ h=>h) ?_ ?_
   ·exact ⟨k0,k1,below_drew (Below.refl _ _)⟩
   simp only [List.take_succ_cons,List.take_zero]
   iterate 4
    refine wpHL_take ?_ (by rfl) ?_ ?_
    rotate_left
    ·rintro v ⟨_,_,_⟩; go_simp; try with_reducible rfl
    simp only [Act.put,List.setIfInBounds_toArray,List.set_cons_zero,List.set_cons_succ]
   refine wpHL_call (by rfl) (fun K hK=>?_)
   have HK:=Hd hK
   clear hK
   go_simp
   refine (HM2.out _).mono ?_
   rintro e w5 ⟨rfl,hb2⟩
   have HB2:=Hd ((below_drew (Below.refl w4.heap.size w4)).trans (hb2.mono (below_drew (Below.refl w4.heap.size w4)).size))
   have HW2:=Hd (HW4.out.2.1.below HB2.out)
   clear hb2
   refine HK.out _ _ ⟨HW2.out.1.1,HW2.out.1.2,HB2.out⟩ ?_
   clear HK
   try simp only [Act.put,List.setIfInBounds_toArray,List.set_cons_zero,List.set_cons_succ]
   refine wpHL_call (by rfl) (fun K hK=>?_)
   have HK:=Hd hK
   clear hK
   go_simp
   refine (HP2.out _).mono ?_
   rintro e w6 ⟨rfl,hb3⟩
   have HB6:=Hd (HB2.out.trans (hb3.mono HB2.out.size))
   have HW6:=Hd (HW4.out.2.1.below HB6.out)
   clear hb3
   refine HK.out _ _ ⟨HW6.out.1.1,HW6.out.1.2,HB6.out⟩ (wpHL_nil ?_)
   clear HK
   simp only [QT,List.drop_succ_cons,List.drop_zero,Act.put,List.setIfInBounds_toArray,List.set_cons_zero,List.set_cons_succ]
   obtain ⟨q0,q1⟩:=HW6.out.1
   obtain ⟨q2,q3⟩:=HW6.out.2.1
   clear k0 k1
   rw [show wv (U + X / 4294967296 * Y) = .agg #[wvH (U + X / 4294967296 * Y),wvL (U + X / 4294967296 * Y)] from rfl]
   rw [<- HL2.out]
   generalize hU' : highS x y (i + 1) = U' at *
   have HUE:=Hd hU'
   clear hU'
   have HP6:=Hd (wput (U:=U') HW6.out)
   have HN6 : Hid (WCl g1 V' (put2 w6 g2 U') /\ WCl g2 U' (put2 w6 g2 U') /\ Below w.heap.size w (put2 w6 g2 U')):=Hd ⟨HP6.out.2.2 g1 V' (Ne.symm hgne) (HW4.out.1.below HB6.out),HP6.out.1,HP6.out.2.1 _ _ hgc (HW4.out.2.2.trans (HB6.out.mono HW4.out.2.2.size))⟩
   clear HP6
   unfold put2 wvH wvL at HN6
   unfold wvH wvL
   generalize IntKind.i64.wrap (U' / 18446744073709551616) = p' at HN6 ⊢
   generalize IntKind.u64.wrap U' = q' at HN6 ⊢
   unfold wvH at q0
   unfold wvL at q1
   go_wp2_with fail
   exact ⟨⟨i + 1,by go_num,hlt,by rw [HVE.out]; exact Hd HN6.out.1,by rw [HUE.out]; exact Hd HN6.out.2.1,Hd HN6.out.2.2⟩,by simp [intOf]; omega⟩
  ·obtain rfl : n = i:=by omega
   obtain ⟨L,hL⟩ : ∃ L,L = lowS x y n:=⟨_,rfl⟩
   obtain ⟨H,hH⟩ : ∃ H,H = highS x y n:=⟨_,rfl⟩
   rw [<- hL] at H1
   rw [<- hH] at H2
   have HLR:=Hd hL
   have HHR:=Hd hH
   clear hL hH
   obtain ⟨h,hh⟩ : ∃ h,h = IntKind.i64.wrap (L / 18446744073709551616):=⟨_,rfl⟩
   obtain ⟨l,hl⟩ : ∃ l,l = IntKind.u64.wrap L:=⟨_,rfl⟩
   obtain ⟨H',hH'⟩ : ∃ H',H' = IntKind.i64.wrap (H / 18446744073709551616):=⟨_,rfl⟩
   obtain ⟨l',hl'⟩ : ∃ l',l' = IntKind.u64.wrap H:=⟨_,rfl⟩
   obtain ⟨k0,k1⟩:=H1.out.1
   obtain ⟨k2,k3⟩:=H2.out.1
   unfold wvH at k0 k2
   unfold wvL at k1 k3
   rw [<- hh] at k0
   rw [<- hl] at k1
   rw [<- hH'] at k2
   rw [<- hl'] at k3
   have HH1:=Hd hh
   have HH2:=Hd hl
   have HH3:=Hd hH'
   have HH4:=Hd hl'
   clear hh hl hH' hl'
   have HLB : Hid (L.natAbs <= 16384 * (4294967296 * 9223372036854775808)):=Hd (by
    rw [HLR.out]
    exact Nat.le_trans (low_le x y n hyr) (Nat.mul_le_mul_right _ hn2))
   have HPL:=Hd (fun u=>plus_any2 H (L / 4294967296) u)
   obtain ⟨T,hT⟩ : ∃ T,H + L / 4294967296 = T:=⟨_,rfl⟩
   rw [hT] at HPL
   have HTT:=Hd hT
   clear hT
   go_wp2_with fail
   rw [show (Value.agg #[Value.int IntKind.i64 H',Value.int IntKind.u64 l'] : Value) = wv H by rw [HH3.out,HH4.out]; rfl]
   rw [HH1.out,HH2.out,wide_shift L HLB.out]
   rw [<- HH1.out,<- HH2.out]
   refine (HPL.out _).mono ?_
   rintro e w7 ⟨rfl,hb7⟩
   have HB7:=Hd hb7
   have HW7:=Hd (H2.out.below hb7)
   clear hb7
   obtain ⟨q0,q1⟩:=HW7.out.1
   obtain ⟨q2,q3⟩:=HW7.out.2.1
   rw [show wv T = .agg #[wvH T,wvL T] from rfl]
   have HP6:=Hd (wput (U:=T) HW7.out)
   have HN6 : Hid (WCl g1 L (put2 w7 g2 T) /\ WCl g2 T (put2 w7 g2 T) /\ Below w.heap.size w (put2 w7 g2 T)):=Hd ⟨HP6.out.2.2 g1 L (Ne.symm hgne) (H1.out.below HB7.out),HP6.out.1,HP6.out.2.1 _ _ hgc (HBW.out.trans (HB7.out.mono HBW.out.size))⟩
   clear HP6
   unfold put2 wvH wvL at HN6
   unfold wvH wvL
   have HSP : Hid (allS x y n = 4294967296 * H + L):=Hd (by rw [HLR.out,HHR.out]; exact all_split x y n)
   have HTB : Hid (T.natAbs <= 100000000000000000000000000000000000):=Hd (by
    have h1:=HLB.out
    have h2 : H.natAbs <= 16384 * (2147483648 * 9223372036854775808):=by
     rw [HHR.out]
     exact Nat.le_trans (high_le x y n hxr hyr) (Nat.mul_le_mul_right _ hn2)
    have h3:=HTT.out
    omega)
   generalize hS : allS x y n = S at HSP
   have HSS:=Hd hS
   clear hS
   clear HLR HHR
   unfold wvH at q0
   unfold wvL at q1
   obtain ⟨r0,r1⟩:=HN6.out.1.1
   unfold wvH at r0
   unfold wvL at r1
   clear k0 k1 k2 k3
   by_cases h1 : IntKind.i64.wrap (T / 18446744073709551616) = IntKind.i64.wrap (IntKind.u64.wrap T) / 9223372036854775808
   ·by_cases h2 : IntKind.i64.wrap (IntKind.i32.wrap (IntKind.i64.wrap (IntKind.u64.wrap T))) = IntKind.i64.wrap (IntKind.u64.wrap T)
    ·obtain ⟨g1',g2',g3',g4'⟩:=sum_good T L H S HSP.out HTT.out h1 h2 HTB.out
     rw [g1'] at h1 h2
     rw [h1] at HN6 r0 r1 ⊢
     have G3:=Hd g3'
     have G4:=Hd g4'
     generalize hq : IntKind.u64.wrap T = q' at HN6 r0 r1 g1' ⊢
     have u1 : IntKind.i64.wrap (IntKind.u32.wrap (IntKind.u64.wrap L)) = L % 4294967296:=by rw [IntKind.wrap_u64,show IntKind.u32.wrap (L % 18446744073709551616) = L % 18446744073709551616 % 4294967296 by simp [IntKind.wrap,IntKind.bits,IntKind.signed],IntKind.wrap_i64]; omega
     have u2 : (T != wrap64 (wrap32 T)) = false:=by
      rw [show wrap64 (wrap32 T) = IntKind.i64.wrap (IntKind.i32.wrap T) by unfold wrap64 wrap32; rw [IntKind.wrap_i64,IntKind.wrap_i32],h2]; simp
     have u3 : IntKind.u64.wrap L % 4294967296 = L % 4294967296:=by rw [IntKind.wrap_u64]; omega
     clear g3' g4' hq h1 h2
     go_wp2_with fail
     go_ret2
     rw [HSS.out]
     exact ⟨by rw [<- G3.out,G4.out,<- u3]; rfl,HN6.out.2.2⟩
    ·have G5:=Hd (sum_bad T L H S HSP.out HTT.out (fun h=>h2 h.2) HTB.out)
     rw [h1] at HN6 r0 r1 ⊢
     generalize hq : IntKind.u64.wrap T = q' at HN6 r0 r1 h2 ⊢
     generalize ht : IntKind.i64.wrap q' = t at *
     have u2 : (t != wrap64 (wrap32 t)) = true:=by
      rw [show wrap64 (wrap32 t) = IntKind.i64.wrap (IntKind.i32.wrap t) by unfold wrap64 wrap32; rw [IntKind.wrap_i64,IntKind.wrap_i32]]
      simp only [bne_iff_ne,ne_eq]
      exact fun h=>h2 h.symm
     clear hq h1 h2
     go_wp2_with fail
     go_ret2
     rw [HSS.out]
     exact ⟨by rw [G5.out.1,G5.out.2]; rfl,HN6.out.2.2⟩
   ·have G5:=Hd (sum_bad T L H S HSP.out HTT.out (fun h=>h1 h.1) HTB.out)
    generalize hq : IntKind.u64.wrap T = q' at HN6 r0 r1 h1 ⊢
    generalize ht : IntKind.i64.wrap q' = t at *
    generalize IntKind.i64.wrap (T / 18446744073709551616) = p' at *
    clear hq
    go_wp2_with fail
    go_ret2
    rw [HSS.out]
    exact ⟨by rw [G5.out.1,G5.out.2]; rfl,HN6.out.2.2⟩
end
section
open Go.RowKit
def cvI (a b : List Int) (n j : Nat) : Int:=allS (fun m=>a.getD m 0) (fun m=>b.getD ((j + n - m) % n) 0) n
def L64b (l : List Int) : Prop:=∀ x ∈ l,-9223372036854775808 <= x /\ x < 9223372036854775808
theorem get_of {l : List Int} {n m : Nat} (hl : l.length = n) (hm : m < n) : l[m]? = some (l.getD m 0):=by
 rw [List.getD_eq_getElem?_getD,List.getElem?_eq_getElem (by omega)]; rfl
theorem sum_lists (A B : Option Addr) (n c c' j : Nat) (a b : List Int) (w : World) (hn1 : 1 <= n) (hn2 : n <= 16384) (hj : j < n) (ha : UL w A n c a) (hb : UL w B n c' b) (ra : L64b a) (rb : L64b b) :
  Calls Tryz.prog 32 #[.slice A n c,.slice B n c',.int .i64 j] w fun e w'=>e = .returned (.tuple #[.int .i64 (sumS (cvI a b n j)),.bool (sumB (cvI a b n j))]) /\ Below w.heap.size w w':=by
 have hm : ∀ m,(j + n - m) % n < n:=fun m=>Nat.mod_lt _ (by omega)
 exact sum_any2 A B n c c' j a b _ _ w hn1 hn2 hj ha hb (fun m hm=>get_of ha.1 hm) (fun m _=>get_of hb.1 (hm m))
  (fun m hm=>ra _ (List.mem_of_getElem? (get_of ha.1 hm))) (fun m _=>rb _ (List.mem_of_getElem? (get_of hb.1 (hm m))))
def PlnPost (n : Nat) (a b : List Int) (w : World) (e : Ending) (w' : World) : Prop :=
 ((∀ j < n,sumB (cvI a b n j) = true) /\ ∃ g,e = .returned (.tuple #[.slice (some ⟨g,0,none⟩) n n,.int .i64 0]) /\ LRow w' w.heap.size g n ((List.range n).map (cvI a b n)) /\ Below w.heap.size w w') \/
 ((∃ j,j < n /\ sumB (cvI a b n j) = false) /\ e = .returned (.tuple #[.slice none 0 0,.int .i64 6]) /\ Below w.heap.size w w')
theorem sum_told {v : Int} (h : sumB v = true) : sumS v = v:=by
 unfold sumB at h; unfold sumS; rw [if_pos (of_decide_eq_true h)]
set_option maxRecDepth 100000 in
set_option maxHeartbeats 2000000 in
theorem rplainly_any (K n : Nat) (A B : Option Addr) (c c' : Nat) (a b : List Int) (w : World) (hK : K <= 14) (hn : n = 2 ^ K) (ha : UL w A n c a) (hb : UL w B n c' b) (ra : L64b a) (rb : L64b b) (hT : TabAt 2 Lib.deBruijn64tab w) :
  Calls Tryz.prog 13 #[.slice A n c,.slice B n c'] w (PlnPost n a b w):=by
 obtain ⟨i0,hi0,hz0,hz1,hz2⟩:=info_parts i64_info
 have h2 : 2 ^ K <= 2 ^ 14:=Nat.pow_le_pow_right (by decide) hK
 have h1:=Nat.two_pow_pos K
 have hn1 : 1 <= n:=by omega
 have hn2 : n <= 16384:=by omega
 have HO:=Hd (rorder_yes K n A B c c' w hK hn hT)
 have HS:=Hd (fun j (hj : j < n) u (hu : Below w.heap.size w u)=>sum_lists A B n c c' j a b u hn1 hn2 hj (ha.below hu) (hb.below hu) ra rb)
 obtain ⟨L,hL⟩ : ∃ L,L = (List.range n).map (cvI a b n):=⟨_,rfl⟩
 have HLM:=Hd hL
 have HPP : Hid (∀ e w',PlnPost n a b w e w' = PlnPost n a b w e w'):=Hd (fun _ _=>rfl)
 clear ha hb ra rb hT h1 h2 hn hK hL
 go_enter Tryz.func13,Tryz.ntmps13
 go_wp2_with fail
 refine HO.out.mono ?_
 rintro e w1 ⟨rfl,rfl⟩
 go_wp2_with (refine wpList_make_full _ rfl (.tmp 21) (.tmp 21) 22 rfl w.heap.size 2 i0 _ 1 Tryz.underlying22 hi0 hz0 hz1 .i64 .i64 _ _ n rfl rfl (by omega) (by omega) (by rw [hz2]; omega) (by simp only [maxLen]; omega) (Nat.le_refl _) ?_; intro w1 hown1 hg1; have HB1:=Hd ((Below.refl w.heap.size w).grown hg1 (Nat.le_refl _) (fun k hk=>by cases hk)); have ROW:=Hd (LRow.made hown1); clear hown1 hg1)
 go_loopw [25] (fun iv wr=>∃ (i : Nat) (o : List Int),iv = .int .i64 i /\ i <= n /\ Hid (∀ j < i,o[j]? = L[j]?) /\ Hid (∀ j < i,sumB (cvI a b n j) = true) /\ Hid (LRow wr w.heap.size w.heap.size n o) /\ Hid (Below w.heap.size w wr)) (fun iv _=>n - (intOf iv).toNat)
 case atStart=>exact ⟨0,List.replicate n 0,rfl,Nat.zero_le _,Hd (fun j hj=>absurd hj (Nat.not_lt_zero _)),Hd (fun j hj=>absurd hj (Nat.not_lt_zero _)),ROW,HB1⟩
 case round =>
  clear ROW HB1
  obtain ⟨i,o,rfl,hi,HI,HT,HR,HB⟩:=hrel
  by_cases hlt : i < n
  ·have HC:=Hd (HS.out i hlt wr HB.out)
   obtain ⟨z,hz⟩ : ∃ z,z = cvI a b n i:=⟨_,rfl⟩
   rw [<- hz] at HC
   by_cases hs : sumB z = true
   ·have e1:=sum_told hs
    rw [hs,e1] at HC
    have k4 : L[i]? = some z:=by rw [HLM.out,List.getElem?_map,List.getElem?_range hlt,hz]; rfl
    have HTN : Hid (∀ j < i + 1,sumB (cvI a b n j) = true):=Hd (fun j hj=>by
     by_cases e : j = i
     ·rw [e,<- hz]; exact hs
     ·exact HT.out j (by omega))
    have HIN : Hid (∀ j < i + 1,(o.set i z)[j]? = L[j]?):=Hd (fun j hj=>by
     have hol : o.length = L.length:=by rw [HR.out.len,HLM.out]; simp
     by_cases e : j = i
     ·subst e; exact set_right_self k4 hol
     ·exact set_right k4 hol (HI.out j (by omega)))
    clear hz k4 hs e1
    go_wp2_with fail
    refine HC.out.mono ?_
    rintro e w2 ⟨rfl,hb2⟩
    have HR2 : Hid (LRow w2 w.heap.size w.heap.size n o):=Hd (HR.out.below hb2)
    have HB2:=Hd (HB.out.trans (hb2.mono HB.out.size))
    clear hb2 HC
    obtain ⟨v0,hv0⟩ : ∃ v0,o[i]? = some v0:=⟨_,List.getElem?_eq_getElem (by have:=HR2.out.len; omega)⟩
    have hcell:=HR2.out.cell i v0 hv0
    have hfr:=HR2.out.free i
    have HRN:=Hd (HR2.out.set i z)
    have HBN:=Hd (HB2.out.setCell (p:=⟨w.heap.size,i,none⟩) (Nat.le_refl _) (.int .i64 z))
    clear hv0
    go_wp2_with fail
    exact ⟨⟨i + 1,_,by go_num,hlt,HIN,HTN,HRN,HBN⟩,by simp [intOf]; omega⟩
   ·have hs' : sumB z = false:=by simpa using hs
    rw [hs'] at HC
    have HNO : Hid (∃ j,j < n /\ sumB (cvI a b n j) = false):=Hd ⟨i,hlt,by rw [<- hz]; exact hs'⟩
    clear hs hs' hz
    go_wp2_with fail
    refine HC.out.mono ?_
    rintro e w2 ⟨rfl,hb2⟩
    have HB2:=Hd (HB.out.trans (hb2.mono HB.out.size))
    clear hb2 HC
    go_wp2_with fail
    go_ret2
    exact .inr ⟨HNO.out,rfl,HB2.out⟩
  ·obtain rfl : n = i:=by omega
   have HOL : Hid (o = L):=Hd (by
    apply List.ext_getElem?
    intro k
    by_cases hk : k < n
    ·exact HI.out k hk
    ·rw [List.getElem?_eq_none (by rw [HR.out.len]; omega),List.getElem?_eq_none (by rw [HLM.out]; simp; omega)])
   go_wp2_with fail
   go_ret2
   exact .inl ⟨HT.out,_,rfl,by rw [<- HLM.out,<- HOL.out]; exact HR.out,HB.out⟩
end
section
open Go.RowKit
end
end Go.Proofs.YtfpopdneokekiaaGreatDoor

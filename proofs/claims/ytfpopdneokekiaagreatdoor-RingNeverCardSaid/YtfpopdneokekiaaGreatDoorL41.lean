/-
Walk: RingBounds.
-/
import Derived.Test.YtfpopdneokekiaaGreatDoorL40
import Derived.Lib.LaidTab
import Derived.Lib.Hide
set_option linter.unusedVariables false
set_option linter.unusedSimpArgs false
namespace Go.Proofs.YtfpopdneokekiaaGreatDoor
section
open Go.RowKit
theorem ok_small (l : List Int) (h : (l.all fun x=>decide (-9007199254740992 <= x /\ x <= 9007199254740992)) = true) : okL l:=fun x hx=>of_decide_eq_true (List.all_eq_true.1 h x hx)
theorem l64_small (l : List Int) (h : (l.all fun x=>decide (-9223372036854775808 <= x /\ x < 9223372036854775808)) = true) : L64b l:=fun x hx=>of_decide_eq_true (List.all_eq_true.1 h x hx)
theorem aw_cyc (A B : Option Addr) (w : World) (hR : RWd An.PI w) (ha : UL w A 4 4 [1,2,3,4]) (hb : UL w B 4 4 [0,1,0,0]) :
  Calls Tryz.prog 19 #[.slice A 4 4,.slice B 4 4] w fun e w'=>∃ g,e = .returned (.tuple #[.slice (some ⟨g,0,none⟩) 4 4,.int .i64 0]) /\ UL w' (some ⟨g,0,none⟩) 4 4 [4,1,2,3] /\ Below w.heap.size w w':=by
 have h:=rcyclic_any 2 4 An.PI _ A B 4 4 _ _ wh2 w (by decide) rfl hR whl_two (by decide) ha hb (ok_small _ (by decide)) (ok_small _ (by decide))
  (bound_closed 2 4 _ 4616189618054758400 4607182418800017408 A B 4 4 _ _ w (by decide) rfl ha hb (ok_small _ (by decide)) (ok_small _ (by decide)) hR.aw.tab (by decide +kernel) (by decide +kernel) bf_two.1 rfl) bf_two.2 cyc_two
 refine h.mono ?_
 rintro e w' ⟨g,h1,h2,h3⟩
 rw [out_two] at h2
 exact ⟨g,h1,h2.u,h3⟩
theorem aw_pln (A B : Option Addr) (w : World) (hR : RWd An.PI w) (ha : UL w A 2 2 [1,2]) (hb : UL w B 2 2 [3,4]) :
  Calls Tryz.prog 13 #[.slice A 2 2,.slice B 2 2] w fun e w'=>∃ g,e = .returned (.tuple #[.slice (some ⟨g,0,none⟩) 2 2,.int .i64 0]) /\ UL w' (some ⟨g,0,none⟩) 2 2 [11,10] /\ Below w.heap.size w w':=by
 have h:=rplainly_any 1 2 A B 2 2 _ _ w (by decide) rfl ha hb (l64_small _ (by decide)) (l64_small _ (by decide)) hR.aw.tab
 refine h.mono ?_
 have hc : (List.range 2).map (cvI [1,2] [3,4] 2) = [11,10]:=by decide
 have ht : ∀ j < 2,sumB (cvI [1,2] [3,4] 2 j) = true:=by decide
 rintro e w' (⟨_,g,h1,h2,h3⟩ | ⟨⟨j,hj,h1⟩,_⟩)
 ·rw [hc] at h2
  exact ⟨g,h1,h2.u,h3⟩
 ·rw [ht j hj] at h1; cases h1
theorem aw_bnd (A B : Option Addr) (w : World) (hR : RWd An.PI w) (ha : UL w A 1 1 [1]) (hb : UL w B 1 1 [1]) :
  Calls Tryz.prog 18 #[.slice A 1 1,.slice B 1 1] w fun e w'=>e = .returned (.tuple #[.float .f64 (bf 0 4607182418800017408 4607182418800017408),.int .i64 0]) /\ Below w.heap.size w w' :=
 bound_closed 0 1 _ 4607182418800017408 4607182418800017408 A B 1 1 _ _ w (by decide) rfl ha hb (ok_small _ (by decide)) (ok_small _ (by decide)) hR.aw.tab (by decide +kernel) (by decide +kernel) bf_zero.1 rfl
theorem aw_big (A B : Option Addr) (w : World) (hR : RWd An.PI w) (ha : UL w A 1 1 [67108864]) (hb : UL w B 1 1 [67108864]) :
  Calls Tryz.prog 19 #[.slice A 1 1,.slice B 1 1] w fun e w'=>e = .returned (.tuple #[.slice none 0 0,.int .i64 8]) /\ Below w.heap.size w w' :=
 rcyclic_bound 1 1 _ A B 1 1 w (bound_closed 0 1 _ 4724276009111650304 4724276009111650304 A B 1 1 _ _ w (by decide) rfl ha hb (ok_small _ (by decide)) (ok_small _ (by decide)) hR.aw.tab (by decide +kernel) (by decide +kernel) bf_big.1 rfl) bf_big.2
theorem two_rows (w : World) (l m : List Int) (t : TypeId) : UL ((w.alloc (.cells (l.map (Value.int .i64)).toArray t)).alloc (.cells (m.map (Value.int .i64)).toArray t)) (some ⟨w.heap.size,0,none⟩) l.length l.length l /\
  UL ((w.alloc (.cells (l.map (Value.int .i64)).toArray t)).alloc (.cells (m.map (Value.int .i64)).toArray t)) (some ⟨w.heap.size + 1,0,none⟩) m.length m.length m /\
  Below w.heap.size w ((w.alloc (.cells (l.map (Value.int .i64)).toArray t)).alloc (.cells (m.map (Value.int .i64)).toArray t)):=by
 have h1:=UL_new w l t
 have h2:=UL_new (w.alloc (.cells (l.map (Value.int .i64)).toArray t)) m t
 have b1:=(Below.refl w.heap.size w).alloc (Nat.le_refl _) (.cells (l.map (Value.int .i64)).toArray t)
 have b2:=(Below.refl (w.alloc (.cells (l.map (Value.int .i64)).toArray t)).heap.size (w.alloc (.cells (l.map (Value.int .i64)).toArray t))).alloc (Nat.le_refl _) (.cells (m.map (Value.int .i64)).toArray t)
 have hs : (w.alloc (.cells (l.map (Value.int .i64)).toArray t)).heap.size = w.heap.size + 1:=by simp
 rw [<- hs]
 exact ⟨h1.below b2,h2,b1.trans (b2.mono b1.size)⟩
set_option maxRecDepth 100000 in
set_option maxHeartbeats 4000000 in
theorem rawake_any (w : World) (hR : RWd An.PI w) : Calls Tryz.prog 10 #[] w fun e w'=>e = .returned (.bool true) /\ Below w.heap.size w w':=by
 have HR:=Hd hR
 have HB0:=Hd (Below.refl w.heap.size w)
 obtain ⟨F,hF⟩ : ∃ F,F = bf 0 4607182418800017408 4607182418800017408:=⟨_,rfl⟩
 have o1:=bf_zero.2.1
 have o2:=bf_zero.2.2
 have HBN:=Hd aw_bnd
 rw [<- hF] at o1 o2 HBN
 clear hR hF
 go_enter Tryz.func10,Tryz.ntmps10
 go_wp2_with fail
 obtain ⟨u1,u2,b1⟩:=two_rows w [1,2,3,4] [0,1,0,0] 2
 have C1:=Hd (aw_cyc _ _ _ (HR.out.below b1) u1 u2)
 have B1:=Hd b1
 clear u1 u2 b1
 refine C1.out.mono ?_
 rintro e w1 ⟨g1,rfl,r1,b2⟩
 have R1:=Hd r1
 have B2:=Hd (B1.out.trans (b2.mono B1.out.size))
 clear r1 b2 C1 B1
 go_wp2_with fail
 obtain ⟨u1,u2,b1⟩:=two_rows w1 [1,2] [3,4] 2
 have B1:=Hd (B2.out.trans (b1.mono B2.out.size))
 have C1:=Hd (aw_pln _ _ _ (HR.out.below B1.out) u1 u2)
 have R1':=Hd (R1.out.below b1)
 clear u1 u2 b1 B2 R1
 refine C1.out.mono ?_
 rintro e w2 ⟨g2,rfl,r2,b2⟩
 have R1:=Hd (R1'.out.below b2)
 have R2:=Hd r2
 have B2:=Hd (B1.out.trans (b2.mono B1.out.size))
 clear r2 b2 C1 B1 R1'
 go_wp2_with fail
 obtain ⟨u1,u2,b1⟩:=two_rows w2 [1] [1] 2
 have B1:=Hd (B2.out.trans (b1.mono B2.out.size))
 have C1:=Hd (HBN.out _ _ _ (HR.out.below B1.out) u1 u2)
 have R1':=Hd (R1.out.below b1)
 have R2':=Hd (R2.out.below b1)
 clear u1 u2 b1 B2 R1 R2 HBN
 refine C1.out.mono ?_
 rintro e w3 ⟨rfl,b2⟩
 have R1:=Hd (R1'.out.below b2)
 have R2:=Hd (R2'.out.below b2)
 have B2:=Hd (B1.out.trans (b2.mono B1.out.size))
 clear b2 C1 B1 R1' R2'
 go_wp2_with fail
 obtain ⟨u1,u2,b1⟩:=two_rows w3 [67108864] [67108864] 2
 have B1:=Hd (B2.out.trans (b1.mono B2.out.size))
 have C1:=Hd (aw_big _ _ _ (HR.out.below B1.out) u1 u2)
 have R1':=Hd (R1.out.below b1)
 have R2':=Hd (R2.out.below b1)
 clear u1 u2 b1 B2 R1 R2
 refine C1.out.mono ?_
 rintro e w4 ⟨rfl,b2⟩
 have R1:=Hd (R1'.out.below b2)
 have R2:=Hd (R2'.out.below b2)
 have B2:=Hd (B1.out.trans (b2.mono B1.out.size))
 clear b2 C1 B1 R1' R2'
 go_wp2_with fail
 have b1:=(Below.refl w4.heap.size w4).alloc (Nat.le_refl _) (.cells (([4,1,2,3] : List Int).map (Value.int .i64)).toArray 2)
 have C1:=Hd (same_longs _ 4 4 _ 4 [4,1,2,3] _ (by decide) (R1.out.below b1) (UL_new w4 [4,1,2,3] 2))
 have B1:=Hd (B2.out.trans (b1.mono B2.out.size))
 have R2':=Hd (R2.out.below b1)
 clear b1 B2 R1 R2
 refine C1.out.mono ?_
 rintro e w5 ⟨rfl,b2⟩
 have R2:=Hd (R2'.out.below b2)
 have B2:=Hd (B1.out.trans (b2.mono B1.out.size))
 clear b2 C1 B1 R2'
 go_wp2_with fail
 have b1:=(Below.refl w5.heap.size w5).alloc (Nat.le_refl _) (.cells (([11,10] : List Int).map (Value.int .i64)).toArray 2)
 have C1:=Hd (same_longs _ 2 2 _ 2 [11,10] _ (by decide) (R2.out.below b1) (UL_new w5 [11,10] 2))
 have B1:=Hd (B2.out.trans (b1.mono B2.out.size))
 clear b1 B2 R2
 refine C1.out.mono ?_
 rintro e w6 ⟨rfl,b2⟩
 have B2:=Hd (B1.out.trans (b2.mono B1.out.size))
 clear b2 C1 B1
 go_wp2_with fail
 go_ret
 exact ⟨rfl,B2.out⟩
end
section
open Go.RowKit
theorem laid_head {P : Program} {W : World} {name : String} {k : IntKind} {zs : List Int} {rest : List (String × DataW Unit)} {ps : List MemPlace} {g : Nat} {t e : TypeId} {n : Nat}
  (hg : P.globalNamed name = some g) (hty : (P.globals[g]?).map (·.type) = some t) (ht : P.underlying t = some (.array n e)) (he : P.underlying e = some (.int k)) (hce : P.cellsOf e = 1) (hct : P.cellsOf t = n)
  (h : DataW.LaidVars P W ((name,Lib.tabData k zs) :: rest) ps) : Lib.TabIs P W name k zs /\ ∃ q,DataW.LaidVars P W rest q:=by
 obtain ⟨g',t',cs,fuel,p,q,hg',ht',hvar,hd,hr,_⟩:=h
 obtain rfl:=Option.some.inj (hg.symm.trans hg')
 obtain rfl:=Option.some.inj (hty.symm.trans ht')
 refine ⟨?_,q,hr⟩
 unfold Lib.TabIs
 rw [hvar,<- Lib.cells_of_tab ht he hce hct hd]
theorem tabAt_of {W : World} {name : String} {g : Nat} {tab : List Nat} (hg : Tryz.prog.globalNamed name = some g) (h : Lib.TabIs Tryz.prog W name .u8 (tab.map Int.ofNat)) : TabAt g tab W:=fun j hj=>by
 have:=h.cell hg j (by simpa using hj)
 rw [this]
 simp [List.getD,hj]
theorem tab_lt {g : Nat} {tab : List Nat} {W : World} (h : TabAt g tab W) (h0 : 0 < tab.length) : g < W.heap.size:=World.block_lt_of_cell? W ⟨g,0,none⟩ (h 0 h0)
theorem rwd_of {W : World} (h1 : TabAt 2 Lib.deBruijn64tab W) (h2 : TabAt 3 nibT W) : RWd An.PI W :=
 ⟨⟨h1,tab_lt h1 (by decide),piM_closed,PI_small⟩,h2,tab_lt h2 (by decide)⟩
def laidL : List (String × DataW Unit) := [("math/bits.deBruijn32tab", Rows.laid_math_bits_deBruijn32tab), ("math/bits.deBruijn64tab", Rows.laid_math_bits_deBruijn64tab), ("rosette/shuffle.nibble", Rows.laid_rosette_shuffle_nibble)]
theorem gT32 : Tryz.prog.globalNamed "math/bits.deBruijn32tab" = some 1 := by kernel_rfl
theorem gT64 : Tryz.prog.globalNamed "math/bits.deBruijn64tab" = some 2 := by kernel_rfl
theorem gTnib : Tryz.prog.globalNamed "rosette/shuffle.nibble" = some 3 := by kernel_rfl
theorem rwd_laid {W : World} (h : laidMet Tryz.prog laidL W) : RWd An.PI W:=by
 obtain ⟨ps,h0,_⟩:=h
 have h0' : DataW.LaidVars Tryz.prog W (("math/bits.deBruijn32tab", Lib.tabData .u8 ([0, 1, 28, 2, 29, 14, 24, 3, 30, 22, 20, 15, 25, 17, 4, 8, 31, 27, 13, 23, 21, 19, 16, 7, 26, 12, 18, 6, 11, 5, 10, 9] : List Int)) :: ("math/bits.deBruijn64tab", Lib.tabData .u8 (Lib.deBruijn64tab.map Int.ofNat)) :: ("rosette/shuffle.nibble", Lib.tabData .u8 (nibT.map Int.ofNat)) :: []) ps := h0
 obtain ⟨_,q1,r1⟩:=laid_head gT32 (t:=187) (e:=5) (n:=32) (by kernel_rfl) Tryz.underlying187 Tryz.underlying5 (by kernel_rfl) (by kernel_rfl) h0'
 obtain ⟨t1,q2,r2⟩:=laid_head gT64 (t:=188) (e:=5) (n:=64) (by kernel_rfl) Tryz.underlying188 Tryz.underlying5 (by kernel_rfl) (by kernel_rfl) r1
 obtain ⟨t2,q3,r3⟩:=laid_head gTnib (t:=201) (e:=5) (n:=16) (by kernel_rfl) Tryz.underlying201 Tryz.underlying5 (by kernel_rfl) (by kernel_rfl) r2
 exact rwd_of (tabAt_of gT64 t1) (tabAt_of gTnib t2)
end
section
open Go.RowKit
theorem mxL_float (l : List Int) : floatOfInt .f64 (mxL l) < 2 * Fl.W:=by
 obtain ⟨s,k,e⟩ : ∃ s k,mxL l = Fl.sgi s k:=by
  rcases Int.le_total 0 (mxL l) with h | h
  ·exact ⟨false,(mxL l).toNat,by unfold Fl.sgi; simp; omega⟩
  ·exact ⟨true,(mxL l).natAbs,by unfold Fl.sgi; simp; omega⟩
 rw [e,Fl.ofInt_sgi]
 exact Fl.rnd_lt _ _
end
end Go.Proofs.YtfpopdneokekiaaGreatDoor

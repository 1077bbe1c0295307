/-
Walk: RingBounds.
-/
import Derived.Test.YtnpanpkahbcecaaGreatDoorP38
import Derived.Lib.LaidTab
import Derived.Lib.Hide
set_option linter.unusedVariables false
set_option linter.unusedSimpArgs false
namespace Go.Proofs.YtnpanpkahbcecaaGreatDoor
section
open Go.RowKit
theorem ok_small (l : List Int) (h : (l.all fun x=>decide (-9007199254740992 <= x /\ x <= 9007199254740992)) = true) : okL l:=fun x hx=>of_decide_eq_true (List.all_eq_true.1 h x hx)
theorem l64_small (l : List Int) (h : (l.all fun x=>decide (-9223372036854775808 <= x /\ x < 9223372036854775808)) = true) : L64b l:=fun x hx=>of_decide_eq_true (List.all_eq_true.1 h x hx)
theorem two_rows (w : World) (l m : List Int) (t : TypeId) : UL ((w.alloc (.cells (l.map (Value.int .i64)).toArray t)).alloc (.cells (m.map (Value.int .i64)).toArray t)) (some ⟨w.heap.size,0,none⟩) l.length l.length l /\
  UL ((w.alloc (.cells (l.map (Value.int .i64)).toArray t)).alloc (.cells (m.map (Value.int .i64)).toArray t)) (some ⟨w.heap.size + 1,0,none⟩) m.length m.length m /\
  Below w.heap.size w ((w.alloc (.cells (l.map (Value.int .i64)).toArray t)).alloc (.cells (m.map (Value.int .i64)).toArray t)):=by
 have h1:=UL_new w l t
 have h2:=UL_new (w.alloc (.cells (l.map (Value.int .i64)).toArray t)) m t
 have b1:=(Below.refl w.heap.size w).alloc (Nat.le_refl _) (.cells (l.map (Value.int .i64)).toArray t)
 have b2:=(Below.refl (w.alloc (.cells (l.map (Value.int .i64)).toArray t)).heap.size (w.alloc (.cells (l.map (Value.int .i64)).toArray t))).alloc (Nat.le_refl _) (.cells (m.map (Value.int .i64)).toArray t)
 have hs : (w.alloc (.cells (l.map (Value.int .i64)).toArray t)).heap.size = w.heap.size + 1:=by simp
 rw [<- hs]
 exact ⟨h1.below b2,h2,b1.trans (b2.mono b1.size)⟩
end
section
open Go.RowKit
theorem laid_head {P : Program} {W : World} {name : String} {k : IntKind} {zs : List Int} {rest : List (String × DataW Unit)} {ps : List MemPlace} {g : Nat} {t e : TypeId} {n : Nat}
  (hg : P.globalNamed name = some g) (hty : (P.globals[g]?).map (·.type) = some t) (ht : P.underlying t = some (.array n e)) (he : P.underlying e = some (.int k)) (hce : P.cellsOf e = 1) (hct : P.cellsOf t = n)
  (h : DataW.LaidVars P W ((name,Lib.tabData k zs) :: rest) ps) : Lib.TabIs P W name k zs /\ ∃ q,DataW.LaidVars P W rest q:=by
 obtain ⟨g',t',cs,fuel,p,q,hg',ht',hvar,hd,hr,_⟩:=h
 obtain rfl:=Option.some.inj (hg.symm.trans hg')
 obtain rfl:=Option.some.inj (hty.symm.trans ht')
 refine ⟨?_,q,hr⟩
 unfold Lib.TabIs
 rw [hvar,<- Lib.cells_of_tab ht he hce hct hd]
theorem tabAt_of {W : World} {name : String} {g : Nat} {tab : List Nat} (hg : Tryz.prog.globalNamed name = some g) (h : Lib.TabIs Tryz.prog W name .u8 (tab.map Int.ofNat)) : TabAt g tab W:=fun j hj=>by
 have:=h.cell hg j (by simpa using hj)
 rw [this]
 simp [List.getD,hj]
theorem tab_lt {g : Nat} {tab : List Nat} {W : World} (h : TabAt g tab W) (h0 : 0 < tab.length) : g < W.heap.size:=World.block_lt_of_cell? W ⟨g,0,none⟩ (h 0 h0)
theorem rwd_of {W : World} (h1 : TabAt 2 Lib.deBruijn64tab W) (h2 : TabAt 3 nibT W) : RWd An.PI W :=
 ⟨⟨h1,tab_lt h1 (by decide),piM_closed,PI_small⟩,h2,tab_lt h2 (by decide)⟩
def laidL : List (String × DataW Unit) := [("math/bits.deBruijn32tab", Rows.laid_math_bits_deBruijn32tab), ("math/bits.deBruijn64tab", Rows.laid_math_bits_deBruijn64tab), ("rosette/shuffle.nibble", Rows.laid_rosette_shuffle_nibble)]
theorem gT32 : Tryz.prog.globalNamed "math/bits.deBruijn32tab" = some 1 := by kernel_rfl
theorem gT64 : Tryz.prog.globalNamed "math/bits.deBruijn64tab" = some 2 := by kernel_rfl
theorem gTnib : Tryz.prog.globalNamed "rosette/shuffle.nibble" = some 3 := by kernel_rfl
theorem rwd_laid {W : World} (h : laidMet Tryz.prog laidL W) : RWd An.PI W:=by
 obtain ⟨ps,h0,_⟩:=h
 have h0' : DataW.LaidVars Tryz.prog W (("math/bits.deBruijn32tab", Lib.tabData .u8 ([0, 1, 28, 2, 29, 14, 24, 3, 30, 22, 20, 15, 25, 17, 4, 8, 31, 27, 13, 23, 21, 19, 16, 7, 26, 12, 18, 6, 11, 5, 10, 9] : List Int)) :: ("math/bits.deBruijn64tab", Lib.tabData .u8 (Lib.deBruijn64tab.map Int.ofNat)) :: ("rosette/shuffle.nibble", Lib.tabData .u8 (nibT.map Int.ofNat)) :: []) ps := h0
 obtain ⟨_,q1,r1⟩:=laid_head gT32 (t:=223) (e:=5) (n:=32) (by kernel_rfl) Tryz.underlying223 Tryz.underlying5 (by kernel_rfl) (by kernel_rfl) h0'
 obtain ⟨t1,q2,r2⟩:=laid_head gT64 (t:=224) (e:=5) (n:=64) (by kernel_rfl) Tryz.underlying224 Tryz.underlying5 (by kernel_rfl) (by kernel_rfl) r1
 obtain ⟨t2,q3,r3⟩:=laid_head gTnib (t:=231) (e:=5) (n:=16) (by kernel_rfl) Tryz.underlying231 Tryz.underlying5 (by kernel_rfl) (by kernel_rfl) r2
 exact rwd_of (tabAt_of gT64 t1) (tabAt_of gTnib t2)
end
section
open Go.RowKit
theorem mxL_float (l : List Int) : floatOfInt .f64 (mxL l) < 2 * Fl.W:=by
 obtain ⟨s,k,e⟩ : ∃ s k,mxL l = Fl.sgi s k:=by
  rcases Int.le_total 0 (mxL l) with h | h
  ·exact ⟨false,(mxL l).toNat,by unfold Fl.sgi; simp; omega⟩
  ·exact ⟨true,(mxL l).natAbs,by unfold Fl.sgi; simp; omega⟩
 rw [e,Fl.ofInt_sgi]
 exact Fl.rnd_lt _ _
end
end Go.Proofs.YtnpanpkahbcecaaGreatDoor

/-
How slices of integers come in, with the bound that the form's reach gives.
-/
import Derived.Test.YtnpanpkahbcecaaGreatDoorP5
import Derived.Deep.CutBlock
import Derived.Deep.DeepCutAuto
import Derived.Deep.QuietTactic
import Derived.BigQuiet
import Derived.ProofKit
import Derived.OpenShut
import Derived.Laws.Cover2
import Derived.Deep.Slices
import Derived.Lib.SmallJoins
import Derived.SizedLaws
import Derived.Lib.Hide
set_option linter.unusedVariables false
set_option linter.unusedSimpArgs false
namespace Go.Proofs.YtnpanpkahbcecaaGreatDoor
section
open Go.RowKit
def Dr (w w' : World) : Prop:=∃ n,w' = w.drewN n
theorem Dr.refl (w : World) : Dr w w:=⟨0,rfl⟩
theorem Dr.drew (w : World) : Dr w w.drew:=⟨1,rfl⟩
theorem drewN_drewN (w : World) (n m : Nat) : (w.drewN n).drewN m = w.drewN (n + m):=by
 simp [World.drewN,Nat.add_assoc]
theorem Dr.trans {a b c : World} (h1 : Dr a b) (h2 : Dr b c) : Dr a c:=by
 obtain ⟨n,rfl⟩:=h1; obtain ⟨m,rfl⟩:=h2; exact ⟨n + m,drewN_drewN _ _ _⟩
def FlPost (o : Option Nat) (w : World) (e : Ending) (w' : World) : Prop:=∃ s,e = .returned (.float .f64 s) /\ Fl.Is o s /\ Dr w w'
def BPost (b : Bool) (w : World) (e : Ending) (w' : World) : Prop:=e = .returned (.bool b) /\ Dr w w'
theorem run_float_any (op : BinOp) (t : TypeId) (x y : Nat) (w : World) (hop : op = .add \/ op = .sub \/ op = .mul \/ op = .quo) :
  ∃ s w1,(binOp op t (.float .f64 x) (.float .f64 y)).run Tryz.prog w = .ok (.float .f64 s) w1 /\ Fl.Is (floatBits op .f64 x y) s /\ (w1 = w \/ w1 = w.drew):=by
 cases h : floatBits op .f64 x y with
 | some r=>exact ⟨r,w,run_float_arith w op t .f64 x y r h,rfl,.inl rfl⟩
 | none =>
   refine ⟨_,w.drew,?_,Fl.nan_draw (w.tape w.drawn (.nanBits .f64 x y)),.inr rfl⟩
   rcases hop with rfl | rfl | rfl | rfl <;> (simp only [floatBits] at h; simp [binOp,Op.floatArith,h,Question.forced,Question.cut])
theorem fin_walk_yes (x : Nat) (hw : x < 2 * Fl.W) (h : Fl.rg x < Fl.I) (w : World) : (binOp .sub 76 (.float .f64 x) (.float .f64 x)).run Tryz.prog w = .ok (.float .f64 0) w :=
 run_float_arith w .sub _ .f64 x x 0 (Fl.sub_self_fin x hw h)
theorem finite_yes (x : Nat) (w : World) (hw : x < 2 * Fl.W) (h : Fl.rg x < Fl.I) : Calls Tryz.prog 132 #[.float .f64 x] w fun e w'=>e = .returned (.bool true) /\ w = w':=by
 have h1:=fin_walk_yes x hw h
 have h2 : FloatKind.f64.format.order 0 0 = some .eq:=by decide
 go_enter Tryz.func132,Tryz.ntmps132
 go_wp2
 go_ret
 exact ⟨rfl,rfl⟩
theorem nan_order (s : Nat) (h : Fl.I < Fl.rg s) : FloatKind.f64.format.order s 0 = none:=Fl.order_nan _ _ (.inl h)
theorem finite_no (x : Nat) (w : World) (h : ¬ Fl.rg x < Fl.I) : Calls Tryz.prog 132 #[.float .f64 x] w (BPost false w):=by
 obtain ⟨s,w1,hr,hs,hw1⟩:=run_float_any .sub 76 x x w (by simp)
 have hs1 : Fl.Is none s:=by rw [<- Fl.sub_self_not x h]; exact hs
 have ho:=nan_order s hs1.1
 have HD : Hid (Dr w w1):=by rcases hw1 with rfl | rfl; exact Dr.refl _; exact Dr.drew _
 clear hs hs1 hw1 h
 go_enter Tryz.func132,Tryz.ntmps132
 go_wp2
 go_ret
 exact ⟨rfl,HD.out⟩
def Fl.next (x : Nat) (up : Bool) : Nat :=
 if Fl.I < Fl.rg x then x
 else if Fl.rg x = Fl.I /\ up = !Fl.sg x then x
 else if Fl.rg x = 0 then (if up then 1 else Fl.W + 1)
 else if up = !Fl.sg x then x + 1 else x - 1
end
section
open Go.RowKit
theorem RowC.below {w w' : World} {base g n c : Nat} {o : List Int} (h : RowC w base g n c o) (hb : Below w.heap.size w w') : RowC w' base g n c o:=by
 obtain ⟨h1,h2⟩:=h
 refine ⟨h1,?_⟩
 rcases h2 with h' | ⟨g',cap',cur,h',hb',hg,rest⟩
 ·exact .inl h'
 ·exact .inr ⟨g',cap',cur,h',hb',by rw [hb.block g' (Array.getElem?_eq_some_iff.1 hg).1]; exact hg,rest⟩
theorem RowC.drewN {w : World} {base g n c : Nat} {o : List Int} (h : RowC w base g n c o) (m : Nat) : RowC (w.drewN m) base g n c o:=h
def Cell2 (g : Nat) (w : World) : Prop:=w.cell? ⟨g,0,none⟩ = some (.bool false) /\ w.cell? ⟨g,1,none⟩ = some (.slice none 0 0) /\ (∀ j,w.frozen? ⟨g,j,none⟩ = false) /\ g < w.heap.size
theorem Cell2.below {g : Nat} {w w' : World} (h : Cell2 g w) (hb : Below w.heap.size w w') : Cell2 g w' :=
 ⟨(hb.cell (p:=⟨g,0,none⟩) h.2.2.2).trans h.1,(hb.cell (p:=⟨g,1,none⟩) h.2.2.2).trans h.2.1,fun j=>(hb.frozen (p:=⟨g,j,none⟩) h.2.2.2).trans (h.2.2.1 j),Nat.lt_of_lt_of_le h.2.2.2 hb.size⟩
namespace Nt
theorem take_set_succ (o : List Int) (i : Nat) (z : Int) (h : i < o.length) : (o.set i z).take (i + 1) = o.take i ++ [z]:=by
 rw [List.take_add_one,List.getElem?_set_self (by simpa using h),List.take_set_of_le (Nat.le_refl i)]
 rfl
end Nt
end
section
open Go.RowKit
theorem mark_any (i : Nat) (hi : i < 1000) (w : World) : Calls Tryz.prog 61 #[.int .i64 1,.int .i64 i] w fun e w'=>e = .returned (.int .i64 (8000024 + (i : Int))) /\ w = w':=by
 go_enter Tryz.func61,Tryz.ntmps61
 go_wp2
 go_ret
 exact ⟨by simp,rfl⟩
theorem i64_info : (Tryz.prog.info? 2).map (fun i=>(i.zero,i.size,i.bytes)) = some (some (.int .i64 0),1,8):=by kernel_rfl
theorem UL.of_own {w : World} {base : Nat} {e : TypeId} {v : Value} {n : Nat} {l : List Int} (h : w.ownsRow base e 1 v n (l.map (Value.int .i64))) : ∃ A c,v = .slice A n c /\ UL w A n c l:=by
 have hl : l.length = n:=by have:=h.1; simp at this; omega
 rcases Nat.eq_zero_or_pos n with hn | hn
 ·subst hn
  have hnil : l = []:=List.eq_nil_of_length_eq_zero hl
  subst hnil
  rcases h.2 with ⟨rfl,_⟩ | ⟨g,cap,cur,rfl,_⟩
  ·exact ⟨_,_,rfl,rfl,Nat.le_refl _,fun _=>rfl,fun k x hk=>by simp at hk⟩
  ·exact ⟨_,_,rfl,rfl,Nat.zero_le _,(fun he=>by cases he),fun k x hk=>by simp at hk⟩
 ·obtain ⟨g,cap,hv,hc,hlt⟩:=h.form hn
  refine ⟨_,_,hv,hl,?_,(fun he=>by cases he),fun k x hk=>⟨_,rfl,hlt,h.cells (g:=g) (by rw [hv]; rfl) k _ (by rw [List.getElem?_map,hk]; rfl)⟩⟩
  rcases h.2 with ⟨rfl,h0⟩ | ⟨g',cap',cur,rfl,_,_,hnc,_⟩
  ·omega
  ·injection hv with _ _ hc2; omega
def LentL (w : World) (g n : Nat) (l : List Int) : Prop:=l.length = n /\ g < w.heap.size /\ (∀ k x,l[k]? = some x -> w.cell? ⟨g,k,none⟩ = some (.int .i64 x)) /\ ∀ i,i < 12 -> w.cell? ⟨g,n + i,none⟩ = some (.int .i64 (8000024 + (i : Int)))
theorem LentL.below {w w' : World} {g n : Nat} {l : List Int} (h : LentL w g n l) (hb : Below w.heap.size w w') : LentL w' g n l :=
 ⟨h.1,Nat.lt_of_lt_of_le h.2.1 hb.size,fun k x hk=>(hb.cell (p:=⟨g,k,none⟩) h.2.1).trans (h.2.2.1 k x hk),fun i hi=>(hb.cell (p:=⟨g,n + i,none⟩) h.2.1).trans (h.2.2.2 i hi)⟩
set_option maxRecDepth 100000 in
set_option maxHeartbeats 4000000 in
theorem kept_longs (A : Option Addr) (n c g : Nat) (l : List Int) (w : World) (hn : n <= 20000000000000) (hl : LentL w g n l) (hr : UL w A n c l) :
  Calls Tryz.prog 29 #[.slice (some ⟨g,0,none⟩) n (n + 12),.slice A n c] w fun e w'=>e = .returned (.bool true) /\ Below w.heap.size w w':=by
 have HL:=Hd hl
 have HR:=Hd hr
 have HLEN:=Hd hl.1
 clear hl hr
 go_enter Tryz.func29,Tryz.ntmps29
 go_wp2_with fail
 go_loopw [6] (fun t wr=>∃ i : Nat,i <= n + 12 /\ t = .int .i64 i /\ Below w.heap.size w wr) (fun t _=>n + 12 - (intOf t).toNat)
 case atStart=>exact ⟨0,Nat.zero_le _,rfl,Below.refl _ _⟩
 case round =>
  obtain ⟨i,hi,rfl,hd⟩:=hrel
  have HD:=Hd hd
  have HL1:=Hd (HL.out.below hd)
  have HR1:=Hd (HR.out.below hd)
  clear hd
  by_cases hlt : i < n + 12
  ·by_cases hin : i < n
   ·obtain ⟨x,hx⟩ : ∃ x,l[i]? = some x:=⟨_,List.getElem?_eq_getElem (by have:=HLEN.out; omega)⟩
    have hc1:=HL1.out.2.2.1 i x hx
    obtain ⟨ad,rfl,_,hc2⟩:=HR1.out.2.2.2 i x hx
    have hge2 : decide (n <= i) = false:=by simp; omega
    clear hx
    go_wp2_with fail
    go_quiet (fail)
    rename_i nq
    have HD2:=Hd (HD.out.trans (show Below w.heap.size wr (wr.drewN nq) from ⟨rfl,rfl,rfl,Nat.le_refl _,fun _ _=>rfl⟩))
    go_wp2
    go_roundw
    case rel=>exact ⟨i + 1,by omega,by go_num,HD2.out⟩
    case measure=>simp [intOf]; omega
   ·obtain ⟨j,hj⟩ : ∃ j,i = n + j:=⟨i - n,by omega⟩
    have hc1:=HL1.out.2.2.2 j (by omega)
    rw [<- hj] at hc1
    have HMK:=Hd (fun (x : World)=>mark_any j (by omega) x)
    have hge1 : decide (i < n) = false:=by simp; omega
    have hge2 : decide (n <= i) = true:=by simp; omega
    have hsb : IntKind.i64.wrap ((i : Int) - (n : Int)) = (j : Int):=by rw [IntKind.wrap_i64]; omega
    have hsb2 : (i : Int) - (n : Int) = (j : Int):=by omega
    have hcv : IntKind.u64.wrap (8000024 + (j : Int)) = 8000024 + (j : Int):=by rw [IntKind.wrap_u64]; omega
    clear hj
    go_wp2_with fail
    go_quiet ((go_at_call 61; exact Calls.quiet_of_same ((HMK.out _).mono fun _ _ he=>⟨he.1,he.2.symm⟩)))
    rename_i nq
    have HD2:=Hd (HD.out.trans (show Below w.heap.size wr (wr.drewN nq) from ⟨rfl,rfl,rfl,Nat.le_refl _,fun _ _=>rfl⟩))
    go_wp2
    go_roundw
    case rel=>exact ⟨i + 1,by omega,by go_num,HD2.out⟩
    case measure=>simp [intOf]; omega
  ·have hin : i = n + 12:=by omega
   subst hin
   go_wp2
   go_ret
   exact ⟨rfl,HD.out⟩
set_option maxRecDepth 100000 in
set_option maxHeartbeats 4000000 in
theorem same_longs (A : Option Addr) (n c : Nat) (A' : Option Addr) (c' : Nat) (l : List Int) (w : World) (hn : n <= 1000000000) (hu : UL w A n c l) (hu' : UL w A' n c' l) :
  Calls Tryz.prog 21 #[.slice A n c,.slice A' n c'] w fun e w'=>e = .returned (.bool true) /\ Below w.heap.size w w':=by
 have HL:=Hd hu
 have HR:=Hd hu'
 have HLEN:=Hd hu.1
 clear hu hu'
 go_enter Tryz.func21,Tryz.ntmps21
 go_wp2_with fail
 go_loopw [5] (fun t wr=>∃ i : Nat,i <= n /\ t = .int .i64 i /\ Below w.heap.size w wr) (fun t _=>n - (intOf t).toNat)
 case atStart=>exact ⟨0,Nat.zero_le _,rfl,Below.refl _ _⟩
 case round =>
  obtain ⟨i,hi,rfl,hd⟩:=hrel
  have HD:=Hd hd
  have HL1:=Hd (HL.out.below hd)
  have HR1:=Hd (HR.out.below hd)
  clear hd
  by_cases hin : i < n
  ·obtain ⟨x,hx⟩ : ∃ x,l[i]? = some x:=⟨_,List.getElem?_eq_getElem (by have:=HLEN.out; omega)⟩
   obtain ⟨ad1,rfl,_,hc1⟩:=HL1.out.2.2.2 i x hx
   obtain ⟨ad2,rfl,_,hc2⟩:=HR1.out.2.2.2 i x hx
   clear hx
   go_wp2_with fail
   go_quiet (fail)
   rename_i nq
   have HD2:=Hd (HD.out.trans (show Below w.heap.size wr (wr.drewN nq) from ⟨rfl,rfl,rfl,Nat.le_refl _,fun _ _=>rfl⟩))
   go_wp2
   go_roundw
   case rel=>exact ⟨i + 1,by omega,by go_num,HD2.out⟩
   case measure=>simp [intOf]; omega
  ·have hin : i = n:=by omega
   subst hin
   go_wp2
   go_ret
   exact ⟨rfl,HD.out⟩
end
section
open Go.ChangeShapes Go.WideShapes Go.ChangeAt Go.RowKit Go.Deep
theorem int_cell {H : Type} {enc : TypeId × Value -> H} {P : Program} {w : World} {base : Nat} {spare : Nat -> Bool} {held : Bool} {n : Nat} {e : TypeId} {k : IntKind} {v : Value} {x : DataW H × List MemPlace} (he : P.underlying e = some (.int k)) (h : DataW.trod enc P w base spare held n e [v] = some x) : ∃ b,v = .int k b /\ (Lit.int k b).wf = true:=by
 obtain ⟨b,hc,_,hw⟩:=DataW.trod_int he h
 cases v <;> simp [Value.cells] at hc
 obtain ⟨rfl,rfl⟩:=hc
 exact ⟨_,rfl,hw⟩
theorem in_ints {H : Type} {enc : TypeId × Value -> H} {P : Program} {w : World} {t e : TypeId} {k : IntKind} {v : Value} {fuel : Nat} {x : DataW H × List MemPlace} (ht : P.underlying t = some (.slice e)) (he : P.underlying e = some (.int k)) (hc : P.cellsOf e = 1)
  (hd : DataW.trod enc P w 0 (fun _=>true) true fuel t [v] = some x) : ∃ (A : Option Addr) (n c : Nat) (l : List Int),v = .slice A n c /\ (l.length = n /\ n <= c /\ (A = none -> c = 0) /\ ∀ j x,l[j]? = some x -> ∃ ad,A = some ad /\ ad.block < w.heap.size /\ w.cell? (ad.add j) = some (.int k x)) /\ (∀ x,x ∈ l -> (Lit.int k x).wf = true) /\ c <= 9223372036854775807:=by
 rcases open_slice1 ht hc hd with ⟨hcs,_⟩ | ⟨a,len,cap,m,q,V,D,Pl,hcs,_,hl,hm,hmm,_,hx⟩
 ·obtain rfl : v = .slice none 0 0:=by simpa using hcs
  exact ⟨none,0,0,[],rfl,⟨rfl,Nat.le_refl _,fun _=>rfl,fun j x hj=>by simp at hj⟩,fun x hx=>by simp at hx,by decide⟩
 ·obtain rfl : v = .slice (some a) len cap:=by simpa using hcs
  have hmc : m = cap:=by rw [hmm]; simp
  have key : ∀ j : Nat,∃ b : Int,j < len -> V j = .int k b /\ (Lit.int k b).wf = true:=fun j=>by
   by_cases hj : j < len
   ·obtain ⟨h1,h2⟩:=hx j (by omega)
    obtain ⟨b,hb⟩:=int_cell he h2
    exact ⟨b,fun _=>hb⟩
   ·exact ⟨0,fun h=>absurd h hj⟩
  refine ⟨some a,len,cap,(List.range len).map fun j=>Classical.choose (key j),rfl,⟨by simp,hl,(fun h=>by cases h),fun j x hj=>?_⟩,fun x hx'=>?_,by unfold maxLen at hm; omega⟩
  ·have hjl : j < len:=by have:=(List.getElem?_eq_some_iff.1 hj).1; simpa using this
   rw [List.getElem?_map,List.getElem?_range hjl] at hj
   obtain rfl:=Option.some.inj hj
   have hcell:=(hx j (by omega)).1
   rw [(Classical.choose_spec (key j) hjl).1] at hcell
   refine ⟨a,rfl,?_,hcell⟩
   have:=World.block_lt_of_cell? w _ hcell
   rwa [add_block] at this
  ·obtain ⟨j,hj,rfl⟩:=List.mem_map.1 hx'
   exact (Classical.choose_spec (key j) (List.mem_range.1 hj)).2
theorem in_longs {H : Type} {enc : TypeId × Value -> H} {P : Program} {w : World} {r : Reach} {b0 : Nat} {t e : TypeId} {v : Value} {d : DataW H} {ps : List MemPlace} (ht : P.underlying t = some (.slice e)) (he : P.underlying e = some (.int .i64)) (hc : P.cellsOf e = 1)
  (hval : Value.okWide P w r b0 t v) (hd : DataW.Trod enc P w 0 (fun _=>true) true t v d ps) : ∃ (A : Option Addr) (n c : Nat) (l : List Int),v = .slice A n c /\ (UL w A n c l /\ L64 l /\ c <= 9223372036854775807):=by
 obtain ⟨fuel,hf⟩:=hd
 obtain ⟨A0,n0,c0,rfl⟩:=okWide_slice ht hval
 obtain ⟨A,n,c,l,hv,hu,hw,hm⟩:=in_ints ht he hc hf
 refine ⟨A,n,c,l,hv,hu,fun x hx=>?_,hm⟩
 have:=hw x hx
 simp [Lit.wf,IntKind.min,IntKind.max,IntKind.signed,IntKind.bits] at this
 omega
theorem long_size {H : Type} {enc : TypeId × Value -> H} {P : Program} {w : World} {t e : TypeId} {A : Option Addr} {n c : Nat} {d : DataW H} {ps : List MemPlace} (ht : P.underlying t = some (.slice e)) (hc : P.cellsOf e = 1)
  (hd : DataW.Trod enc P w 0 (fun _=>true) true t (.slice A n c) d ps) : n = 0 \/ ∃ el sp,d = .slice el sp /\ el.length = n:=by
 obtain ⟨fuel,hf⟩:=hd
 rcases open_slice1 ht hc hf with ⟨hcs,_⟩ | ⟨a,len,cap,m,q,V,D,Pl,hcs,_,hl,hm,hmm,hx,_⟩
 ·left
  simp [Value.cells] at hcs
  exact hcs.2.1
 ·right
  simp [Value.cells] at hcs
  obtain ⟨rfl,rfl,rfl⟩:=hcs
  have h:=congrArg Prod.fst hx
  exact ⟨_,_,h,by simp⟩
theorem long_bound {H : Type} {P : Program} {ts : List TypeId} {ds : List (DataW H)} {j n : Nat} {t e : TypeId} {d : DataW H} (h : (DataW.weightsEach P ts ds).all (· <= reachBytes) = true) (ht : ts[j]? = some t) (hd : ds[j]? = some d) (hu : P.underlying t = some (.slice e)) (hb : P.bytesOf e = 8)
  (hn : n = 0 \/ ∃ el sp,d = .slice el sp /\ el.length = n) : n <= 20000000000000:=by
 rcases hn with rfl | ⟨el,sp,rfl,rfl⟩
 ·omega
 ·have h1:=sized_slice h ht hd hu
  have h2 : reachBytes < 140737488355328:=reachBytes_lt
  rw [hb] at h1
  omega
end
end Go.Proofs.YtnpanpkahbcecaaGreatDoor

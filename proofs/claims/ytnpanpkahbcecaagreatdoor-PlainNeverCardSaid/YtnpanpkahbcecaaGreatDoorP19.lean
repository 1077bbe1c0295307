/-
Walks: big's Set, Neg, Lsh, Add, Sub, Abs. Out of genbig.py.
-/
import Derived.Test.YtnpanpkahbcecaaGreatDoorP17
import Derived.Test.YtnpanpkahbcecaaGreatDoorRows
import Derived.WalkKit
import Derived.StillTail
import Derived.OrdersHeld
import Derived.Deep.RegionHeld
import Derived.Lib.Hide
set_option linter.unusedVariables false
set_option linter.unusedSimpArgs false
namespace Go.Proofs.YtnpanpkahbcecaaGreatDoor
section
open Go.RowKit
section
variable {P : Program} {md : Region.Mode} {ops ops' : Array Oper} {Q : Exit -> Act -> World -> Prop} {S : World -> Prop}
def QT (P : Program) (ops : Array Oper) (tl : List Oper) (Q : Exit -> Act -> World -> Prop) : Exit -> Act -> World -> Prop
 | .normal,a,w=>wpList P ops Q tl a w
 | e,a,w=>Q e a w
structure Fst (ops ops' : Array Oper) (n : Nat) : Prop where
 size : ops'.size = n
 le : n <= ops.size
 at' : ∀ j,j < n -> ops'[j]? = ops[j]?
def backB (ops : Array Oper) : Bool:=(List.range ops.size).all fun j=>((ops[j]?).map fun o=>o.after.all fun e=>decide (e.on < j)).getD true
def guardB (ops : Array Oper) (n : Nat) : Bool:=(List.range n).all fun j=>((ops[j]?).map fun o=>match o.guard with | some (g,_)=>decide (g < n) | none=>true).getD true
theorem backB_spec (h : backB ops = true) {j : Nat} {o : Oper} (hj : ops[j]? = some o) : ∀ e ∈ o.after,e.on < j:=by
 unfold backB at h
 rw [List.all_eq_true] at h
 have h1:=h j (List.mem_range.2 (Array.getElem?_eq_some_iff.1 hj).1)
 rw [hj] at h1
 simp only [Option.map_some,Option.getD_some] at h1
 intro e he
 have h2:=(Array.all_eq_true_iff_forall_mem.1 h1) e he
 simpa using h2
theorem guardB_spec {n : Nat} (h : guardB ops n = true) {j : Nat} (hjn : j < n) {o : Oper} (hj : ops[j]? = some o) : ∀ g b,o.guard = some (g,b) -> g < n:=by
 unfold guardB at h
 rw [List.all_eq_true] at h
 have h1:=h j (List.mem_range.2 hjn)
 rw [hj] at h1
 simp only [Option.map_some,Option.getD_some] at h1
 intro g b hg
 rw [hg] at h1
 simpa using h1
theorem wp_QT {o : Oper} {tl : List Oper} {a : Act} {w : World} {K : Act -> World -> Prop} (h : o.wp P a w K (QT P ops tl Q)) : o.wp P a w K Q:=by
 unfold Oper.wp at *
 generalize (execOp a.eval o).run P w = r at *
 cases r with
 | ok k w' =>
   cases k <;> simp only [Oper.upon] at h ⊢ <;>
    first
     | exact h
     | exact Calls.mono h (fun e w'' he=>by cases e <;> exact he)
 | halt x w'=>cases x <;> simp only [Oper.upon] at h ⊢ <;> exact h
theorem wanted_pop {n : Nat} (F : Fst ops ops' n) {o : Oper} (hg : ∀ g b,o.guard = some (g,b) -> g < n) (t : Array Value) : Region.wanted o (yielded ops' t) = Region.wanted o (yielded ops t):=by
 unfold Region.wanted
 cases ho : o.guard with
 | none=>rfl
 | some gb =>
   obtain ⟨g,b⟩:=gb
   have hlt:=hg g b ho
   have e : yielded ops' t g = yielded ops t g:=by unfold yielded; rw [F.at' g hlt]
   simp only [e]
theorem wpOp_pop {n i : Nat} {tl : List Oper} (F : Fst ops ops' n) (hi : i < n) (hg : guardB ops n = true) {K K' : Act -> World -> Prop} {a : Act} {w : World} (hK : ∀ a w,K' a w -> K a w) (h : wpOp P ops' (QT P ops tl Q) i K' a w) : wpOp P ops Q i K a w:=by
 refine wpOp_mono hK ?_
 unfold wpOp at *
 rw [F.at' i hi] at h
 cases ho : ops[i]? with
 | none=>rw [ho] at h; exact h
 | some o =>
   rw [ho] at h
   simp only at h ⊢
   rw [wanted_pop F (guardB_spec hg hi ho)] at h
   split
   ·rename_i hw
    simp only [hw,if_true] at h
    rcases h with h | h
    ·exact .inl (wp_QT h)
    ·exact .inr h
   ·rename_i hw
    simp only [hw] at h
    exact h
structure Both (md : Region.Mode) (ops : Array Oper) (n : Nat) (l l' : Array Bool) : Prop where
 inv : HeadInv md ops n l
 size : l'.size = n
 same : ∀ j,j < n -> l.getD j false = l'.getD j false
theorem Both.at {n : Nat} {l l' : Array Bool} (b : Both md ops n l l') (k : Nat) : l.getD k false = l'.getD k false:=by
 by_cases hk : k < n
 ·exact b.same k hk
 ·have h2 : l'.getD k false = false:=by simp [Array.getElem?_eq_none (by have:=b.size; omega : l'.size <= k)]
  rw [h2]
  by_cases hk2 : k < ops.size
  ·exact getD_both (b.inv.tail k (by omega) hk2)
  ·simp [Array.getElem?_eq_none (by have:=b.inv.size; omega : l.size <= k)]
theorem Both.un {n : Nat} {l l' : Array Bool} (b : Both md ops n l l') (hn : n <= ops.size) {k : Nat} (hk : k < n) : l.getD k true = false ↔ l'.getD k true = false:=by
 have e:=b.at k
 constructor
 ·intro h
  exact getD_in (by have:=b.size; omega) (by rw [<- e]; exact getD_both h)
 ·intro h
  exact getD_in (by have:=b.inv.size; omega) (by rw [e]; exact getD_both h)
theorem Both.ready {n : Nat} {l l' : Array Bool} (b : Both md ops n l l') (F : Fst ops ops' n) {k : Nat} (hk : k < n) : k ∈ Region.ready md ops l ↔ k ∈ Region.ready md ops' l':=by
 rw [mem_ready,mem_ready,F.at' k hk,b.un F.le hk]
 constructor
 ·rintro ⟨h1,o,h2,h3⟩
  exact ⟨h1,o,h2,fun e he hb=>by rw [<- b.at]; exact h3 e he hb⟩
 ·rintro ⟨h1,o,h2,h3⟩
  exact ⟨h1,o,h2,fun e he hb=>by rw [b.at]; exact h3 e he hb⟩
theorem Both.set {n i : Nat} {l l' : Array Bool} (b : Both md ops n l l') (hi : i ∈ Region.ready md ops l) (hin : i < n) : Both md ops n (l.setIfInBounds i true) (l'.setIfInBounds i true):=by
 refine ⟨b.inv.set hi hin,by simp [b.size],fun j hj=>?_⟩
 by_cases hij : i = j
 ·subst hij
  have h1:=b.inv.size
  have h2:=b.size
  have h3 : i < ops.size:=(Array.getElem?_eq_some_iff.1 (mem_ready.1 hi).2.choose_spec.1).1
  simp [show i < l.size by omega,show i < l'.size by omega]
 ·rw [getD_set_ne false hij,getD_set_ne false hij]; exact b.same j hj
theorem some_ready {n : Nat} {l : Array Bool} (hb : backB ops = true) (hn : n <= ops.size) (hl : l.size = ops.size) : ∀ (d j : Nat),j = d -> j < n -> l.getD j true = false -> ∃ i,i < n /\ i ∈ Region.ready md ops l:=by
 intro d
 induction d using Nat.strongRecOn with
 | _ d ih =>
   intro j hd hj hu
   obtain ⟨o,ho⟩ : ∃ o,ops[j]? = some o:=⟨_,Array.getElem?_eq_getElem (show j < ops.size by omega)⟩
   by_cases hall : ∀ e ∈ o.after,Region.binds md e = true -> l.getD e.on false = true
   ·exact ⟨j,hj,mem_ready.2 ⟨hu,o,ho,hall⟩⟩
   ·obtain ⟨e,he⟩:=Classical.not_forall.1 hall
    obtain ⟨he1,he2⟩:=Classical.not_forall.1 he
    obtain ⟨_,he3⟩:=Classical.not_forall.1 he2
    have hlt:=backB_spec hb ho e he1
    have hf : l.getD e.on false = false:=by cases h : l.getD e.on false <;> simp_all
    exact ih e.on (by omega) e.on rfl (by omega) (getD_in (by omega) hf)
theorem wpAny_more : ∀ (f : Nat) (l : Array Bool) (a : Act) (w : World),wpAny P md ops Q f l a w -> wpAny P md ops Q (f + 1) l a w:=by
 intro f
 induction f with
 | zero=>intro l a w h; exact ⟨fun _=>h.2,fun i hi=>by rw [h.1] at hi; cases hi⟩
 | succ f ih=>intro l a w h; exact ⟨h.1,fun i hi=>wpOp_mono (fun a w hK=>ih _ a w hK) (h.2 i hi)⟩
theorem wpAny_mores (f : Nat) : ∀ (d : Nat) (l : Array Bool) (a : Act) (w : World),wpAny P md ops Q f l a w -> wpAny P md ops Q (f + d) l a w
 | 0,_,_,_,h=>h
 | d + 1,l,a,w,h=>wpAny_more _ l a w (wpAny_mores f d l a w h)
def headAll (n g : Nat) : Array Bool:=(List.replicate n true ++ List.replicate g false).toArray
theorem last_only {n : Nat} {tl : List Oper} {l l' : Array Bool} (b : Both md ops n l l') (F : Fst ops ops' n) (hn : ops.size = n + tl.length) (htl : ∀ j,tl[j]? = ops[n + j]?) (hb : backB ops = true) (hq : Region.seqB md ops tl.length n (headAll n tl.length) = true) (hr : Region.ready md ops' l' = []) {a : Act} {w : World} (h : wpList P ops Q tl a w) (fuel : Nat) : wpAny P md ops Q (tl.length + fuel) l a w:=by
 have hun : ∀ j,j < n -> l.getD j true ≠ false:=fun j hj hu=>by
  obtain ⟨i,hi,hir⟩:=some_ready (md:=md) hb F.le b.inv.size j j rfl hj hu
  rw [b.ready F hi,hr] at hir
  cases hir
 have hl : l = headAll n tl.length:=by
  apply Array.ext
  ·rw [b.inv.size,hn]; simp [headAll]
  ·intro i h1 h2
   have h3:=b.inv.size
   by_cases hin : i < n
   ·have h4:=hun i hin
    simp [h1] at h4
    rw [h4]
    simp [headAll,List.getElem_append,hin]
   ·have h4:=b.inv.tail i (by omega) (by omega)
    simp [h1] at h4
    rw [h4]
    simp [headAll,List.getElem_append,hin]
 rw [hl]
 exact wpAny_mores _ fuel _ _ _ (wpAny_of_seq tl n _ a w htl hq h)
theorem wpAny_split {n : Nat} {tl : List Oper} (F : Fst ops ops' n) (hn : ops.size = n + tl.length) (ht0 : 0 < tl.length) (htl : ∀ j,tl[j]? = ops[n + j]?) (hs : Region.sinkB md ops n = true) (hc : Region.chainB md ops n = true) (hb : backB ops = true) (hg : guardB ops n = true) (hq : Region.seqB md ops tl.length n (headAll n tl.length) = true) : ∀ (fuel : Nat) (l l' : Array Bool) (a : Act) (w : World),Both md ops n l l' -> wpAnyH P md ops' (QT P ops tl Q) S fuel l' a w -> wpAny P md ops Q (tl.length + fuel) l a w:=by
 intro fuel
 induction fuel with
 | zero =>
   intro l l' a w b h
   exact last_only b F hn htl hb hq h.1 h.2 0
 | succ fuel ih =>
   intro l l' a w b h
   by_cases hr : Region.ready md ops' l' = []
   ·exact last_only b F hn htl hb hq hr (h.1 hr) (fuel + 1)
   ·obtain ⟨k,hk⟩:=List.exists_mem_of_ne_nil _ hr
    have hkn : k < n:=by
     have:=(Array.getElem?_eq_some_iff.1 (mem_ready.1 hk).2.choose_spec.1).1
     rw [F.size] at this
     exact this
    have hk2:=(b.ready F hkn).2 hk
    refine ⟨fun h0=>(by rw [h0] at hk2; cases hk2),fun i hi=>?_⟩
    have hin : i < n:=by
     rcases Nat.lt_or_ge i n with h1 | h1
     ·exact h1
     ·exact absurd hi (tail_waits hs hc (by omega) b.inv (n - k) k rfl hkn (mem_ready.1 hk2).1 i h1)
    exact wpOp_pop F hin hg (fun a w hK=>ih _ _ a w (b.set hi hin) hK.2) (h.2 i ((b.ready F hin).1 hi))
def wpHL (P : Program) (ops : Array Oper) (Q : Exit -> Act -> World -> Prop) (S : World -> Prop) : List Bool -> List Oper -> Act -> World -> Prop
 | true :: ts,o :: rest,a,w=>∃ v,YieldsIf P ops S o v a /\ wpHL P ops Q S ts rest (a.put o.dst v) w
 | false :: ts,o :: rest,a,w=>Region.wanted o (yielded ops a.tmps) = true /\ o.wp P a w (fun a w=>S w /\ wpHL P ops Q S ts rest a w) Q
 | [],[],a,w=>Q .normal a w
 | _,_,_,_=>False
def chkHL (md : Region.Mode) (ops : Array Oper) : List Bool -> Nat -> Array Bool -> Bool
 | [],_,listed=>Region.ready md ops listed == []
 | true :: ts,k,listed=>(Region.free md ops listed k && (Region.ready md ops listed).contains k) && chkHL md ops ts (k + 1) (listed.setIfInBounds k true)
 | false :: ts,k,listed=>(Region.ready md ops listed == [k]) && chkHL md ops ts (k + 1) (listed.setIfInBounds k true)
theorem wpHL_sound (hQ : ∀ c d v a w,Q (.panic c) (a.put d v) w -> Q (.panic c) a w) (hsel : Region.noSelect ops = true) : ∀ (ts : List Bool) (l : List Oper) (k : Nat) (listed : Array Bool) (a : Act) (w : World),
  (∀ j,l[j]? = ops[k + j]?) -> chkHL md ops ts k listed = true -> S w -> wpHL P ops Q S ts l a w -> wpAnyH P md ops Q S ts.length listed a w:=by
 intro ts
 induction ts with
 | nil =>
   intro l k listed a w hl hc hS h
   have hr : Region.ready md ops listed = []:=by simpa [chkHL] using hc
   cases l with
   | nil=>exact ⟨hr,h⟩
   | cons o rest=>exact h.elim
 | cons t ts ih =>
   intro l k listed a w hl hc hS h
   cases l with
   | nil=>cases t <;> exact h.elim
   | cons o rest =>
     have ho : ops[k]? = some o:=by have:=hl 0; simpa using this.symm
     have hrest : ∀ j,rest[j]? = ops[k + 1 + j]?:=fun j=>by
      have:=hl (j + 1)
      rw [List.getElem?_cons_succ] at this
      rw [this]; congr 1; omega
     cases t with
     | true =>
       simp only [chkHL,Bool.and_eq_true] at hc
       obtain ⟨v,hy,h2⟩:=h
       exact wpAnyH_take ho hsel hc.1.1 hc.1.2 (fun c a w=>hQ c _ _ a w) hy hS (ih rest (k + 1) _ _ _ hrest hc.2 hS h2)
     | false =>
       simp only [chkHL,Bool.and_eq_true,beq_iff_eq] at hc
       refine wpAnyH_all hc.1 (by simp) (fun i hi=>?_)
       rw [List.mem_singleton] at hi
       subst hi
       unfold wpOp
       rw [ho]
       simp only [h.1,if_true]
       exact .inl (Oper.wp_mono (fun a w hK=>⟨hK.1,ih rest (i + 1) _ _ _ hrest hc.2 hK.1 hK.2⟩) h.2)
theorem QT_panic {tl : List Oper} (hQ : ∀ c d v a w,Q (.panic c) (a.put d v) w -> Q (.panic c) a w) : ∀ c d v a w,QT P ops tl Q (.panic c) (a.put d v) w -> QT P ops tl Q (.panic c) a w:=hQ
theorem panic_some (hQ : ∀ c t v a w,Q (.panic c) (a.put (some t) v) w -> Q (.panic c) a w) : ∀ c d v a w,Q (.panic c) (a.put d v) w -> Q (.panic c) a w
 | _,none,_,_,_,h=>h
 | c,some t,v,a,w,h=>hQ c t v a w h
theorem wp_region_text {id : Nat} {a : Act} {w : World} {l : List Oper} (S : World -> Prop) (ts : List Bool) (n : Nat) (hm : P.follows .mixedOrders = true)
  (hB : (decide (n < l.length) && decide (ts.length = n) && Region.sinkB .any l.toArray n && Region.chainB .any l.toArray n && backB l.toArray && guardB l.toArray n && Region.seqB .any l.toArray (l.drop n).length n (headAll n (l.drop n).length) && Region.noSelect (l.take n).toArray && chkHL .any (l.take n).toArray ts 0 (Array.replicate n false)) = true)
  (hQ : ∀ c t v a w,Q (.panic c) (a.put (some t) v) w -> Q (.panic c) a w) (hS : S w.drew)
  (h : wpHL P (l.take n).toArray (QT P l.toArray (l.drop n) Q) S ts (l.take n) a w.drew) : (Code.region id l.toArray true).wp P Q a w:=by
 simp only [Bool.and_eq_true,decide_eq_true_eq] at hB
 obtain ⟨⟨⟨⟨⟨⟨⟨⟨hn,ht⟩,hs⟩,hc⟩,hb⟩,hg⟩,hq⟩,hsel⟩,hk⟩:=hB
 have hdl : (l.drop n).length = l.length - n:=List.length_drop
 have F : Fst l.toArray (l.take n).toArray n:=⟨by simp; omega,by simp; omega,fun j hj=>by simp [hj]⟩
 refine wp_region_any hm ?_
 have h2:=wpHL_sound (md:=.any) (QT_panic (panic_some hQ)) hsel ts (l.take n) 0 (Array.replicate n false) a w.drew (fun j=>by simp) hk hS h
 rw [ht] at h2
 have h3:=wpAny_split F (by simp; omega) (by omega) (fun j=>by simp [List.getElem?_drop]) hs hc hb hg hq n (Array.replicate l.toArray.size false) (Array.replicate n false) a w.drew ⟨⟨by simp,fun j oj _ hl=>(by rw [getD_replicate_false] at hl; cases hl),fun t _ ht=>getD_in (by simpa using ht) (getD_replicate_false _ _)⟩,by simp,fun j _=>by rw [getD_replicate_false,getD_replicate_false]⟩ h2
 rw [show (l.drop n).length + n = l.toArray.size by simp; omega] at h3
 exact h3
theorem wp_region_hl {id : Nat} {a : Act} {w : World} {l : List Oper} (S : World -> Prop) (ts : List Bool) (hm : P.follows .mixedOrders = true)
  (hB : (decide (ts.length = l.length) && Region.noSelect l.toArray && chkHL .any l.toArray ts 0 (Array.replicate l.length false)) = true)
  (hQ : ∀ c t v a w,Q (.panic c) (a.put (some t) v) w -> Q (.panic c) a w) (hS : S w.drew)
  (h : wpHL P l.toArray Q S ts l a w.drew) : (Code.region id l.toArray true).wp P Q a w:=by
 simp only [Bool.and_eq_true,decide_eq_true_eq] at hB
 obtain ⟨⟨ht,hsel⟩,hk⟩:=hB
 have h2:=wpHL_sound (md:=.any) (panic_some hQ) hsel ts l 0 (Array.replicate l.length false) a w.drew (fun j=>by simp) hk hS h
 refine wp_region_held (S:=S) hm ?_
 have e : ts.length = l.toArray.size:=by simpa using ht
 rw [<- e]
 have e2 : (Array.replicate l.length false) = Array.replicate ts.length false:=by rw [ht]
 rw [e2] at h2
 exact h2
theorem wpHL_take {ts : List Bool} {o : Oper} {rest : List Oper} {a : Act} {w : World} (v : Value) (hw : Region.wanted o (yielded ops' a.tmps) = true) (hv : ∀ w,S w -> (execOp a.eval o).run P w = .ok (.value v) w) (h : wpHL P ops' Q S ts rest (a.put o.dst v) w) : wpHL P ops' Q S (true :: ts) (o :: rest) a w :=
 ⟨v,.inl ⟨hw,hv⟩,h⟩
theorem wpHL_call {ts : List Bool} {o : Oper} {rest : List Oper} {a : Act} {w : World} (hw : Region.wanted o (yielded ops' a.tmps) = true) (h : ∀ K : Act -> World -> Prop,(∀ a w,S w -> wpHL P ops' Q S ts rest a w -> K a w) -> o.wp P a w K Q) : wpHL P ops' Q S (false :: ts) (o :: rest) a w :=
 ⟨hw,h _ (fun a w h1 h2=>⟨h1,h2⟩)⟩
theorem wpHL_nil {a : Act} {w : World} (h : Q .normal a w) : wpHL P ops' Q S [] [] a w:=h
end
end
section
open Go.RowKit
theorem sgnI_mul (x y : Int) : sgnI (decide (x < 0) != decide (y < 0)) (x.natAbs * y.natAbs) = x * y:=by
 have e : ((x.natAbs * y.natAbs : Nat) : Int) = (x.natAbs : Int) * (y.natAbs : Int):=Int.natCast_mul _ _
 unfold sgnI
 rw [e]
 by_cases h1 : x < 0 <;> by_cases h2 : y < 0
 ·have a1 : (x.natAbs : Int) = -x:=by omega
  have a2 : (y.natAbs : Int) = -y:=by omega
  simp only [h1,h2,a1,a2,decide_true,bne_self_eq_false]
  rw [Int.neg_mul_neg]; rfl
 ·have a1 : (x.natAbs : Int) = -x:=by omega
  have a2 : (y.natAbs : Int) = y:=by omega
  simp only [h1,h2,a1,a2,decide_true,decide_false]
  rw [Int.neg_mul,Int.neg_neg]; rfl
 ·have a1 : (x.natAbs : Int) = x:=by omega
  have a2 : (y.natAbs : Int) = -y:=by omega
  simp only [h1,h2,a1,a2,decide_true,decide_false]
  rw [Int.mul_neg,Int.neg_neg]; rfl
 ·have a1 : (x.natAbs : Int) = x:=by omega
  have a2 : (y.natAbs : Int) = y:=by omega
  simp only [h1,h2,a1,a2,decide_false]; rfl
set_option maxRecDepth 100000 in
set_option maxHeartbeats 8000000 in
theorem bmul_any (g gx gy : Nat) (z0 x y : Int) (w : World) (hg : BI w g z0) (hx : BI w gx x) (hy : BI w gy y) (hb : x.natAbs * y.natAbs < BL) :
  Calls Tryz.prog 51 #[.pointer (some ⟨g,0,none⟩),.pointer (some ⟨gx,0,none⟩),.pointer (some ⟨gy,0,none⟩)] w (RPost g (x * y) w):=by
 obtain ⟨A,n,c,⟨h1,h2⟩,_,h5,h6⟩:=id hx
 obtain ⟨A',n',c',⟨h1',h2'⟩,_,h5',h6'⟩:=id hy
 have HE:=Hd (sgnI_mul x y)
 have HL:=Hd (fun v (h : Below w.heap.size w v)=>btimes_any A n c x.natAbs A' n' c' y.natAbs v (h5.below h) (h5'.below h) hb)
 have HP:=Hd (fun v (A' : Option Addr) (n' c' : Nat) (h : Below w.heap.size w v) (hu : NU v A' n' c' (x.natAbs * y.natAbs))=>(bput_any g z0 (decide (x < 0) != decide (y < 0)) A' n' c' _ v (hg.below h) hu).mono fun e w' hr=>RPost.after h hr)
 have HO:=Hd (fun v (h : Below w.heap.size w v)=>Ld.of ⟨h1,h2⟩ h6 h)
 have HO':=Hd (fun v (h : Below w.heap.size w v)=>Ld.of ⟨h1',h2'⟩ h6' h)
 obtain ⟨s,hs⟩ : ∃ s,s = decide (x < 0):=⟨_,rfl⟩
 obtain ⟨s',hs'⟩ : ∃ s,s = decide (y < 0):=⟨_,rfl⟩
 rw [<- hs] at h1 HP HO HE
 rw [<- hs'] at h1' HP HO' HE
 obtain ⟨t,ht⟩ : ∃ t,t = (s != s'):=⟨_,rfl⟩
 rw [<- ht] at HP HE
 have htt : (!s == s') = t:=ht.symm
 clear hg hx hy hb h5 h5' hs hs' ht
 go_enter Tryz.func51,Tryz.ntmps51
 go_wp2_with fail
 refine wp_region_text (fun v=>Below w.heap.size w v /\ (v.cell? ⟨gx,0,none⟩ = some (.bool s) /\ v.cell? ⟨gx,1,none⟩ = some (.slice A n c)) /\ (v.cell? ⟨gy,0,none⟩ = some (.bool s') /\ v.cell? ⟨gy,1,none⟩ = some (.slice A' n' c'))) [true,true,true,true,true,true,true,true,true,true,true,true,true,true,true,true,true,true,false] 19 (by kernel_rfl) (by kernel_rfl) (fun _ _ _ _ _ h=>h) ?_ ?_
 ·exact ⟨below_drew (Below.refl _ _),(HO.out _ (below_drew (Below.refl _ _))).2,(HO'.out _ (below_drew (Below.refl _ _))).2⟩
 simp only [List.take_succ_cons,List.take_zero]
 iterate 18
  refine wpHL_take ?_ (by rfl) ?_ ?_
  rotate_left
  ·rintro v ⟨_,⟨_,_⟩,_,_⟩; go_simp; try with_reducible rfl
  simp only [Act.put,List.setIfInBounds_toArray,List.set_cons_zero,List.set_cons_succ]
 refine wpHL_call (by rfl) (fun K hK=>?_)
 have HK:=Hd hK
 clear hK
 go_simp
 refine (HL.out _ ?_).mono ?_
 ·exact below_drew (Below.refl _ _)
 rintro e w1 ⟨A1,n1,c1,rfl,hu,hb1⟩
 have HB1:=Hd ((below_drew (Below.refl w.heap.size w)).trans hb1)
 have HU1:=Hd hu
 clear hu hb1
 refine HK.out _ _ ⟨HB1.out,(HO.out _ HB1.out).2,(HO'.out _ HB1.out).2⟩ (wpHL_nil ?_)
 clear HK
 simp only [QT,List.drop_succ_cons,List.drop_zero,Act.put,List.setIfInBounds_toArray,List.set_cons_zero,List.set_cons_succ]
 go_wp2_with fail
 refine (HP.out _ _ _ _ HB1.out HU1.out).mono ?_
 rintro e w2 hr
 have HR:=Hd hr
 obtain ⟨rfl,_,_⟩:=hr
 go_wp2
 go_ret
 have h:=HR.out
 rw [HE.out] at h
 exact h
end
section
open Go.RowKit
theorem bclone_nu (A : Option Addr) (n c X : Nat) (w : World) (h : NU w A n c X) : Calls Tryz.prog 236 #[.slice A n c] w (NatP X w):=by
 have hl:=h.len
 refine (bclone_any A n c _ w (by omega) h.1).mono ?_
 rintro e w' ⟨A',c',rfl,h1,_,h3⟩
 exact ⟨A',n,c',rfl,⟨h1,h.2⟩,h3⟩
set_option maxRecDepth 100000 in
theorem bset_any (g gx : Nat) (z0 z : Int) (w : World) (hg : BI w g z0) (hx : BI w gx z) : Calls Tryz.prog 245 #[.pointer (some ⟨g,0,none⟩),.pointer (some ⟨gx,0,none⟩)] w (RPost g (z) w):=by
 obtain ⟨A,n,c,⟨h1,h2⟩,_,h5,h6⟩:=id hx
 have HE : Hid (sgnI (decide (z < 0)) z.natAbs = z):=Hd (by exact sgnI_self z)
 have HL:=Hd (fun v (h : Below w.heap.size w v)=>bclone_nu A n c z.natAbs v (h5.below h))
 have HP:=Hd (fun v (A' : Option Addr) (n' c' : Nat) (h : Below w.heap.size w v) (hu : NU v A' n' c' z.natAbs)=>(bput_any g z0 (decide (z < 0)) A' n' c' _ v (hg.below h) hu).mono fun e w' hr=>RPost.after h hr)
 have HO:=Hd (fun v (h : Below w.heap.size w v)=>Ld.of ⟨h1,h2⟩ h6 h)
 obtain ⟨s,hs⟩ : ∃ s,s = decide (z < 0):=⟨_,rfl⟩
 rw [<- hs] at h1 HP HO HE
 clear hg hx h5 hs
 go_enter Tryz.func245,Tryz.ntmps245
 go_wp2_with fail
 refine wp_region_text (fun v=>Below w.heap.size w v /\ (v.cell? ⟨gx,0,none⟩ = some (.bool s) /\ v.cell? ⟨gx,1,none⟩ = some (.slice A n c))) [true,true,true,true,true,true,true,true,true,false] 10 (by kernel_rfl) (by kernel_rfl) (fun _ _ _ _ _ h=>h) ?_ ?_
 ·exact ⟨below_drew (Below.refl w.heap.size w),(HO.out _ (below_drew (Below.refl w.heap.size w))).2⟩
 simp only [List.take_succ_cons,List.take_zero]
 iterate 9
  refine wpHL_take ?_ (by rfl) ?_ ?_
  rotate_left
  ·rintro v ⟨_,_,_⟩; go_simp; try with_reducible rfl
  simp only [Act.put,List.setIfInBounds_toArray,List.set_cons_zero,List.set_cons_succ]
 refine wpHL_call (by rfl) (fun K hK=>?_)
 have HK:=Hd hK
 clear hK
 go_simp
 refine (HL.out _ ?_).mono ?_
 ·exact below_drew (Below.refl w.heap.size w)
 rintro e w1 ⟨A1,n1,c1,rfl,hu,hb1⟩
 have HU1:=Hd hu
 have HB1:=Hd ((below_drew (Below.refl w.heap.size w)).trans (hb1.mono (below_drew (Below.refl w.heap.size w)).size))
 clear hb1 hu
 refine HK.out _ _ ⟨HB1.out,(HO.out _ HB1.out).2⟩ (wpHL_nil ?_)
 clear HK
 simp only [QT,List.drop_succ_cons,List.drop_zero,Act.put,List.setIfInBounds_toArray,List.set_cons_zero,List.set_cons_succ]
 go_wp2_with fail
 refine (HP.out _ _ _ _ HB1.out HU1.out).mono ?_
 rintro e w2 hr
 have HR:=Hd hr
 obtain ⟨rfl,_,_⟩:=hr
 go_wp2
 go_ret
 have h:=HR.out
 rw [HE.out] at h
 exact h
set_option maxRecDepth 100000 in
theorem bneg_any (g gx : Nat) (z0 z : Int) (w : World) (hg : BI w g z0) (hx : BI w gx z) : Calls Tryz.prog 220 #[.pointer (some ⟨g,0,none⟩),.pointer (some ⟨gx,0,none⟩)] w (RPost g (-z) w):=by
 obtain ⟨A,n,c,⟨h1,h2⟩,_,h5,h6⟩:=id hx
 have HE : Hid (sgnI (!decide (z < 0)) z.natAbs = -z):=Hd (by have h:=sgnI_self z; unfold sgnI at *; by_cases h0 : z < 0 <;> simp [h0] at h ⊢ <;> omega)
 have HL:=Hd (fun v (h : Below w.heap.size w v)=>bclone_nu A n c z.natAbs v (h5.below h))
 have HP:=Hd (fun v (A' : Option Addr) (n' c' : Nat) (h : Below w.heap.size w v) (hu : NU v A' n' c' z.natAbs)=>(bput_any g z0 (!decide (z < 0)) A' n' c' _ v (hg.below h) hu).mono fun e w' hr=>RPost.after h hr)
 have HO:=Hd (fun v (h : Below w.heap.size w v)=>Ld.of ⟨h1,h2⟩ h6 h)
 obtain ⟨s,hs⟩ : ∃ s,s = decide (z < 0):=⟨_,rfl⟩
 rw [<- hs] at h1 HP HO HE
 clear hg hx h5 hs
 go_enter Tryz.func220,Tryz.ntmps220
 go_wp2_with fail
 refine wp_region_text (fun v=>Below w.heap.size w v /\ (v.cell? ⟨gx,0,none⟩ = some (.bool s) /\ v.cell? ⟨gx,1,none⟩ = some (.slice A n c))) [true,true,true,true,true,true,true,true,true,true,false] 11 (by kernel_rfl) (by kernel_rfl) (fun _ _ _ _ _ h=>h) ?_ ?_
 ·exact ⟨below_drew (Below.refl w.heap.size w),(HO.out _ (below_drew (Below.refl w.heap.size w))).2⟩
 simp only [List.take_succ_cons,List.take_zero]
 iterate 10
  refine wpHL_take ?_ (by rfl) ?_ ?_
  rotate_left
  ·rintro v ⟨_,_,_⟩; go_simp; try with_reducible rfl
  simp only [Act.put,List.setIfInBounds_toArray,List.set_cons_zero,List.set_cons_succ]
 refine wpHL_call (by rfl) (fun K hK=>?_)
 have HK:=Hd hK
 clear hK
 go_simp
 refine (HL.out _ ?_).mono ?_
 ·exact below_drew (Below.refl w.heap.size w)
 rintro e w1 ⟨A1,n1,c1,rfl,hu,hb1⟩
 have HU1:=Hd hu
 have HB1:=Hd ((below_drew (Below.refl w.heap.size w)).trans (hb1.mono (below_drew (Below.refl w.heap.size w)).size))
 clear hb1 hu
 refine HK.out _ _ ⟨HB1.out,(HO.out _ HB1.out).2⟩ (wpHL_nil ?_)
 clear HK
 simp only [QT,List.drop_succ_cons,List.drop_zero,Act.put,List.setIfInBounds_toArray,List.set_cons_zero,List.set_cons_succ]
 go_wp2_with fail
 refine (HP.out _ _ _ _ HB1.out HU1.out).mono ?_
 rintro e w2 hr
 have HR:=Hd hr
 obtain ⟨rfl,_,_⟩:=hr
 go_wp2
 go_ret
 have h:=HR.out
 rw [HE.out] at h
 exact h
set_option maxRecDepth 100000 in
theorem babs_any (g gx : Nat) (z0 z : Int) (w : World) (hg : BI w g z0) (hx : BI w gx z) : Calls Tryz.prog 225 #[.pointer (some ⟨g,0,none⟩),.pointer (some ⟨gx,0,none⟩)] w (RPost g (z.natAbs : Int) w):=by
 obtain ⟨A,n,c,⟨h1,h2⟩,_,h5,h6⟩:=id hx
 have HL:=Hd (fun v (h : Below w.heap.size w v)=>bclone_nu A n c z.natAbs v (h5.below h))
 have HP:=Hd (fun v (A' : Option Addr) (n' c' : Nat) (h : Below w.heap.size w v) (hu : NU v A' n' c' z.natAbs)=>(bput_any g z0 false A' n' c' _ v (hg.below h) hu).mono fun e w' hr=>RPost.after h hr)
 clear hg hx h5 h1
 go_enter Tryz.func225,Tryz.ntmps225
 go_wp2_with fail
 refine (HL.out _ (Below.refl _ _)).mono ?_
 rintro e w1 ⟨A1,n1,c1,rfl,hu,hb1⟩
 have HU1:=Hd hu
 have HB1:=Hd hb1
 clear hu hb1
 go_wp2_with fail
 refine (HP.out _ _ _ _ HB1.out HU1.out).mono ?_
 rintro e w2 hr
 have HR:=Hd hr
 obtain ⟨rfl,_,_⟩:=hr
 go_wp2
 go_ret
 exact HR.out
theorem Below.drewN' {B : Nat} {w w' : World} (h : Below B w w') (n : Nat) : Below B w (w'.drewN n):=h.trans ⟨rfl,rfl,rfl,Nat.le_refl _,fun _ _=>rfl⟩
theorem sgnI_add {s : Bool} {x y : Int} (h1 : s = decide (x < 0)) (h2 : s = decide (y < 0)) : sgnI s (x.natAbs + y.natAbs) = x + y:=by
 subst h1
 unfold sgnI
 by_cases h : x < 0
 ·have : y < 0:=by simpa [h] using h2
  simp [h]; omega
 ·have : ¬ y < 0:=by simpa [h] using h2
  simp [h]; omega
theorem sgnI_sub {s s' : Bool} {x y : Int} (h1 : s = decide (x < 0)) (h2 : s' = decide (y < 0)) (hs : s ≠ s') (h : y.natAbs <= x.natAbs) : sgnI s (x.natAbs - y.natAbs) = x + y:=by
 subst h1
 subst h2
 unfold sgnI
 by_cases h0 : x < 0
 ·have : ¬ y < 0:=fun h1=>hs (by simp [h0,h1])
  simp [h0]; omega
 ·have : y < 0:=by
   rcases Int.lt_or_le y 0 with h1 | h1
   ·exact h1
   ·exact absurd (by simp [h0]; omega) hs
  simp [h0]; omega
set_option maxRecDepth 100000 in
set_option maxHeartbeats 2000000 in
theorem badd_same (g gx gy : Nat) (z0 x y : Int) (w : World) (hg : BI w g z0) (hx : BI w gx x) (hy : BI w gy y) (hb : x.natAbs + y.natAbs < BL) (hs : decide (x < 0) = decide (y < 0)) : Calls Tryz.prog 50 #[.pointer (some ⟨g,0,none⟩),.pointer (some ⟨gx,0,none⟩),.pointer (some ⟨gy,0,none⟩)] w (RPost g (x + y) w):=by
 obtain ⟨A,n,c,⟨h1,h2⟩,_,h5,h6⟩:=id hx
 obtain ⟨A',n',c',⟨h1',h2'⟩,_,h5',h6'⟩:=id hy
 have HE:=Hd (sgnI_add (x:=x) (y:=y) rfl hs)
 have HL:=Hd (fun v (h : Below w.heap.size w v)=>bplus_any A n c x.natAbs A' n' c' y.natAbs v (h5.below h) (h5'.below h) hb)
 have HP:=Hd (fun v (A' : Option Addr) (n' c' : Nat) (h : Below w.heap.size w v) (hu : NU v A' n' c' (x.natAbs + y.natAbs))=>(bput_any g z0 (decide (x < 0)) A' n' c' _ v (hg.below h) hu).mono fun e w' hr=>RPost.after h hr)
 have HO:=Hd (fun v (h : Below w.heap.size w v)=>Ld.of ⟨h1,h2⟩ h6 h)
 have HO':=Hd (fun v (h : Below w.heap.size w v)=>Ld.of ⟨h1',h2'⟩ h6' h)
 rw [<- hs] at h1' HO'
 obtain ⟨s,hs2⟩ : ∃ s,s = decide (x < 0):=⟨_,rfl⟩
 rw [<- hs2] at h1 h1' HP HO HO' HE
 clear hg hx hy hb h5 h5' hs hs2
 go_enter Tryz.func50,Tryz.ntmps50
 go_wp2_with fail
 go_quiet (fail)
 rename_i nq
 have HB0:=Hd (Below.drewN' (Below.refl w.heap.size w) nq)
 obtain ⟨_,k1,k2⟩:=HO.out _ HB0.out
 obtain ⟨_,k3,k4⟩:=HO'.out _ HB0.out
 generalize w.drewN nq = w0 at *
 go_wp2_with fail
 refine wp_region_text (fun v=>Below w.heap.size w v /\ (v.cell? ⟨gx,0,none⟩ = some (.bool s) /\ v.cell? ⟨gx,1,none⟩ = some (.slice A n c)) /\ (v.cell? ⟨gy,0,none⟩ = some (.bool s) /\ v.cell? ⟨gy,1,none⟩ = some (.slice A' n' c'))) [true,true,true,true,true,true,true,true,true,true,true,true,true,false] 14 (by kernel_rfl) (by kernel_rfl) (fun _ _ _ _ _ h=>h) ?_ ?_
 ·exact ⟨below_drew HB0.out,(HO.out _ (below_drew HB0.out)).2,(HO'.out _ (below_drew HB0.out)).2⟩
 simp only [List.take_succ_cons,List.take_zero]
 iterate 13
  refine wpHL_take ?_ (by rfl) ?_ ?_
  rotate_left
  ·rintro v ⟨_,⟨_,_⟩,_,_⟩; go_simp; try with_reducible rfl
  simp only [Act.put,List.setIfInBounds_toArray,List.set_cons_zero,List.set_cons_succ]
 refine wpHL_call (by rfl) (fun K hK=>?_)
 have HK:=Hd hK
 clear hK
 go_simp
 refine (HL.out _ ?_).mono ?_
 ·exact below_drew HB0.out
 rintro e w1 ⟨A1,n1,c1,rfl,hu,hb1⟩
 have HU1:=Hd hu
 have HB1:=Hd ((below_drew HB0.out).trans (hb1.mono (below_drew HB0.out).size))
 clear hb1 hu
 refine HK.out _ _ ⟨HB1.out,(HO.out _ HB1.out).2,(HO'.out _ HB1.out).2⟩ (wpHL_nil ?_)
 clear HK
 simp only [QT,List.drop_succ_cons,List.drop_zero,Act.put,List.setIfInBounds_toArray,List.set_cons_zero,List.set_cons_succ]
 go_wp2_with fail
 refine (HP.out _ _ _ _ HB1.out HU1.out).mono ?_
 rintro e w2 hr
 have HR:=Hd hr
 obtain ⟨rfl,_,_⟩:=hr
 go_wp2
 go_ret
 have h:=HR.out
 rw [HE.out] at h
 exact h
set_option maxRecDepth 100000 in
set_option maxHeartbeats 4000000 in
theorem badd_diff (g gx gy : Nat) (z0 x y : Int) (w : World) (hg : BI w g z0) (hx : BI w gx x) (hy : BI w gy y) (hb : x.natAbs + y.natAbs < BL) (hs : decide (x < 0) ≠ decide (y < 0)) : Calls Tryz.prog 50 #[.pointer (some ⟨g,0,none⟩),.pointer (some ⟨gx,0,none⟩),.pointer (some ⟨gy,0,none⟩)] w (RPost g (x + y) w):=by
 obtain ⟨A,n,c,⟨h1,h2⟩,_,h5,h6⟩:=id hx
 obtain ⟨A',n',c',⟨h1',h2'⟩,_,h5',h6'⟩:=id hy
 have HC:=Hd (fun v (h : Below w.heap.size w v)=>bcompare_any A n c x.natAbs A' n' c' y.natAbs v (h5.below h) (h5'.below h))
 obtain ⟨C,hC⟩ : ∃ C : Int,C = if x.natAbs < y.natAbs then -1 else if y.natAbs < x.natAbs then 1 else 0:=⟨_,rfl⟩
 rw [<- hC] at HC
 have HO:=Hd (fun v (h : Below w.heap.size w v)=>Ld.of ⟨h1,h2⟩ h6 h)
 have HO':=Hd (fun v (h : Below w.heap.size w v)=>Ld.of ⟨h1',h2'⟩ h6' h)
 by_cases hlt : y.natAbs <= x.natAbs
 ·have hC0 : decide (0 <= C) = true:=decide_eq_true (by rw [hC,if_neg (by omega)]; split <;> omega)
  have HE:=Hd (sgnI_sub (x:=x) (y:=y) rfl rfl hs hlt)
  have HL:=Hd (fun v (h : Below w.heap.size w v)=>bless_any A n c x.natAbs A' n' c' y.natAbs v (h5.below h) (h5'.below h) hlt)
  have HP:=Hd (fun v (A' : Option Addr) (n' c' : Nat) (h : Below w.heap.size w v) (hu : NU v A' n' c' (x.natAbs - y.natAbs))=>(bput_any g z0 (decide (x < 0)) A' n' c' _ v (hg.below h) hu).mono fun e w' hr=>RPost.after h hr)
  obtain ⟨s,hs1⟩ : ∃ s,s = decide (x < 0):=⟨_,rfl⟩
  obtain ⟨s',hs2⟩ : ∃ s,s = decide (y < 0):=⟨_,rfl⟩
  rw [<- hs1] at h1 HP HO HE hs
  rw [<- hs2] at h1' HO' hs
  have hne : (s == s') = false:=by simpa using hs
  clear hg hx hy hb h5 h5' hs hs1 hs2 hC hlt
  go_enter Tryz.func50,Tryz.ntmps50
  go_wp2_with fail
  go_quiet (fail)
  rename_i nq
  have HB0:=Hd (Below.drewN' (Below.refl w.heap.size w) nq)
  obtain ⟨_,k1,k2⟩:=HO.out _ HB0.out
  obtain ⟨_,k3,k4⟩:=HO'.out _ HB0.out
  generalize w.drewN nq = w0 at *
  go_wp2_with fail
  refine wp_region_text (fun v=>Below w.heap.size w v /\ (v.cell? ⟨gx,0,none⟩ = some (.bool s) /\ v.cell? ⟨gx,1,none⟩ = some (.slice A n c)) /\ (v.cell? ⟨gy,0,none⟩ = some (.bool s') /\ v.cell? ⟨gy,1,none⟩ = some (.slice A' n' c'))) [true,true,true,true,true,true,true,true,false] 9 (by kernel_rfl) (by kernel_rfl) (fun _ _ _ _ _ h=>h) ?_ ?_
  ·exact ⟨below_drew HB0.out,(HO.out _ (below_drew HB0.out)).2,(HO'.out _ (below_drew HB0.out)).2⟩
  simp only [List.take_succ_cons,List.take_zero]
  iterate 8
   refine wpHL_take ?_ (by rfl) ?_ ?_
   rotate_left
   ·rintro v ⟨_,⟨_,_⟩,_,_⟩; go_simp; try with_reducible rfl
   simp only [Act.put,List.setIfInBounds_toArray,List.set_cons_zero,List.set_cons_succ]
  refine wpHL_call (by rfl) (fun K hK=>?_)
  have HK:=Hd hK
  clear hK
  go_simp
  refine (HC.out _ ?_).mono ?_
  ·exact below_drew HB0.out
  rintro e w1 ⟨rfl,hb1⟩
  have HB1:=Hd ((below_drew HB0.out).trans (hb1.mono (below_drew HB0.out).size))
  clear hb1
  refine HK.out _ _ ⟨HB1.out,(HO.out _ HB1.out).2,(HO'.out _ HB1.out).2⟩ (wpHL_nil ?_)
  clear HK
  simp only [QT,List.drop_succ_cons,List.drop_zero,Act.put,List.setIfInBounds_toArray,List.set_cons_zero,List.set_cons_succ]
  clear k1 k2 k3 k4
  have HB9:=HB1
  clear HB1 HB0
  obtain ⟨_,k1,k2⟩:=HO.out _ HB9.out
  obtain ⟨_,k3,k4⟩:=HO'.out _ HB9.out
  go_wp2_with fail
  refine wp_region_text (fun v=>Below w.heap.size w v /\ (v.cell? ⟨gx,0,none⟩ = some (.bool s) /\ v.cell? ⟨gx,1,none⟩ = some (.slice A n c)) /\ (v.cell? ⟨gy,0,none⟩ = some (.bool s') /\ v.cell? ⟨gy,1,none⟩ = some (.slice A' n' c'))) [true,true,true,true,true,true,true,true,true,true,true,true,true,false] 14 (by kernel_rfl) (by kernel_rfl) (fun _ _ _ _ _ h=>h) ?_ ?_
  ·exact ⟨below_drew HB9.out,(HO.out _ (below_drew HB9.out)).2,(HO'.out _ (below_drew HB9.out)).2⟩
  simp only [List.take_succ_cons,List.take_zero]
  iterate 13
   refine wpHL_take ?_ (by rfl) ?_ ?_
   rotate_left
   ·rintro v ⟨_,⟨_,_⟩,_,_⟩; go_simp; try with_reducible rfl
   simp only [Act.put,List.setIfInBounds_toArray,List.set_cons_zero,List.set_cons_succ]
  refine wpHL_call (by rfl) (fun K hK=>?_)
  have HK:=Hd hK
  clear hK
  go_simp
  refine (HL.out _ ?_).mono ?_
  ·exact below_drew HB9.out
  rintro e w1 ⟨A1,n1,c1,rfl,hu,hb1⟩
  have HU1:=Hd hu
  have HB1:=Hd ((below_drew HB9.out).trans (hb1.mono (below_drew HB9.out).size))
  clear hb1 hu
  refine HK.out _ _ ⟨HB1.out,(HO.out _ HB1.out).2,(HO'.out _ HB1.out).2⟩ (wpHL_nil ?_)
  clear HK
  simp only [QT,List.drop_succ_cons,List.drop_zero,Act.put,List.setIfInBounds_toArray,List.set_cons_zero,List.set_cons_succ]
  go_wp2_with fail
  refine (HP.out _ _ _ _ HB1.out HU1.out).mono ?_
  rintro e w2 hr
  have HR:=Hd hr
  obtain ⟨rfl,_,_⟩:=hr
  go_wp2
  go_ret
  have h:=HR.out
  rw [HE.out] at h
  exact h
 ·have hC0 : decide (0 <= C) = false:=decide_eq_false (by rw [hC,if_pos (by omega)]; decide)
  have HE:=Hd (sgnI_sub (x:=y) (y:=x) rfl rfl (Ne.symm hs) (by omega))
  rw [Int.add_comm] at HE
  have HL:=Hd (fun v (h : Below w.heap.size w v)=>bless_any A' n' c' y.natAbs A n c x.natAbs v (h5'.below h) (h5.below h) (by omega))
  have HP:=Hd (fun v (A' : Option Addr) (n' c' : Nat) (h : Below w.heap.size w v) (hu : NU v A' n' c' (y.natAbs - x.natAbs))=>(bput_any g z0 (decide (y < 0)) A' n' c' _ v (hg.below h) hu).mono fun e w' hr=>RPost.after h hr)
  obtain ⟨s,hs1⟩ : ∃ s,s = decide (x < 0):=⟨_,rfl⟩
  obtain ⟨s',hs2⟩ : ∃ s,s = decide (y < 0):=⟨_,rfl⟩
  rw [<- hs1] at h1 HO hs
  rw [<- hs2] at h1' HO' HP HE hs
  have hne : (s == s') = false:=by simpa using hs
  clear hg hx hy hb h5 h5' hs hs1 hs2 hC hlt
  go_enter Tryz.func50,Tryz.ntmps50
  go_wp2_with fail
  go_quiet (fail)
  rename_i nq
  have HB0:=Hd (Below.drewN' (Below.refl w.heap.size w) nq)
  obtain ⟨_,k1,k2⟩:=HO.out _ HB0.out
  obtain ⟨_,k3,k4⟩:=HO'.out _ HB0.out
  generalize w.drewN nq = w0 at *
  go_wp2_with fail
  refine wp_region_text (fun v=>Below w.heap.size w v /\ (v.cell? ⟨gx,0,none⟩ = some (.bool s) /\ v.cell? ⟨gx,1,none⟩ = some (.slice A n c)) /\ (v.cell? ⟨gy,0,none⟩ = some (.bool s') /\ v.cell? ⟨gy,1,none⟩ = some (.slice A' n' c'))) [true,true,true,true,true,true,true,true,false] 9 (by kernel_rfl) (by kernel_rfl) (fun _ _ _ _ _ h=>h) ?_ ?_
  ·exact ⟨below_drew HB0.out,(HO.out _ (below_drew HB0.out)).2,(HO'.out _ (below_drew HB0.out)).2⟩
  simp only [List.take_succ_cons,List.take_zero]
  iterate 8
   refine wpHL_take ?_ (by rfl) ?_ ?_
   rotate_left
   ·rintro v ⟨_,⟨_,_⟩,_,_⟩; go_simp; try with_reducible rfl
   simp only [Act.put,List.setIfInBounds_toArray,List.set_cons_zero,List.set_cons_succ]
  refine wpHL_call (by rfl) (fun K hK=>?_)
  have HK:=Hd hK
  clear hK
  go_simp
  refine (HC.out _ ?_).mono ?_
  ·exact below_drew HB0.out
  rintro e w1 ⟨rfl,hb1⟩
  have HB1:=Hd ((below_drew HB0.out).trans (hb1.mono (below_drew HB0.out).size))
  clear hb1
  refine HK.out _ _ ⟨HB1.out,(HO.out _ HB1.out).2,(HO'.out _ HB1.out).2⟩ (wpHL_nil ?_)
  clear HK
  simp only [QT,List.drop_succ_cons,List.drop_zero,Act.put,List.setIfInBounds_toArray,List.set_cons_zero,List.set_cons_succ]
  clear k1 k2 k3 k4
  have HB9:=HB1
  clear HB1 HB0
  obtain ⟨_,k1,k2⟩:=HO.out _ HB9.out
  obtain ⟨_,k3,k4⟩:=HO'.out _ HB9.out
  go_wp2_with fail
  refine wp_region_text (fun v=>Below w.heap.size w v /\ (v.cell? ⟨gx,0,none⟩ = some (.bool s) /\ v.cell? ⟨gx,1,none⟩ = some (.slice A n c)) /\ (v.cell? ⟨gy,0,none⟩ = some (.bool s') /\ v.cell? ⟨gy,1,none⟩ = some (.slice A' n' c'))) [true,true,true,true,true,true,true,true,true,true,true,true,true,false] 14 (by kernel_rfl) (by kernel_rfl) (fun _ _ _ _ _ h=>h) ?_ ?_
  ·exact ⟨below_drew HB9.out,(HO.out _ (below_drew HB9.out)).2,(HO'.out _ (below_drew HB9.out)).2⟩
  simp only [List.take_succ_cons,List.take_zero]
  iterate 13
   refine wpHL_take ?_ (by rfl) ?_ ?_
   rotate_left
   ·rintro v ⟨_,⟨_,_⟩,_,_⟩; go_simp; try with_reducible rfl
   simp only [Act.put,List.setIfInBounds_toArray,List.set_cons_zero,List.set_cons_succ]
  refine wpHL_call (by rfl) (fun K hK=>?_)
  have HK:=Hd hK
  clear hK
  go_simp
  refine (HL.out _ ?_).mono ?_
  ·exact below_drew HB9.out
  rintro e w1 ⟨A1,n1,c1,rfl,hu,hb1⟩
  have HU1:=Hd hu
  have HB1:=Hd ((below_drew HB9.out).trans (hb1.mono (below_drew HB9.out).size))
  clear hb1 hu
  refine HK.out _ _ ⟨HB1.out,(HO.out _ HB1.out).2,(HO'.out _ HB1.out).2⟩ (wpHL_nil ?_)
  clear HK
  simp only [QT,List.drop_succ_cons,List.drop_zero,Act.put,List.setIfInBounds_toArray,List.set_cons_zero,List.set_cons_succ]
  go_wp2_with fail
  refine (HP.out _ _ _ _ HB1.out HU1.out).mono ?_
  rintro e w2 hr
  have HR:=Hd hr
  obtain ⟨rfl,_,_⟩:=hr
  go_wp2
  go_ret
  have h:=HR.out
  rw [HE.out] at h
  exact h
theorem badd_any (g gx gy : Nat) (z0 x y : Int) (w : World) (hg : BI w g z0) (hx : BI w gx x) (hy : BI w gy y) (hb : x.natAbs + y.natAbs < BL) : Calls Tryz.prog 50 #[.pointer (some ⟨g,0,none⟩),.pointer (some ⟨gx,0,none⟩),.pointer (some ⟨gy,0,none⟩)] w (RPost g (x + y) w):=by
 by_cases h : decide (x < 0) = decide (y < 0)
 ·exact badd_same g gx gy z0 x y w hg hx hy hb h
 ·exact badd_diff g gx gy z0 x y w hg hx hy hb h
end
end Go.Proofs.YtnpanpkahbcecaaGreatDoor

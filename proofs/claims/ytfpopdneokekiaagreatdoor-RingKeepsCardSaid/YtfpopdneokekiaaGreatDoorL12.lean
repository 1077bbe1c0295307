/-
Rows that lie apart: the row that grows, and the row of slices.
-/
import Derived.Test.YtfpopdneokekiaaGreatDoorL7
import Derived.RangeFuncBox
import Derived.ArgAppend
import Derived.Deep.Onto
import Derived.Lib.Hide
set_option linter.unusedVariables false
set_option linter.unusedSimpArgs false
namespace Go.Proofs.YtfpopdneokekiaaGreatDoor
section
open Go.RowKit
theorem grownBy_cell (W : World) (b off : Nat) (v : Value) : W.grownBy (W.setCell ⟨b,off,none⟩ v) (some b) :=
 ⟨rfl,rfl,rfl,(KeepsWalks.setCell W _ v).size,fun k _ hk=>Below.heap_setCell _ _ _ k (fun e=>hk (by rw [e]))⟩
set_option maxRecDepth 100000 in
set_option maxHeartbeats 2000000 in
theorem copy_longs (A : Option Addr) (n c : Nat) (l : List Int) (w : World) (hn : n <= 100000000) (hu : UL w A n c l) :
  Calls Tryz.prog 24 #[.slice A n c] w fun e w'=>∃ v,e = .returned v /\ w'.ownsRow w.heap.size 2 1 v n (l.map (Value.int .i64)) /\ Below w.heap.size w w':=by
 obtain ⟨i0,hi0,hz0,hz1,hz2⟩:=info_parts i64_info
 have HNIL : Hid (w.ownsRow w.heap.size 2 1 (.slice none 0 0) 0 []):=Hd ⟨by simp,.inl ⟨rfl,rfl⟩⟩
 rcases A with _ | ad
 ·obtain rfl : c = 0:=hu.2.2.1 rfl
  obtain rfl : n = 0:=by have:=hu.2.1; omega
  obtain rfl : l = []:=List.eq_nil_of_length_eq_zero hu.1
  clear hu
  go_enter Tryz.func24,Tryz.ntmps24
  go_wp2
  go_ret
  exact ⟨_,rfl,HNIL.out,Below.refl _ _⟩
 ·have HL : Hid ((l.map (Value.int .i64)).length = n * 1):=Hd (by rw [List.length_map,Nat.mul_one]; exact hu.1)
  have HC : Hid (∀ j u,(l.map (Value.int .i64))[j]? = some u -> w.cell? (ad.add j) = some u):=Hd (fun j u hj=>by
   rw [List.getElem?_map] at hj
   obtain ⟨x,hx,rfl⟩:=Option.map_eq_some_iff.1 hj
   obtain ⟨ad2,e2,_,hc2⟩:=hu.2.2.2 j x hx
   obtain rfl:=Option.some.inj e2
   exact hc2)
  have H1 : Hid (∀ u ∈ l.map (Value.int .i64),u.oneCell' = true):=Hd (fun u hu=>by obtain ⟨x,_,rfl⟩:=List.mem_map.1 hu; rfl)
  generalize l.map (Value.int .i64) = lv at *
  clear hu
  go_enter Tryz.func24,Tryz.ntmps24
  go_wp2_with (at_builtin; refine wpList_append_own _ rfl (.tmp 4) (.tmp 5) _ rfl w.heap.size 2 i0 _ 1 8 Tryz.underlying22 hi0 hz0 hz1 hz2 rfl (Nat.le_refl 1) (.slice none 0 0) 0 [] rfl HNIL.out ad n c lv rfl HL.out HC.out H1.out (by simp only [maxLen]; omega) (by omega) (Nat.le_refl _) ?_; intro v' w3 hown hg _)
  rw [Nat.zero_add,List.nil_append] at hown
  have HO:=Hd hown
  have HB:=Hd ((Below.refl w.heap.size w).grown hg (Nat.le_refl _) (fun k hk=>by cases hk))
  clear hown hg
  go_wp2
  go_ret
  exact ⟨_,rfl,HO.out,HB.out⟩
end
section
open Go.RowKit
structure Rw where
 A : Option Nat
 n : Nat
 c : Nat
def Rw.val (r : Rw) : Value:=.slice (r.A.map fun g=>⟨g,0,none⟩) r.n r.c
theorem Rw.block (r : Rw) : r.val.ownBlock = r.A:=by
 obtain ⟨A,n,c⟩:=r
 cases A <;> rfl
def Rw.own (e : TypeId) (K : IntKind) (r : Rw) (w : World) (l : List Int) : Prop:=w.ownsRow 0 e 1 r.val r.n (l.map (Value.int K))
theorem Rw.of_own {w : World} {base : Nat} {e : TypeId} {v : Value} {n : Nat} {xs : List Value} (h : w.ownsRow base e 1 v n xs) : ∃ r : Rw,v = r.val /\ r.n = n:=by
 rcases h.2 with ⟨rfl,rfl⟩ | ⟨g,cap,cur,rfl,_⟩
 ·exact ⟨⟨none,0,0⟩,rfl,rfl⟩
 ·exact ⟨⟨some g,n,cap⟩,rfl,rfl⟩
theorem Rw.own.len {e : TypeId} {K : IntKind} {r : Rw} {w : World} {l : List Int} (h : r.own e K w l) : l.length = r.n:=by have:=h.1; simpa using this
theorem Rw.own.nil {e : TypeId} {K : IntKind} {r : Rw} {w : World} {l : List Int} (h : r.own e K w l) (hA : r.A = none) : r.n = 0:=by
 rcases h.2 with ⟨_,h0⟩ | ⟨g,cap,cur,hv,_⟩
 ·exact h0
 ·obtain ⟨A,n,c⟩:=r
  simp only at hA
  subst hA
  simp [Rw.val] at hv
theorem Rw.own.some {e : TypeId} {K : IntKind} {r : Rw} {w : World} {l : List Int} (h : r.own e K w l) (hn : 0 < r.n) : ∃ g,r.A = some g /\ r.val = .slice (some ⟨g,0,none⟩) r.n r.c:=by
 cases hA : r.A with
 | none=>have:=h.nil hA; omega
 | some g=>exact ⟨g,rfl,by unfold Rw.val; rw [hA]; rfl⟩
theorem Rw.own.lt {e : TypeId} {K : IntKind} {r : Rw} {w : World} {l : List Int} (h : r.own e K w l) {g : Nat} (hg : r.A = Option.some g) : g < w.heap.size:=(World.ownsRow.lt h g (by rw [Rw.block,hg])).2
theorem Rw.own.cell {e : TypeId} {K : IntKind} {r : Rw} {w : World} {l : List Int} (h : r.own e K w l) {g : Nat} (hg : r.A = Option.some g) (j : Nat) (u : Int) (hj : l[j]? = Option.some u) : w.cell? ⟨g,j,none⟩ = Option.some (.int K u):=by
 obtain ⟨A,n,c⟩:=r
 simp only at hg
 subst hg
 have hl:=(List.getElem?_eq_some_iff.1 hj).1
 have hn:=h.len
 have h' : w.ownsRow 0 e 1 (.slice (Option.some ⟨g,0,none⟩) n c) n (l.map (Value.int K)):=h
 rw [World.ownsRow.cellAt h' j (by simp only at hn; omega),List.getElem?_map,hj]; rfl
theorem Rw.own.free {e : TypeId} {K : IntKind} {r : Rw} {w : World} {l : List Int} (h : r.own e K w l) {g : Nat} (hg : r.A = Option.some g) (j : Nat) : w.frozen? ⟨g,j,none⟩ = false:=by
 obtain ⟨A,n,c⟩:=r
 simp only at hg
 subst hg
 exact World.ownsRow.frozenAt (w:=w) (base:=0) (e:=e) (size:=1) (g:=g) (n:=n) (cap:=c) h j
theorem Rw.own.set {e : TypeId} {K : IntKind} {r : Rw} {w : World} {l : List Int} (h : r.own e K w l) {g : Nat} (hg : r.A = Option.some g) (j : Nat) (u : Int) : r.own e K (w.setCell ⟨g,j,none⟩ (.int K u)) (l.set j u):=by
 obtain ⟨A,n,c⟩:=r
 simp only at hg
 subst hg
 have h' : w.ownsRow 0 e 1 (.slice (Option.some ⟨g,0,none⟩) n c) n (l.map (Value.int K)):=h
 have:=(World.ownsRow.stored h' j (.int K u)).1
 rw [<- List.map_set] at this
 exact this
theorem Rw.own.kept {e : TypeId} {K : IntKind} {r : Rw} {w w' : World} {l : List Int} (h : r.own e K w l) {row : Option Nat} (hg : w.grownBy w' row) (hne : r.A = none \/ r.A ≠ row) : r.own e K w' l :=
 World.ownsRow.kept h hg (by rw [Rw.block]; exact hne)
theorem own_shorter {w w' : World} {b0 e0 : Nat} {v0 : Value} {n0 : Nat} {xs0 : List Value} {base e g n cap m : Nat} {xs news : List Value} (h0 : w.ownsRow b0 e0 1 v0 n0 xs0) (hb : v0.ownBlock = some g)
  (h : w.ownsRow base e 1 (.slice (some ⟨g,0,none⟩) n cap) n xs) (h' : w'.ownsRow base e 1 (.slice (some ⟨g,0,none⟩) (n + m) cap) (n + m) (xs ++ news)) (hn : n0 <= n) : w'.ownsRow b0 e0 1 v0 n0 xs0:=by
 refine ⟨h0.1,?_⟩
 rcases h0.2 with ⟨rfl,_⟩ | ⟨g0,cap0,cur0,rfl,hb0,hg0,hc0,hm0,hs0,ht0⟩
 ·simp [Value.ownBlock] at hb
 ·simp [Value.ownBlock] at hb
  subst hb
  rcases h.2 with ⟨h1,_⟩ | ⟨g1,cap1,cur1,h1,hb1,hg1,hc1,hm1,hs1,ht1⟩
  ·simp at h1
  ·simp only [Value.slice.injEq,Option.some.injEq,Addr.mk.injEq,and_true,true_and] at h1
   obtain ⟨rfl,rfl⟩:=h1
   rcases h'.2 with ⟨h2,_⟩ | ⟨g2,cap2,cur2,h2,hb2,hg2,hc2,hm2,hs2,ht2⟩
   ·simp at h2
   ·simp only [Value.slice.injEq,Option.some.injEq,Addr.mk.injEq,and_true,true_and] at h2
    obtain ⟨rfl,rfl⟩:=h2
    rw [hg1] at hg0
    injection hg0 with hg0
    injection hg0 with e1 e2
    subst e1
    subst e2
    have hcc : cap0 = cap:=by omega
    subst hcc
    refine .inr ⟨g0,cap0,cur2,rfl,hb0,hg2,hc0,hm0,by omega,?_⟩
    rw [Nat.mul_one] at ht0 ht1 ht2 ⊢
    have e3 : cur2.toList.take n0 = (cur2.toList.take (n + m)).take n0:=by rw [List.take_take,Nat.min_eq_left (by omega)]
    have hxl : xs.length = n:=by have:=h.1; omega
    rw [e3,ht2,List.take_append_of_le_length (by omega),<- ht1,List.take_take,Nat.min_eq_left hn]
    exact ht0
theorem append_keep {ops : Array Oper} {rest : List Oper} {o : Oper} {a : Act} {Q : Exit -> Act -> World -> Prop} (w : World) (hgd : o.guard = none) (s x : Operand) (t : TypeId)
  (ho : o.op = .call { callee:=.builtin .append,args:=#[s,x],argTypes:=#[t,t] })
  (e : TypeId) (i : TypeInfo) (z : Value) (bytes : Nat) (ht : Tryz.prog.underlying t = some (.slice e)) (hi : Tryz.prog.info? e = some i) (hz : i.zero = some z)
  (hsize : i.size = 1) (hby : i.bytes = bytes) (hzs : z.cells.size = 1)
  (v : Value) (n : Nat) (xs : List Value) (hs : a.eval s = v) (hown : w.ownsRow 0 e 1 v n xs)
  (ad : Addr) (m c : Nat) (news : List Value) (hx : a.eval x = .slice (some ad) m c) (hl : news.length = m * 1)
  (hnews : ∀ j u,news[j]? = some u -> w.cell? (ad.add j) = some u) (h1 : ∀ u ∈ news,u.oneCell' = true)
  (h63 : n + m <= maxLen) (hbytes : (n + m) * bytes <= 140737488355328)
  (h : ∀ v' w',w'.ownsRow 0 e 1 v' (n + m) (xs ++ news) -> w.grownBy w' v.ownBlock -> (v'.ownBlock = v.ownBlock \/ ∀ k,v'.ownBlock = some k -> w.heap.size <= k) ->
   (∀ b0 e0 v0 n0 xs0,w.ownsRow b0 e0 1 v0 n0 xs0 -> (v0.ownBlock = v.ownBlock -> n0 <= n) -> w'.ownsRow b0 e0 1 v0 n0 xs0) -> wpList Tryz.prog ops Q rest (a.put o.dst v') w') : wpList Tryz.prog ops Q (o :: rest) a w:=by
 rcases hown.2 with ⟨hv,hn⟩ | ⟨g,cap,cur,hv,rest'⟩
 ·subst hv
  refine wpList_append_own_at w hgd s x t ho 0 e i z 1 bytes ht hi hz hsize hby hzs (by decide) _ n xs hs hown ad m c news hx hl hnews h1 h63 hbytes (Nat.zero_le _) fun v' w' h1 h2 _ h4=>h v' w' h1 h2 ?_ (fun b0 e0 v0 n0 xs0 h5 _=>h5.kept h2 ?_)
  ·rcases h4 with h4 | h4
   ·exact .inl h4
   ·exact .inr (fun k hk=>by rw [h4] at hk; cases hk; exact Nat.le_refl _)
  ·cases hb : v0.ownBlock with
   | none=>exact .inl rfl
   | some k=>exact .inr (by simp [Value.ownBlock])
 ·subst hv
  by_cases hroom : n + m <= cap
  ·refine wpList_append_fits w hgd s x t ho 0 e i 1 ht hi hsize g n cap xs hs hown ad m c news hx hl hnews h1 hroom fun w' h1 h2=>h _ w' h1 h2 (.inl rfl) (fun b0 e0 v0 n0 xs0 h5 h6=>?_)
   by_cases hb : v0.ownBlock = some g
   ·exact own_shorter h5 hb hown h1 (h6 hb)
   ·exact h5.kept h2 (.inr hb)
  ·refine wpList_append_grows w hgd s x t ho e i z 1 bytes ht hi hz hsize hby hzs (by decide) (some ⟨g,0,none⟩) n cap xs hs (fun h=>by cases h) hown.1 (fun b hb j u hj=>by cases hb; exact hown.cells (g:=g) rfl j u hj) ad m c news hx hl hnews h1 (by omega) h63 hbytes fun v' w' h1 h2=>h v' w' (h1.mono (Nat.zero_le _)) ⟨h2.os,h2.tape,h2.output,h2.size,fun k hk _=>h2.block k hk (by simp)⟩ (.inr (fun k hk=>(h1.lt k hk).1)) (fun b0 e0 v0 n0 xs0 h5 _=>h5.kept h2 (by
    cases hb : v0.ownBlock with
    | none=>exact .inl rfl
    | some k=>exact .inr (by simp)))
structure KeptR (R : List Rw) (w w' : World) : Prop where
 os : w'.os = w.os
 tape : w'.tape = w.tape
 output : w'.output = w.output
 size : w.heap.size <= w'.heap.size
 block : ∀ b,b < w.heap.size -> (∀ r ∈ R,r.A ≠ some b) -> w'.heap[b]? = w.heap[b]?
theorem KeptR.refl (R : List Rw) (w : World) : KeptR R w w:=⟨rfl,rfl,rfl,Nat.le_refl _,fun _ _ _=>rfl⟩
theorem KeptR.grown {R : List Rw} {w w1 w2 : World} {row : Option Nat} (h : KeptR R w w1) (hg : w1.grownBy w2 row) (hr : ∀ b,row = some b -> (∃ r ∈ R,r.A = some b) \/ w.heap.size <= b) : KeptR R w w2 :=
 ⟨hg.os.trans h.os,hg.tape.trans h.tape,hg.output.trans h.output,Nat.le_trans h.size hg.size,fun b hb hR=>(hg.block b (Nat.lt_of_lt_of_le hb h.size) (fun e=>by
  rcases hr b e.symm with ⟨r,hr1,hr2⟩ | h1
  ·exact hR r hr1 hr2
  ·omega)).trans (h.block b hb hR)⟩
theorem KeptR.drewN {R : List Rw} {w w1 : World} (h : KeptR R w w1) (m : Nat) : KeptR R w (w1.drewN m):=⟨h.os,h.tape,h.output,h.size,h.block⟩
theorem KeptR.alloc {R : List Rw} {w w1 : World} (h : KeptR R w w1) (o : Obj) : KeptR R w (w1.alloc o):=h.grown (World.grownBy_alloc w1 o none) (fun b hb=>by cases hb)
theorem KeptR.cell {R : List Rw} {w w1 : World} (h : KeptR R w w1) {p : Addr} (hp : p.block < w.heap.size) (hR : ∀ r ∈ R,r.A ≠ some p.block) : w1.cell? p = w.cell? p:=World.cell?_of_block (h.block _ hp hR)
theorem KeptR.below {R : List Rw} {w w1 : World} (h : KeptR R w w1) {B : Nat} (hB : B <= w.heap.size) (hR : ∀ r ∈ R,∀ b,r.A = some b -> B <= b) : Below B w w1 :=
 ⟨h.os,h.tape,h.output,h.size,fun k hk=>h.block k (by omega) (fun r hr e=>by have:=hR r hr k e; omega)⟩
def Apart (R : List Rw) : Prop:=∀ (i j : Nat) (a b : Rw),i ≠ j -> R[i]? = some a -> R[j]? = some b -> a.A = none \/ a.A ≠ b.A
def mk (k i : Nat) : Int:=1000003 * ((k : Int) + 7) + (i : Int)
def MK (k n : Nat) : List Int:=(List.range n).map fun i=>mk k i
theorem MK_len (k n : Nat) : (MK k n).length = n:=by unfold MK; simp
theorem MK_get {k n i : Nat} (h : i < n) : (MK k n)[i]? = some (mk k i):=by unfold MK; rw [List.getElem?_map,List.getElem?_range h]; rfl
theorem MK_succ (k n : Nat) : MK k (n + 1) = MK k n ++ [mk k n]:=by unfold MK; rw [List.range_succ,List.map_append]; rfl
def F1 (e : TypeId) (K : IntKind) (R : List Rw) (w0 w : World) (k i : Nat) : Prop :=
 KeptR R w0 w /\ ∀ (j : Nat) (r : Rw),R[j]? = some r -> ∃ xs,r.own e K w xs /\ (j < k -> xs = MK j r.n) /\ (j = k -> xs.take i = MK j i)
theorem F1.start {e : TypeId} {K : IntKind} {R : List Rw} {w : World} (h : ∀ (j : Nat) (r : Rw),R[j]? = some r -> ∃ xs,r.own e K w xs) : F1 e K R w w 0 0 :=
 ⟨KeptR.refl _ _,fun j r hj=>by
  obtain ⟨xs,hx⟩:=h j r hj
  exact ⟨xs,hx,fun h=>by omega,fun _=>rfl⟩⟩
theorem F1.store {e : TypeId} {K : IntKind} {R : List Rw} {w0 w : World} {k i g : Nat} {r : Rw} (h : F1 e K R w0 w k i) (hA : Apart R) (hr : R[k]? = some r) (hi : i < r.n) (hg : r.A = some g) : F1 e K R w0 (w.setCell ⟨g,i,none⟩ (.int K (mk k i))) k (i + 1):=by
 obtain ⟨xs,h1,h2,h3⟩:=h.2 k r hr
 have hgr : w.grownBy (w.setCell ⟨g,i,none⟩ (.int K (mk k i))) (some g):=grownBy_cell _ _ _ _
 refine ⟨h.1.grown hgr (fun b hb=>.inl ⟨r,List.mem_of_getElem? hr,by rw [hg,hb]⟩),fun j r' hj=>?_⟩
 by_cases hjk : j = k
 ·subst hjk
  rw [hr] at hj
  injection hj with hj
  subst hj
  refine ⟨_,h1.set hg i (mk j i),fun h=>by omega,fun _=>?_⟩
  have hl:=h1.len
  rw [MK_succ,<- h3 rfl,List.take_add_one,List.take_set_of_le (Nat.le_refl _),List.getElem?_set_self (by omega)]
  rfl
 ·obtain ⟨ys,k1,k2,k3⟩:=h.2 j r' hj
  exact ⟨ys,k1.kept hgr (by rw [<- hg]; exact hA j k r' r hjk hj hr),k2,fun e=>absurd e hjk⟩
theorem F1.row {e : TypeId} {K : IntKind} {R : List Rw} {w0 w : World} {k : Nat} {r : Rw} (h : F1 e K R w0 w k r.n) (hr : R[k]? = some r) : F1 e K R w0 w (k + 1) 0:=by
 refine ⟨h.1,fun j r' hj=>?_⟩
 obtain ⟨ys,k1,k2,k3⟩:=h.2 j r' hj
 refine ⟨ys,k1,fun hl=>?_,fun _=>rfl⟩
 by_cases hjk : j = k
 ·have h3:=k3 hjk
  subst hjk
  rw [hr] at hj
  injection hj with hj
  subst hj
  rw [List.take_of_length_le (by rw [k1.len]; exact Nat.le_refl _)] at h3
  exact h3
 ·exact k2 (by omega)
def F2 (e es : TypeId) (K : IntKind) (R : List Rw) (w0 : World) (G : Nat) (F : Nat -> Nat -> List Int) (w : World) (GS : List Value) (k : Nat) : Prop :=
 KeptR R w0 w /\ (∀ (j : Nat) (r : Rw),R[j]? = some r -> r.own e K w (MK j r.n)) /\ w.ownsRow 0 es 1 (.slice (some ⟨G,0,none⟩) R.length R.length) R.length GS /\ w0.heap.size <= G /\
 (∀ (j : Nat) (r : Rw),j < k -> R[j]? = some r -> ∃ g : Rw,GS[j]? = some g.val /\ g.own e K w (F j r.n) /\ g.n = r.n + 64 /\ g.A ≠ some G /\ ∀ (j' : Nat) (r' : Rw),j' ≠ j -> R[j']? = some r' -> g.A = none \/ g.A ≠ r'.A)
theorem F2.drewN {e es : TypeId} {K : IntKind} {R : List Rw} {w0 : World} {G : Nat} {F : Nat -> Nat -> List Int} {w : World} {GS : List Value} {k : Nat} (h : F2 e es K R w0 G F w GS k) (m : Nat) : F2 e es K R w0 G F (w.drewN m) GS k:=⟨h.1.drewN m,h.2⟩
theorem F2.low {e es : TypeId} {K : IntKind} {R : List Rw} {w0 : World} {G : Nat} {F F' : Nat -> Nat -> List Int} {w : World} {GS : List Value} {k : Nat} (h : F2 e es K R w0 G F w GS k) : F2 e es K R w0 G F' w GS 0 :=
 ⟨h.1,h.2.1,h.2.2.1,h.2.2.2.1,fun j r hj=>by omega⟩
theorem F2.news {e es : TypeId} {K : IntKind} {R : List Rw} {w0 : World} {G : Nat} {F : Nat -> Nat -> List Int} {w w' : World} {GS : List Value} {k : Nat} {row : Option Nat} (h : F2 e es K R w0 G F w GS k) (hg : w.grownBy w' row) (hrow : ∀ b,row = some b -> w0.heap.size <= b /\ b ≠ G /\ (∀ (j : Nat) (r : Rw),R[j]? = some r -> r.A ≠ some b) /\ ∀ (j : Nat) (g : Rw),j < k -> GS[j]? = some g.val -> g.A ≠ some b) : F2 e es K R w0 G F w' GS k:=by
 refine ⟨h.1.grown hg (fun b hb=>.inr (hrow b hb).1),fun j r hj=>(h.2.1 j r hj).kept hg ?_,h.2.2.1.kept hg ?_,h.2.2.2.1,fun j r hj hr=>?_⟩
 ·cases hb : row with
  | none=>cases hA : r.A with
    | none=>exact .inl rfl
    | some q=>exact .inr (by simp)
  | some b=>exact .inr ((hrow b hb).2.2.1 j r hj)
 ·right
  intro e2
  exact (hrow G (by rw [<- e2]; rfl)).2.1 rfl
 ·obtain ⟨g,g1,g2,g3,g4,g5⟩:=h.2.2.2.2 j r hj hr
  refine ⟨g,g1,g2.kept hg ?_,g3,g4,g5⟩
  cases hb : row with
  | none=>cases hA : g.A with
    | none=>exact .inl rfl
    | some q=>exact .inr (by simp)
  | some b=>exact .inr ((hrow b hb).2.2.2 j g hj g1)
end
section
open Go.RowKit
theorem Rw.val_inj {a b : Rw} (h : a.val = b.val) : a = b:=by
 obtain ⟨A,n,c⟩:=a
 obtain ⟨A',n',c'⟩:=b
 unfold Rw.val at h
 injection h with h1 h2 h3
 cases A <;> cases A' <;> simp at h1 h2 h3 <;> simp [h1,h2,h3]
def Cur (e : TypeId) (K : IntKind) (R : List Rw) (w0 : World) (G : Nat) (w : World) (GS : List Value) (k : Nat) (v : Rw) (l : List Int) : Prop :=
 v.own e K w l /\ v.A ≠ some G /\ (∀ (j' : Nat) (r' : Rw),j' ≠ k -> R[j']? = some r' -> v.A = none \/ v.A ≠ r'.A) /\ (∀ (j : Nat) (g : Rw),j < k -> GS[j]? = some g.val -> g.A = none \/ g.A ≠ v.A) /\
 ((∃ r,R[k]? = some r /\ v.A = r.A) \/ ∀ b,v.A = some b -> w0.heap.size <= b)
variable {e es : TypeId} {K : IntKind} {R : List Rw} {w0 : World} {G : Nat} {F : Nat -> Nat -> List Int} {w w' : World} {GS : List Value} {k : Nat}
theorem Cur.start {r : Rw} (h : F2 e es K R w0 G F w GS k) (hA : Apart R) (hR : ∀ r ∈ R,∀ b,r.A = some b -> b < w0.heap.size) (hr : R[k]? = some r) : Cur e K R w0 G w GS k r (MK k r.n):=by
 refine ⟨h.2.1 k r hr,fun e1=>?_,fun j' r' hj hr'=>hA k j' r r' (Ne.symm hj) hr hr',fun j g hj hg=>?_,.inl ⟨r,hr,rfl⟩⟩
 ·have:=hR r (List.mem_of_getElem? hr) G e1
  have:=h.2.2.2.1
  omega
 ·have hjl : j < R.length:=by have:=(List.getElem?_eq_some_iff.1 hr).1; omega
  obtain ⟨rj,hrj⟩ : ∃ rj,R[j]? = some rj:=⟨_,List.getElem?_eq_getElem hjl⟩
  obtain ⟨g',g1,_,_,_,g5⟩:=h.2.2.2.2 j rj hj hrj
  rw [hg] at g1
  have:=Rw.val_inj (Option.some.inj g1)
  subst this
  exact g5 k r (by omega) hr
theorem Cur.kept {v : Rw} {l : List Int} {row : Option Nat} (c : Cur e K R w0 G w GS k v l) (hg : w.grownBy w' row) (hrow : ∀ b,row = some b -> v.A ≠ some b) : Cur e K R w0 G w' GS k v l :=
 ⟨c.1.kept hg (by
  cases hb : row with
  | none=>cases hA : v.A with
    | none=>exact .inl rfl
    | some q=>exact .inr (by simp)
  | some b=>exact .inr (hrow b hb)),c.2⟩
theorem Cur.alloc {v : Rw} {l : List Int} (c : Cur e K R w0 G w GS k v l) (o : Obj) : Cur e K R w0 G (w.alloc o) GS k v l:=c.kept (World.grownBy_alloc w o none) (fun b hb=>by cases hb)
theorem F2.alloc (h : F2 e es K R w0 G F w GS k) (o : Obj) : F2 e es K R w0 G F (w.alloc o) GS k:=h.news (World.grownBy_alloc w o none) (fun b hb=>by cases hb)
theorem F2.gsLt (h : F2 e es K R w0 G F w GS k) : G < w.heap.size:=(h.2.2.1.lt G rfl).2
theorem F2.append {v r : Rw} {l news : List Int} {v' : Value} {N : Nat} (h : F2 e es K R w0 G F w GS k) (c : Cur e K R w0 G w GS k v l) (hr : R[k]? = some r) (hn : r.n <= v.n)
  (ho : w'.ownsRow 0 e 1 v' N (l.map (Value.int K) ++ news.map (Value.int K))) (hg : w.grownBy w' v.val.ownBlock) (hl : v'.ownBlock = v.val.ownBlock \/ ∀ k,v'.ownBlock = some k -> w.heap.size <= k)
  (hk : ∀ b0 e0 v0 n0 xs0,w.ownsRow b0 e0 1 v0 n0 xs0 -> (v0.ownBlock = v.val.ownBlock -> n0 <= v.n) -> w'.ownsRow b0 e0 1 v0 n0 xs0) :
  ∃ v2 : Rw,v' = v2.val /\ v2.n = N /\ F2 e es K R w0 G F w' GS k /\ Cur e K R w0 G w' GS k v2 (l ++ news):=by
 obtain ⟨v2,hv2,hvn⟩:=Rw.of_own ho
 subst hv2
 subst hvn
 rw [Rw.block,Rw.block] at hl
 have hG:=h.gsLt
 have hkr : ∀ (j : Nat) (r' : Rw),R[j]? = some r' -> r'.own e K w' (MK j r'.n):=fun j r' hj=>hk _ _ _ _ _ (h.2.1 j r' hj) (fun e1=>by
  rw [Rw.block,Rw.block] at e1
  by_cases hjk : j = k
  ·subst hjk
   rw [hr] at hj
   injection hj with hj
   subst hj
   exact hn
  ·rcases c.2.2.1 j r' hjk hj with h1 | h1
   ·rw [(h.2.1 j r' hj).nil (e1.trans h1)]
    exact Nat.zero_le _
   ·exact absurd e1.symm h1)
 refine ⟨v2,rfl,rfl,⟨h.1.grown hg (fun b hb=>?_),hkr,?_,h.2.2.2.1,fun j r' hj hr'=>?_⟩,?_,fun e1=>?_,fun j' r' hj hr'=>?_,fun j g hj hgj=>?_,?_⟩
 ·rw [Rw.block] at hb
  rcases c.2.2.2.2 with ⟨r1,h1,h2⟩ | h1
  ·exact .inl ⟨r1,List.mem_of_getElem? h1,by rw [<- h2,hb]⟩
  ·exact .inr (h1 b hb)
 ·exact hk _ _ _ _ _ h.2.2.1 (fun e1=>by
   rw [Rw.block] at e1
   exact absurd e1.symm c.2.1)
 ·obtain ⟨g,g1,g2,g3,g4,g5⟩:=h.2.2.2.2 j r' hj hr'
  refine ⟨g,g1,hk _ _ _ _ _ g2 (fun e1=>?_),g3,g4,g5⟩
  rw [Rw.block,Rw.block] at e1
  rcases c.2.2.2.1 j g hj g1 with h1 | h1
  ·rw [g2.nil h1]
   exact Nat.zero_le _
  ·exact absurd e1 h1
 ·unfold Rw.own
  rw [List.map_append]
  exact ho
 ·rcases hl with h1 | h1
  ·exact c.2.1 (h1.symm.trans e1)
  ·have:=h1 G e1
   omega
 ·rcases hl with h1 | h1
  ·rw [h1]; exact c.2.2.1 j' r' hj hr'
  ·cases hA : v2.A with
   | none=>exact .inl rfl
   | some b =>
     right
     intro e1
     have h2:=h1 b hA
     have h3:=(h.2.1 j' r' hr').lt e1.symm
     omega
 ·rcases hl with h1 | h1
  ·rw [h1]; exact c.2.2.2.1 j g hj hgj
  ·cases hA : g.A with
   | none=>exact .inl rfl
   | some b =>
     right
     intro e1
     have h2:=h1 b e1.symm
     have hjl : j < R.length:=by have:=(List.getElem?_eq_some_iff.1 hr).1; omega
     obtain ⟨rj,hrj⟩ : ∃ rj,R[j]? = some rj:=⟨_,List.getElem?_eq_getElem hjl⟩
     obtain ⟨g',g1,g2,_⟩:=h.2.2.2.2 j rj hj hrj
     rw [hgj] at g1
     have:=Rw.val_inj (Option.some.inj g1)
     subst this
     have:=g2.lt hA
     omega
 ·rcases hl with h1 | h1
  ·rw [h1]; exact c.2.2.2.2
  ·refine .inr (fun b hb=>?_)
   have:=h1 b hb
   have:=h.1.size
   omega
theorem F2.put {v r : Rw} (h : F2 e es K R w0 G F w GS k) (c : Cur e K R w0 G w GS k v (F k r.n)) (hR : ∀ r ∈ R,∀ b,r.A = some b -> b < w0.heap.size) (hr : R[k]? = some r) (hn : v.n = r.n + 64) :
  F2 e es K R w0 G F (w.setCell ⟨G,k,none⟩ v.val) (GS.set k v.val) (k + 1):=by
 have hst:=World.ownsRow.stored (g:=G) (cap:=R.length) h.2.2.1 k v.val
 have hoff : ∀ (r' : Rw),r' ∈ R -> r'.A ≠ some G:=fun r' hr' e1=>by
  have:=hR r' hr' G e1
  have:=h.2.2.2.1
  omega
 have hkl:=(List.getElem?_eq_some_iff.1 hr).1
 have hgl : GS.length = R.length:=by have:=h.2.2.1.1; omega
 refine ⟨h.1.grown hst.2 (fun b hb=>.inr (by cases hb; exact h.2.2.2.1)),fun j r' hj=>(h.2.1 j r' hj).kept hst.2 (.inr (hoff r' (List.mem_of_getElem? hj))),hst.1,h.2.2.2.1,fun j r' hj hr'=>?_⟩
 by_cases hjk : j = k
 ·subst hjk
  rw [hr] at hr'
  injection hr' with hr'
  subst hr'
  exact ⟨v,by rw [List.getElem?_set_self (by omega)],c.1.kept hst.2 (.inr c.2.1),hn,c.2.1,c.2.2.1⟩
 ·obtain ⟨g,g1,g2,g3,g4,g5⟩:=h.2.2.2.2 j r' (by omega) hr'
  exact ⟨g,by rw [List.getElem?_set_ne (by omega)]; exact g1,g2.kept hst.2 (.inr g4),g3,g4,g5⟩
theorem F2.slot (h : F2 e es K R w0 G F w GS k) (j : Nat) (hj : j < R.length) : ∃ u,GS[j]? = some u /\ w.cell? ⟨G,j,none⟩ = some u /\ w.frozen? ⟨G,j,none⟩ = false:=by
 have hgl : GS.length = R.length:=by have:=h.2.2.1.1; omega
 obtain ⟨u,hu⟩ : ∃ u,GS[j]? = some u:=⟨_,List.getElem?_eq_getElem (by omega)⟩
 exact ⟨u,hu,(World.ownsRow.cellAt h.2.2.1 j (by omega)).trans hu,World.ownsRow.frozenAt h.2.2.1 j⟩
theorem F2.begin (h1 : F1 e K R w0 w R.length 0) (ho : w'.ownsRow 0 es 1 (.slice (some ⟨G,0,none⟩) R.length R.length) R.length GS) (hg : w.grownBy w' none) (hG : w0.heap.size <= G) : F2 e es K R w0 G F w' GS 0 :=
 ⟨h1.1.grown hg (fun b hb=>by cases hb),fun j r hj=>by
  obtain ⟨xs,k1,k2,_⟩:=h1.2 j r hj
  rw [k2 (List.getElem?_eq_some_iff.1 hj).1] at k1
  exact k1.kept hg (by
   cases hA : r.A with
   | none=>exact .inl rfl
   | some q=>exact .inr (by simp)),ho,hG,fun j r hj=>by omega⟩
theorem F1.drew {i : Nat} (h : F1 e K R w0 w k i) : F1 e K R w0 w.drew k i:=⟨⟨h.1.os,h.1.tape,h.1.output,h.1.size,h.1.block⟩,h.2⟩
def Fresh (R : List Rw) (w0 : World) (G : Nat) (GS : List Value) (k M : Nat) : Prop:=w0.heap.size <= M /\ M ≠ G /\ (∀ (j : Nat) (r : Rw),R[j]? = some r -> r.A ≠ some M) /\ ∀ (j : Nat) (g : Rw),j < k -> GS[j]? = some g.val -> g.A ≠ some M
theorem F2.fresh (h : F2 e es K R w0 G F w GS k) (hk : k <= R.length) : Fresh R w0 G GS k w.heap.size:=by
 refine ⟨h.1.size,fun e1=>?_,fun j r hj e1=>?_,fun j g hj hg e1=>?_⟩
 ·have:=h.gsLt
  omega
 ·have:=(h.2.1 j r hj).lt e1
  omega
 ·obtain ⟨rj,hrj⟩ : ∃ rj,R[j]? = some rj:=⟨_,List.getElem?_eq_getElem (by omega)⟩
  obtain ⟨g',g1,g2,_⟩:=h.2.2.2.2 j rj hj hrj
  rw [hg] at g1
  have:=Rw.val_inj (Option.some.inj g1)
  subst this
  have:=g2.lt e1
  omega
theorem F2.off {M : Nat} (h : F2 e es K R w0 G F w GS k) (hf : Fresh R w0 G GS k M) (hg : w.grownBy w' (some M)) : F2 e es K R w0 G F w' GS k:=h.news hg (fun b hb=>by cases hb; exact hf)
theorem F2.made (h : F2 e es K R w0 G F w GS k) (hg : w.grownBy w' none) : F2 e es K R w0 G F w' GS k:=h.news hg (fun b hb=>by cases hb)
theorem F2.at {j : Nat} {r : Rw} (h : F2 e es K R w0 G F w GS k) (hj : j < k) (hr : R[j]? = some r) : ∃ g : Rw,GS[j]? = some g.val /\ g.n = r.n + 64:=by
 obtain ⟨g,g1,_,g3,_⟩:=h.2.2.2.2 j r hj hr
 exact ⟨g,g1,g3⟩
theorem F2.gown {j : Nat} {r g : Rw} (h : F2 e es K R w0 G F w GS k) (hj : j < k) (hr : R[j]? = some r) (hg : GS[j]? = some g.val) : g.own e K w (F j r.n):=by
 obtain ⟨g',g1,g2,_⟩:=h.2.2.2.2 j r hj hr
 rw [hg] at g1
 have:=Rw.val_inj (Option.some.inj g1)
 subst this
 exact g2
theorem F2.gcell {j : Nat} {u : Value} (h : F2 e es K R w0 G F w GS k) (hg : GS[j]? = some u) : w.cell? ⟨G,j,none⟩ = some u:=by
 have hl:=(List.getElem?_eq_some_iff.1 hg).1
 have hgl : GS.length = R.length:=by have:=h.2.2.1.1; omega
 exact (World.ownsRow.cellAt h.2.2.1 j (by omega)).trans hg
end
end Go.Proofs.YtfpopdneokekiaaGreatDoor

/-
Walk: Div64 by a divisor below 2^32.
-/
import Derived.Test.YtnpanpkahbcecaaGreatDoorP5
import Derived.Lib.Walk
import Derived.Lib.BitFns
import Derived.Deep.Light
import Derived.Lib.Mul64
import Derived.Laws.Bits64b
import Derived.Lib.TrailingZeros
import Derived.Deep.QuietTactic
import Derived.BigQuiet
import Derived.Lib.Hide
set_option linter.unusedVariables false
set_option linter.unusedSimpArgs false
namespace Go.Proofs.YtnpanpkahbcecaaGreatDoor
section
open Go.RowKit
set_option maxRecDepth 100000 in
theorem t8_size : (Lib.len8tab.size : Int) = 256:=by
 have : Lib.len8tab.size = 256:=by decide
 omega
theorem wrap_two (k a b : Nat) (hk : k <= 56) (ha : a <= 8) (hb : b = k + a) : RowKit.wrap64 ((k : Int) + RowKit.wrap64 (a : Int)) = (b : Int):=by
 unfold RowKit.wrap64
 omega
theorem wrap_low (a : Nat) (ha : a <= 8) : RowKit.wrap64 (RowKit.wrap64 (a : Int)) = (a : Int):=by
 unfold RowKit.wrap64
 omega
theorem wrap_low1 (a : Nat) (ha : a <= 8) : RowKit.wrap64 (a : Int) = (a : Int):=by
 unfold RowKit.wrap64
 omega
theorem t8_get (y : Int) (h : y.toNat < Lib.len8tab.size) : ((Lib.len8tab[y.toNat]'h).toNat : Int) = Lib.len8 y:=by
 unfold Lib.len8
 rw [getElem?_pos Lib.len8tab y.toNat h]
 rfl
set_option maxHeartbeats 32000000 in
set_option maxRecDepth 1000000 in
theorem len64_bits (x : Int) (w : World) (h0 : 0 <= x) (h1 : x <= 18446744073709551615) :
  Calls Tryz.prog 85 #[.int .u64 x] w fun e w'=>e = .returned (.int .i64 (Lib.bitLen x.toNat)) /\ w' = w:=by
 go_enter Tryz.func85,Tryz.ntmps85
 go_wp2
 all_goals first
  | (go_ret; refine ⟨congrArg Ending.returned (congrArg (Value.int IntKind.i64) ?_),rfl⟩; go_light)
  | (exfalso
     go_light
     have hs:=t8_size
     omega)
 all_goals first
  | (rw [t8_get (x / 4294967296 / 65536 / 256) _,Lib.len8_of (x / 4294967296 / 65536 / 256) (by omega) (by omega)]
     have e : (x / 4294967296 / 65536 / 256).toNat = x.toNat / 72057594037927936:=by omega
     have l:=Lib.bitLen_le8' (x / 4294967296 / 65536 / 256) (by omega) (by omega)
     have s:=Lib.bitLen_shift56 x.toNat (by omega) (by omega)
     rw [e] at l ⊢
     exact wrap_two 56 _ _ (by decide) l s)
  | (rw [t8_get (x / 4294967296 / 65536) _,Lib.len8_of (x / 4294967296 / 65536) (by omega) (by omega)]
     have e : (x / 4294967296 / 65536).toNat = x.toNat / 281474976710656:=by omega
     have l:=Lib.bitLen_le8' (x / 4294967296 / 65536) (by omega) (by omega)
     have s:=Lib.bitLen_shift48 x.toNat (by omega) (by omega)
     rw [e] at l ⊢
     exact wrap_two 48 _ _ (by decide) l s)
  | (rw [t8_get (x / 4294967296 / 256) _,Lib.len8_of (x / 4294967296 / 256) (by omega) (by omega)]
     have e : (x / 4294967296 / 256).toNat = x.toNat / 1099511627776:=by omega
     have l:=Lib.bitLen_le8' (x / 4294967296 / 256) (by omega) (by omega)
     have s:=Lib.bitLen_shift40 x.toNat (by omega) (by omega)
     rw [e] at l ⊢
     exact wrap_two 40 _ _ (by decide) l s)
  | (rw [t8_get (x / 4294967296) _,Lib.len8_of (x / 4294967296) (by omega) (by omega)]
     have e : (x / 4294967296).toNat = x.toNat / 4294967296:=by omega
     have l:=Lib.bitLen_le8' (x / 4294967296) (by omega) (by omega)
     have s:=Lib.bitLen_shift32 x.toNat (by omega) (by omega)
     rw [e] at l ⊢
     exact wrap_two 32 _ _ (by decide) l s)
  | (rw [t8_get (x / 65536 / 256) _,Lib.len8_of (x / 65536 / 256) (by omega) (by omega)]
     have e : (x / 65536 / 256).toNat = x.toNat / 16777216:=by omega
     have l:=Lib.bitLen_le8' (x / 65536 / 256) (by omega) (by omega)
     have s:=Lib.bitLen_shift24 x.toNat (by omega) (by omega)
     rw [e] at l ⊢
     exact wrap_two 24 _ _ (by decide) l s)
  | (rw [t8_get (x / 65536) _,Lib.len8_of (x / 65536) (by omega) (by omega)]
     have e : (x / 65536).toNat = x.toNat / 65536:=by omega
     have l:=Lib.bitLen_le8' (x / 65536) (by omega) (by omega)
     have s:=Lib.bitLen_shift16 x.toNat (by omega) (by omega)
     rw [e] at l ⊢
     exact wrap_two 16 _ _ (by decide) l s)
  | (rw [t8_get (x / 256) _,Lib.len8_of (x / 256) (by omega) (by omega)]
     have e : (x / 256).toNat = x.toNat / 256:=by omega
     have l:=Lib.bitLen_le8' (x / 256) (by omega) (by omega)
     have s:=Lib.bitLen_shift8 x.toNat (by omega) (by omega)
     rw [e] at l ⊢
     exact wrap_two 8 _ _ (by decide) l s)
  | (rw [t8_get x _,Lib.len8_of x (by omega) (by omega)]
     have l:=Lib.bitLen_le8' x (by omega) (by omega)
     first | exact wrap_low _ l | exact wrap_two 0 _ _ (by decide) l (by omega) | exact wrap_low1 _ l)
end
section
open Go.RowKit
@[irreducible] def BL : Nat:=18446744073709551616 ^ 30
theorem BL_eq : BL = 18446744073709551616 ^ 30:=by unfold BL; rfl
def NU (w : World) (A : Option Addr) (n c X : Nat) : Prop:=U w A n c (Nt.dg 18446744073709551616 X) /\ X < BL
theorem NU.below {w w' : World} {A : Option Addr} {n c X : Nat} (h : NU w A n c X) (hb : Below w.heap.size w w') : NU w' A n c X:=⟨h.1.below hb,h.2⟩
theorem NU.len {w : World} {A : Option Addr} {n c X : Nat} (h : NU w A n c X) : n = (Nt.dg 18446744073709551616 X).length /\ n <= 30:=by
 refine ⟨h.1.1.symm,?_⟩
 rw [<- h.1.1]
 exact Nt.dg_len _ (by decide) _ _ (by rw [<- BL_eq]; exact h.2)
theorem NU.zero {w : World} {A : Option Addr} {n c X : Nat} (h : NU w A n c X) : n = 0 ↔ X = 0:=by
 rw [h.len.1]
 constructor
 ·intro e
  rcases Nat.eq_zero_or_pos X with h0 | h0
  ·exact h0
  ·rw [Nt.dg_pos _ _ (by decide) (by omega)] at e; simp at e
 ·rintro rfl; rw [Nt.dg_zero]; rfl
theorem NU.none (w : World) (c : Nat) : NU w none 0 0 0:=⟨by rw [Nt.dg_zero]; exact ⟨rfl,Nat.le_refl _,fun _=>rfl,fun k x hk=>by simp at hk⟩,by rw [BL_eq]; exact Nat.pow_pos (by decide)⟩
def NatP (N : Nat) (w : World) (e : Ending) (w' : World) : Prop:=∃ A n c,e = .returned (.slice A n c) /\ NU w' A n c N /\ Below w.heap.size w w'
theorem U.cut {w : World} {A : Option Addr} {n c : Nat} {l : List Int} (h : U w A n c l) (k : Nat) (hk : k <= n) : U w A k c (l.take k):=by
 obtain ⟨h1,h2,h3,h4⟩:=h
 refine ⟨by rw [List.length_take]; omega,by omega,h3,fun j x hj=>h4 j x ?_⟩
 rw [List.getElem?_take] at hj
 split at hj
 ·exact hj
 ·cases hj
set_option maxRecDepth 100000 in
theorem btrim_any (A : Option Addr) (n c : Nat) (l : List Int) (w : World) (hr : U w A n c l) (hn : n <= 1000000000) (hd : Nt.Dig 18446744073709551616 l) :
  Calls Tryz.prog 113 #[.slice A n c] w fun e w'=>e = .returned (.slice A (Nt.dg 18446744073709551616 (Nt.val 18446744073709551616 l)).length c) /\ U w A (Nt.dg 18446744073709551616 (Nt.val 18446744073709551616 l)).length c (Nt.dg 18446744073709551616 (Nt.val 18446744073709551616 l)) /\ w = w':=by
 have hl:=hr.1
 obtain ⟨t1,t2⟩:=take_dg l hd
 have HOUT : Hid (U w A (Nt.dg 18446744073709551616 (Nt.val 18446744073709551616 l)).length c (Nt.dg 18446744073709551616 (Nt.val 18446744073709551616 l))):=Hd (by have:=hr.cut _ (by rw [<- hl]; exact t2); rw [t1] at this; exact this)
 have HK : Hid (∀ k : Nat,k <= n -> (∀ x,x ∈ l.drop k -> x = 0) -> (k = 0 \/ ∃ x,l[k - 1]? = some x /\ x ≠ 0) -> (Nt.dg 18446744073709551616 (Nt.val 18446744073709551616 l)).length = k):=Hd (fun k hk hz ht=>by
  rw [<- trimmed l k hd hz ht (by omega),List.length_take,Nat.min_eq_left (by omega)])
 have HR:=Hd hr
 have HL:=Hd hl
 clear hr hd t1 t2 hl
 generalize (Nt.dg 18446744073709551616 (Nt.val 18446744073709551616 l)).length = T at *
 go_enter Tryz.func113,Tryz.ntmps113
 go_wp2_with fail
 go_loop [0] (fun v=>∃ k : Nat,k <= n /\ v = .slice A k c /\ Hid (∀ x,x ∈ l.drop k -> x = 0)) (fun v=>lenV v)
 case atStart=>exact ⟨n,Nat.le_refl _,rfl,Hd (fun x hx=>by rw [<- HL.out,List.drop_length] at hx; cases hx)⟩
 case round =>
  obtain ⟨k,hk,rfl,HZ⟩:=hrel
  rcases k with _ | k
  ·have HT : Hid (T = 0):=Hd (HK.out 0 hk HZ.out (.inl rfl))
   go_wp2
   go_ret
   rw [HT.out]
   exact ⟨rfl,by rw [<- HT.out]; exact HOUT.out,rfl⟩
  ·obtain ⟨x,hx⟩ : ∃ x,l[k]? = some x:=⟨_,List.getElem?_eq_getElem (by have:=HL.out; omega)⟩
   obtain ⟨ad,rfl,_,hc⟩:=HR.out.2.2.2 k x hx
   have hkc : k + 1 <= c:=by have:=HR.out.2.1; omega
   by_cases h0 : x = 0
   ·subst h0
    have HZ2:=Hd (drop_zero l k hx HZ.out)
    clear hx
    go_wp2_with fail
    go_round
    case rel=>exact ⟨k,by omega,rfl,HZ2⟩
    case measure=>simp [lenV]
   ·have HT : Hid (T = k + 1):=Hd (HK.out (k + 1) hk HZ.out (.inr ⟨x,by simpa using hx,h0⟩))
    have hx0 : (x == 0) = false:=by simpa using h0
    clear hx
    go_wp2
    go_ret
    rw [HT.out]
    exact ⟨rfl,by rw [<- HT.out]; exact HOUT.out,rfl⟩
theorem btrim_nu (A : Option Addr) (n c : Nat) (l : List Int) (N : Nat) (w : World) (hr : U w A n c l) (hn : n <= 1000000000) (hd : Nt.Dig 18446744073709551616 l) (hv : Nt.val 18446744073709551616 l = N) (hN : N < BL) :
  Calls Tryz.prog 113 #[.slice A n c] w fun e w'=>∃ m,e = .returned (.slice A m c) /\ NU w A m c N /\ w = w':=by
 refine (btrim_any A n c l w hr hn hd).mono ?_
 rintro e w' ⟨rfl,h1,h2⟩
 rw [hv] at h1 ⊢
 exact ⟨_,rfl,⟨h1,hN⟩,h2⟩
def BI (w : World) (g : Nat) (z : Int) : Prop:=∃ A n c,(w.cell? ⟨g,0,none⟩ = some (.bool (decide (z < 0))) /\ w.cell? ⟨g,1,none⟩ = some (.slice A n c)) /\ (w.frozen? ⟨g,0,none⟩ = false /\ w.frozen? ⟨g,1,none⟩ = false) /\ NU w A n c z.natAbs /\ g < w.heap.size
theorem BI.below {w w' : World} {g : Nat} {z : Int} (h : BI w g z) (hb : Below w.heap.size w w') : BI w' g z:=by
 obtain ⟨A,n,c,⟨h1,h2⟩,⟨h3,h4⟩,h5,h6⟩:=h
 exact ⟨A,n,c,⟨(hb.cell (p:=⟨g,0,none⟩) h6).trans h1,(hb.cell (p:=⟨g,1,none⟩) h6).trans h2⟩,⟨(hb.frozen (p:=⟨g,0,none⟩) h6).trans h3,(hb.frozen (p:=⟨g,1,none⟩) h6).trans h4⟩,h5.below hb,Nat.lt_of_lt_of_le h6 hb.size⟩
structure Tr (S : List Nat) (w w' : World) : Prop where
 size : w.heap.size <= w'.heap.size
 bi : ∀ g z,g ∉ S -> BI w g z -> BI w' g z
 u : ∀ A n c l,U w A n c l -> U w' A n c l
 below : ∀ B,B <= w.heap.size -> (∀ g,g ∈ S -> B <= g) -> Below B w w'
 cell : ∀ p,p.block < w.heap.size -> (∀ g,g ∈ S -> p.block ≠ g) -> w'.cell? p = w.cell? p /\ w'.frozen? p = w.frozen? p
theorem Tr.of_below {w w' : World} (h : Below w.heap.size w w') (S : List Nat) : Tr S w w' :=
 ⟨h.size,fun g z _ hb=>hb.below h,fun A n c l hu=>hu.below h,fun B hB _=>h.mono hB,fun p hp _=>⟨h.cell hp,h.frozen hp⟩⟩
theorem Tr.trans {S : List Nat} {a b c : World} (h : Tr S a b) (k : Tr S b c) : Tr S a c :=
 ⟨Nat.le_trans h.size k.size,fun g z hg hb=>k.bi g z hg (h.bi g z hg hb),fun A n c l hu=>k.u A n c l (h.u A n c l hu),fun B hB hs=>(h.below B hB hs).trans (k.below B (Nat.le_trans hB h.size) hs),fun p hp hs=>by
  have h1:=h.cell p hp hs
  have h2:=k.cell p (Nat.lt_of_lt_of_le hp h.size) hs
  exact ⟨h2.1.trans h1.1,h2.2.trans h1.2⟩⟩
theorem Tr.fresh {S S' : List Nat} {a b c : World} (h : Tr S a b) (k : Tr S' b c) (hs : ∀ g,g ∈ S' -> g ∈ S \/ a.heap.size <= g) : Tr S a c:=by
 have hne : ∀ p : Nat,p < a.heap.size -> p ∉ S -> p ∉ S':=fun p hp hn hm=>by
  rcases hs p hm with h1 | h1
  ·exact hn h1
  ·omega
 refine ⟨Nat.le_trans h.size k.size,fun g z hg hb=>?_,fun A n c l hu=>k.u A n c l (h.u A n c l hu),fun B hB hh=>?_,fun p hp hh=>?_⟩
 ·obtain ⟨A,n,c,h1,h2,h3,h4⟩:=id hb
  exact k.bi g z (hne g h4 hg) (h.bi g z hg hb)
 ·refine (h.below B hB hh).trans (k.below B (Nat.le_trans hB h.size) (fun g hg=>?_))
  rcases hs g hg with h1 | h1
  ·exact hh g h1
  ·omega
 ·have h1:=h.cell p hp hh
  have h2:=k.cell p (Nat.lt_of_lt_of_le hp h.size) (fun g hg e=>by
   rcases hs g hg with h3 | h3
   ·exact hh g h3 e
   ·omega)
  exact ⟨h2.1.trans h1.1,h2.2.trans h1.2⟩
theorem Tr.mono {S S' : List Nat} {a b : World} (h : Tr S a b) (hs : ∀ g,g ∈ S -> g ∈ S') : Tr S' a b :=
 ⟨h.size,fun g z hg hb=>h.bi g z (fun hm=>hg (hs g hm)) hb,h.u,fun B hB hh=>h.below B hB (fun g hg=>hh g (hs g hg)),fun p hp hh=>h.cell p hp (fun g hg=>hh g (hs g hg))⟩
theorem BI.put {w : World} {g : Nat} {z0 : Int} (h : BI w g z0) {A : Option Addr} {n c : Nat} {z : Int} (hu : NU w A n c z.natAbs) : BI ((w.setCell ⟨g,1,none⟩ (.slice A n c)).setCell ⟨g,0,none⟩ (.bool (decide (z < 0)))) g z /\ Tr [g] w ((w.setCell ⟨g,1,none⟩ (.slice A n c)).setCell ⟨g,0,none⟩ (.bool (decide (z < 0)))):=by
 obtain ⟨A0,n0,c0,⟨h1,h2⟩,⟨h3,h4⟩,h5,h6⟩:=h
 have o : ∀ (y : World) (p q : Addr) (v : Value),p ≠ q -> (y.setCell p v).cell? q = y.cell? q:=fun y p q v hne=>World.cell?_setCell_other _ _ _ _ hne
 have hU : ∀ (v : Value) A n c l,U w A n c l -> U ((w.setCell ⟨g,1,none⟩ v).setCell ⟨g,0,none⟩ (.bool (decide (z < 0)))) A n c l:=fun v A n c l hu=>by
  obtain ⟨k1,k2,k3,k4⟩:=hu
  refine ⟨k1,k2,k3,fun k x hk=>?_⟩
  obtain ⟨ad,e,k5,k6⟩:=k4 k x hk
  refine ⟨ad,e,by simpa using k5,?_⟩
  rw [o _ _ _ _ (fun e=>by rw [<- e,h1] at k6; cases k6),o _ _ _ _ (fun e=>by rw [<- e,h2] at k6; cases k6)]
  exact k6
 refine ⟨⟨A,n,c,⟨World.cell?_setCell_same _ _ _ ((o _ _ _ _ (by simp)).trans h1),?_⟩,⟨by simpa using h3,by simpa using h4⟩,⟨hU _ _ _ _ _ hu.1,hu.2⟩,by simpa using h6⟩,by simp,fun g' z' hg hb=>?_,hU _,fun B hB hs=>?_,fun p hp hs=>?_⟩
 ·rw [o _ _ _ _ (by simp)]
  exact World.cell?_setCell_same _ _ _ h2
 ·obtain ⟨A',n',c',⟨k1,k2⟩,⟨k3,k4⟩,k5,k6⟩:=hb
  have hne : g ≠ g':=fun e=>hg (by rw [e]; exact List.mem_singleton.2 rfl)
  exact ⟨A',n',c',⟨by rw [o _ _ _ _ (fun e=>hne (congrArg Addr.block e)),o _ _ _ _ (fun e=>hne (congrArg Addr.block e))]; exact k1,by rw [o _ _ _ _ (fun e=>hne (congrArg Addr.block e)),o _ _ _ _ (fun e=>hne (congrArg Addr.block e))]; exact k2⟩,⟨by simpa using k3,by simpa using k4⟩,⟨hU _ _ _ _ _ k5.1,k5.2⟩,by simpa using k6⟩
 ·have hg:=hs g (List.mem_singleton.2 rfl)
  exact ((Below.refl B w).setCell (p:=⟨g,1,none⟩) hg _).setCell (p:=⟨g,0,none⟩) hg _
 ·have hg:=hs g (List.mem_singleton.2 rfl)
  exact ⟨by rw [o _ _ _ _ (fun e=>hg (by rw [<- e])),o _ _ _ _ (fun e=>hg (by rw [<- e]))],by simp⟩
theorem BI.new (w : World) (t : TypeId) : BI (w.alloc (.cells #[.bool false,.slice none 0 0] t)) w.heap.size 0 /\ Below w.heap.size w (w.alloc (.cells #[.bool false,.slice none 0 0] t)) :=
 ⟨⟨none,0,0,⟨by simp,by simp⟩,⟨by simp,by simp⟩,NU.none _ 0,by simp⟩,(Below.refl _ _).alloc (Nat.le_refl _) _⟩
end
section
open Go.RowKit
namespace M6
theorem maskN (a : Nat) (ha : a < 18446744073709551616) : bits .and .u64 (a : Int) 4294967295 = ((a % 4294967296 : Nat) : Int):=by
 have h:=bits_and_u64_nat a 4294967295 ha (by omega)
 have e : a &&& 4294967295 = a % 4294967296:=Nat.and_two_pow_sub_one_eq_mod a 32
 rw [e] at h
 exact h
theorem divN (a : Nat) : (a : Int) / 4294967296 = ((a / 4294967296 : Nat) : Int):=by omega
theorem mulN (a b : Nat) : (a : Int) * (b : Int) = ((a * b : Nat) : Int):=(Int.natCast_mul a b).symm
theorem addN (a b : Nat) : (a : Int) + (b : Int) = ((a + b : Nat) : Int):=(Int.natCast_add a b).symm
theorem wrapN (a : Nat) (ha : a < 18446744073709551616) : IntKind.u64.wrap (a : Int) = (a : Int):=by rw [IntKind.wrap_u64]; omega
theorem wrapM (a : Nat) : IntKind.u64.wrap (a : Int) = ((a % 18446744073709551616 : Nat) : Int):=by rw [IntKind.wrap_u64]; omega
end M6
set_option maxHeartbeats 1000000 in
theorem mul64_any (x y : Nat) (hx : x < 18446744073709551616) (hy : y < 18446744073709551616) (w : World) :
  Calls Tryz.prog 116 #[.int .u64 x,.int .u64 y] w fun e w'=>e = .returned (.tuple #[.int .u64 ((x * y / 18446744073709551616 : Nat) : Int),.int .u64 ((x * y % 18446744073709551616 : Nat) : Int)]) /\ w = w':=by
 obtain ⟨bd,bt,bw,hhi⟩:=Lib.mul64_hi x y hx hy
 have ba:=Lib.half_mul_le (a:=x / 4294967296) (b:=y / 4294967296) (by omega) (by omega)
 have bb:=Lib.half_mul_le (a:=x / 4294967296) (b:=y % 4294967296) (by omega) (by omega)
 have bc:=Lib.half_mul_le (a:=x % 4294967296) (b:=y / 4294967296) (by omega) (by omega)
 have ba' : x / 4294967296 * (y / 4294967296) < 18446744073709551616:=by omega
 have bb' : x / 4294967296 * (y % 4294967296) < 18446744073709551616:=by omega
 have bc' : x % 4294967296 * (y / 4294967296) < 18446744073709551616:=by omega
 have bh1 : x / 4294967296 * (y / 4294967296) + (x / 4294967296 * (y % 4294967296) + x % 4294967296 * (y % 4294967296) / 4294967296) / 4294967296 < 18446744073709551616:=by omega
 have bh : x / 4294967296 * (y / 4294967296) + (x / 4294967296 * (y % 4294967296) + x % 4294967296 * (y % 4294967296) / 4294967296) / 4294967296 + ((x / 4294967296 * (y % 4294967296) + x % 4294967296 * (y % 4294967296) / 4294967296) % 4294967296 + x % 4294967296 * (y / 4294967296)) / 4294967296 < 18446744073709551616:=by omega
 go_enter Tryz.func116,Tryz.ntmps116
 go_wp2
 simp only [M6.maskN x hx,M6.maskN y hy,M6.divN,M6.mulN,M6.addN,M6.wrapN _ bd,M6.wrapN _ bb',M6.wrapN _ bt,M6.maskN _ bt,M6.wrapN _ bc',M6.wrapN _ bw,M6.wrapN _ ba',M6.wrapN _ bh1,M6.wrapN _ bh,M6.wrapM (x * y)]
 rw [hhi]
 go_ret2
 exact ⟨rfl,rfl⟩
def TabAt (g : Nat) (tab : List Nat) (w : World) : Prop:=∀ j,j < tab.length -> w.cell? ⟨g,j,none⟩ = some (.int .u8 (tab.getD j 0))
theorem TabAt.below {g : Nat} {tab : List Nat} {w w' : World} (h : TabAt g tab w) (hb : Below w.heap.size w w') (hg : g < w.heap.size) : TabAt g tab w':=fun j hj=>(hb.cell (p:=⟨g,j,none⟩) hg).trans (h j hj)
theorem tz64_key (x a : Nat) (hx : x < 18446744073709551616) (hx0 : x ≠ 0) (hlow : x &&& (18446744073709551616 - x) = a) :
  IntKind.u64.wrap (bits BinOp.and IntKind.u64 (x : Int) (IntKind.u64.wrap (-(x : Int))) * 285870213051353865) / 288230376151711744 = ((a * 285870213051353865 % 18446744073709551616 / 288230376151711744 : Nat) : Int):=by
 have e1 : IntKind.u64.wrap (-(x : Int)) = ((18446744073709551616 - x : Nat) : Int):=by rw [IntKind.wrap_u64]; omega
 rw [e1,bits_and_u64_nat x _ hx (by omega),hlow,IntKind.wrap_u64]
 omega
set_option maxHeartbeats 1000000 in
theorem tz64_core (x k idx : Nat) (w : World) (hx0 : ((x : Int) == 0) = false)
  (key : IntKind.u64.wrap (bits BinOp.and IntKind.u64 (x : Int) (IntKind.u64.wrap (-(x : Int))) * 285870213051353865) / 288230376151711744 = (idx : Int))
  (hi : idx < 64) (hk : k < 64) (hcell : w.cell? ⟨2,idx,none⟩ = some (.int .u8 k)) :
  Calls Tryz.prog 183 #[.int .u64 x] w fun e w'=>e = .returned (.int .i64 k) /\ w = w':=by
 go_enter Tryz.func183,Tryz.ntmps183
 go_wp2_with (simp only [key])
 go_ret
 exact ⟨rfl,rfl⟩
theorem tz64_any (x : Nat) (hx : x < 18446744073709551616) (w : World) (hT : TabAt 2 Lib.deBruijn64tab w) :
  Calls Tryz.prog 183 #[.int .u64 x] w fun e w'=>e = .returned (.int .i64 (Lib.ctz 64 x)) /\ w = w':=by
 by_cases hx0 : x = 0
 ·subst hx0
  go_enter Tryz.func183,Tryz.ntmps183
  go_wp2
  go_ret
  exact ⟨rfl,rfl⟩
 ·obtain ⟨hlow,hk⟩:=Lib.lowest_bit 64 x hx0 hx
  obtain ⟨hi,htab⟩:=Lib.deBruijn64_at _ hk
  have hcell:=hT _ hi
  rw [htab] at hcell
  exact tz64_core x _ _ w (by simp; omega) (tz64_key x _ hx hx0 hlow) hi hk hcell
theorem tz_any (x : Nat) (hx : x < 18446744073709551616) (w : World) (hT : TabAt 2 Lib.deBruijn64tab w) :
  Calls Tryz.prog 163 #[.int .u64 x] w fun e w'=>e = .returned (.int .i64 (Lib.ctz 64 x)) /\ w = w':=by
 have HC:=Hd (fun w hT=>tz64_any x hx w hT)
 have HT:=Hd hT
 clear hT
 go_enter Tryz.func163,Tryz.ntmps163
 go_wp2_with (refine (HC.out _ HT.out).mono ?_; rintro e w' ⟨rfl,rfl⟩)
 go_ret
 exact ⟨rfl,rfl⟩
set_option maxRecDepth 100000 in
theorem zeros64_len (x : Nat) (w : World) (h1 : x < 18446744073709551616) :
  Calls Tryz.prog 248 #[.int .u64 x] w fun e w'=>e = .returned (.int .i64 ((64 - Lib.bitLen x : Nat) : Int)) /\ w = w':=by
 have HC:=Hd (fun w=>len64_bits (x : Int) w (by omega) (by omega))
 have hb : Lib.bitLen x <= 64:=Lib.bitLen_le _ _ (Nat.le_refl _) (by omega)
 rw [Int.toNat_natCast] at HC
 obtain ⟨T,hT⟩ : ∃ T,T = Lib.bitLen x:=⟨_,rfl⟩
 rw [<- hT] at HC hb ⊢
 have hw1 : IntKind.i64.wrap ((64 : Int) - (T : Int)) = ((64 - T : Nat) : Int):=by rw [IntKind.wrap_i64]; omega
 have hw2 : (64 : Int) - (T : Int) = ((64 - T : Nat) : Int):=by omega
 clear hT h1
 go_enter Tryz.func248,Tryz.ntmps248
 go_wp2_with (refine (HC.out _).mono ?_; rintro e w1 ⟨rfl,rfl⟩)
 go_ret
 exact ⟨rfl,rfl⟩
theorem bitLen_lt : ∀ (k x : Nat),k <= 64 -> x < 2 ^ k -> x < 2 ^ Lib.bitLen x
 | 0,x,_,h=>by
   have : x = 0:=by simpa using h
   subst this
   decide
 | k + 1,x,hk,h=>by
   by_cases h0 : x = 0
   ·subst h0; decide
   ·have h64 : x < 2 ^ 64:=Nat.lt_of_lt_of_le h (Nat.pow_le_pow_right (by decide) hk)
    have ih:=bitLen_lt k (x / 2) (by omega) (by rw [Nat.pow_succ] at h; omega)
    rw [Lib.bitLen_half x h0 h64,Nat.add_comm,Nat.pow_succ]
    omega
theorem bitLen_ge (x : Nat) (h0 : x ≠ 0) (h64 : x < 2 ^ 64) : 2 ^ (Lib.bitLen x - 1) <= x:=by
 have : ∀ (k y : Nat),k <= 64 -> y < 2 ^ k -> y ≠ 0 -> 2 ^ (Lib.bitLen y - 1) <= y:=by
  intro k
  induction k with
  | zero=>intro y _ h h0; exact absurd (by simpa using h) h0
  | succ k ih =>
    intro y hk h hy
    have h64 : y < 2 ^ 64:=Nat.lt_of_lt_of_le h (Nat.pow_le_pow_right (by decide) hk)
    rw [Lib.bitLen_half y hy h64]
    by_cases h2 : y / 2 = 0
    ·rw [h2,show Lib.bitLen 0 = 0 by decide]
     simp; omega
    ·have i:=ih (y / 2) (by omega) (by rw [Nat.pow_succ] at h; omega) h2
     have h3 : 1 <= Lib.bitLen (y / 2):=by
      rw [Lib.bitLen_half (y / 2) h2 (by omega)]; omega
     obtain ⟨j,hj⟩ : ∃ j,Lib.bitLen (y / 2) = j + 1:=⟨_,(Nat.sub_add_cancel h3).symm⟩
     rw [hj] at i ⊢
     rw [show 1 + (j + 1) - 1 = j + 1 by omega,Nat.pow_succ]
     rw [show j + 1 - 1 = j by omega] at i
     omega
 exact this 64 x (Nat.le_refl _) h64 h0
theorem or_low (d y k : Nat) (hd : d < 2 ^ k) (hk : k <= 64) : d ||| (y * 2 ^ k % 18446744073709551616) = d + y * 2 ^ k % 18446744073709551616:=by
 have e : (18446744073709551616 : Nat) = 2 ^ k * 2 ^ (64 - k):=by rw [<- Nat.pow_add,Nat.add_sub_cancel' hk]
 rw [e,Nat.mul_comm y,Nat.mul_mod_mul_left,Nat.or_comm,<- Nat.two_pow_add_eq_or_of_lt hd]
 omega
end
section
open Go.RowKit
theorem div_plain (hi lo y s p : Nat) (hy : y ≠ 0) (hlt : hi < y) (hlo : lo < 18446744073709551616) (hs : s <= 63) (hp : y * 2 ^ s = p * 4294967296) (hb : y * 2 ^ s < 18446744073709551616) :
  ∃ u m1 m0 q1 r1 q0 r0 : Nat,hi * 2 ^ s + lo / 2 ^ (64 - s) = u /\ hi * 2 ^ s < 18446744073709551616 /\ lo / 2 ^ (64 - s) < 2 ^ s /\ u < 18446744073709551616 /\ lo * 2 ^ s % 18446744073709551616 = m1 * 4294967296 + m0 /\ m1 < 4294967296 /\ m0 < 4294967296 /\
    u / p = q1 /\ q1 < 4294967296 /\ u = q1 * p + r1 /\ r1 < p /\ p < 4294967296 /\ 0 < p /\ (r1 * 4294967296 + m1) / p = q0 /\ q0 < 4294967296 /\ r1 * 4294967296 + m1 = q0 * p + r0 /\ r0 < p /\
    q1 * 4294967296 + q0 = (hi * 18446744073709551616 + lo) / y /\ (r0 * 4294967296 + m0) / 2 ^ s = (hi * 18446744073709551616 + lo) % y:=by
 have h64 : (18446744073709551616 : Nat) = 2 ^ s * 2 ^ (64 - s):=by rw [<- Nat.pow_add,show s + (64 - s) = 64 by omega]
 have ps : 0 < 2 ^ s:=Nat.two_pow_pos s
 have pt : 0 < 2 ^ (64 - s):=Nat.two_pow_pos _
 obtain ⟨S,hS⟩ : ∃ S,S = 2 ^ s:=⟨_,rfl⟩
 obtain ⟨T,hT⟩ : ∃ T,T = 2 ^ (64 - s):=⟨_,rfl⟩
 rw [<- hS] at hp hb ps
 rw [<- hS,<- hT] at h64
 rw [<- hT] at pt
 rw [<- hS,<- hT]
 clear hS hT hs
 obtain ⟨c,hc⟩ : ∃ c,c = lo / T:=⟨_,rfl⟩
 obtain ⟨d,hd⟩ : ∃ d,d = lo % T:=⟨_,rfl⟩
 have hld : lo = T * c + d:=by rw [hc,hd]; exact (Nat.div_add_mod lo T).symm
 have hdT : d < T:=by rw [hd]; exact Nat.mod_lt _ pt
 have hcS : c < S:=by
  rw [hc]
  exact (Nat.div_lt_iff_lt_mul pt).2 (by rw [<- h64]; exact hlo)
 have hyS : (hi + 1) * S <= y * S:=Nat.mul_le_mul_right S hlt
 rw [Nat.add_mul,Nat.one_mul] at hyS
 have pp : 0 < p:=by
  rcases Nat.eq_zero_or_pos p with h | h
  ·subst h
   have:=Nat.mul_pos (Nat.pos_of_ne_zero hy) ps
   omega
  ·exact h
 have hlS : lo * S % 18446744073709551616 = d * S:=by
  rw [hld,Nat.add_mul]
  have e : T * c * S = 18446744073709551616 * c:=by rw [h64]; rw [Nat.mul_right_comm,Nat.mul_comm T S]
  rw [e,Nat.mul_add_mod]
  refine Nat.mod_eq_of_lt ?_
  rw [h64,Nat.mul_comm S T]
  exact Nat.mul_lt_mul_of_pos_right hdT ps
 have hdS : d * S < 18446744073709551616:=by
  rw [h64,Nat.mul_comm S T]
  exact Nat.mul_lt_mul_of_pos_right hdT ps
 obtain ⟨u,hu⟩ : ∃ u,u = hi * S + c:=⟨_,rfl⟩
 have huy : u < p * 4294967296:=by omega
 obtain ⟨m1,hm1⟩ : ∃ m1,m1 = d * S / 4294967296:=⟨_,rfl⟩
 obtain ⟨m0,hm0⟩ : ∃ m0,m0 = d * S % 4294967296:=⟨_,rfl⟩
 obtain ⟨q1,hq1⟩ : ∃ q1,q1 = u / p:=⟨_,rfl⟩
 obtain ⟨r1,hr1⟩ : ∃ r1,r1 = u % p:=⟨_,rfl⟩
 have e1 : u = q1 * p + r1:=by rw [hq1,hr1,Nat.mul_comm]; exact (Nat.div_add_mod u p).symm
 have e2 : r1 < p:=by rw [hr1]; exact Nat.mod_lt _ pp
 have e3 : q1 < 4294967296:=by rw [hq1]; exact (Nat.div_lt_iff_lt_mul pp).2 (by rw [Nat.mul_comm]; exact huy)
 obtain ⟨q0,hq0⟩ : ∃ q0,q0 = (r1 * 4294967296 + m1) / p:=⟨_,rfl⟩
 obtain ⟨r0,hr0⟩ : ∃ r0,r0 = (r1 * 4294967296 + m1) % p:=⟨_,rfl⟩
 have e4 : r1 * 4294967296 + m1 = q0 * p + r0:=by rw [hq0,hr0,Nat.mul_comm _ p]; exact (Nat.div_add_mod _ p).symm
 have e5 : r0 < p:=by rw [hr0]; exact Nat.mod_lt _ pp
 have e6 : q0 < 4294967296:=by rw [hq0]; exact (Nat.div_lt_iff_lt_mul pp).2 (by rw [Nat.mul_comm 4294967296 p]; omega)
 have k2 : d * S = m1 * 4294967296 + m0:=by omega
 have key : (hi * 18446744073709551616 + lo) * S = (q1 * 4294967296 + q0) * (y * S) + (r0 * 4294967296 + m0):=by
  have hBH : (18446744073709551616 : Nat) = 4294967296 * 4294967296:=by decide
  clear hlS hdS huy e3 e6 hm1 hm0 hq1 hr1 hq0 hr0 hyS hb hlo hcS hc hd e2 e5 hdT hlt hy ps pt pp
  rw [hp]
  rw [hBH] at h64 ⊢
  clear hBH
  generalize (4294967296 : Nat) = H at *
  have k1 : (hi * (H * H) + lo) * S = hi * S * (H * H) + (S * T) * c + d * S:=by rw [hld]; simp only [Nat.add_mul,Nat.mul_add,Nat.mul_comm,Nat.mul_left_comm,Nat.mul_assoc,Nat.add_assoc]
  have k3 : (q1 * H + q0) * (p * H) + (r0 * H + m0) = q1 * p * (H * H) + (q0 * p + r0) * H + m0:=by simp only [Nat.add_mul,Nat.mul_add,Nat.mul_comm,Nat.mul_left_comm,Nat.mul_assoc,Nat.add_assoc]
  rw [k1,k3,<- h64,<- e4,k2]
  have k4 : (r1 * H + m1) * H = r1 * (H * H) + m1 * H:=by rw [Nat.add_mul,Nat.mul_assoc]
  have k5 : (hi * S + c) * (H * H) = (q1 * p + r1) * (H * H):=by rw [<- hu,e1]
  rw [Nat.add_mul,Nat.add_mul] at k5
  rw [k4,Nat.mul_comm (H * H) c]
  omega
 have hR : r0 * 4294967296 + m0 < y * S:=by omega
 obtain ⟨Q,hQ⟩ : ∃ Q,Q = q1 * 4294967296 + q0:=⟨_,rfl⟩
 obtain ⟨R,hRR⟩ : ∃ R,R = r0 * 4294967296 + m0:=⟨_,rfl⟩
 obtain ⟨N,hN⟩ : ∃ N,N = hi * 18446744073709551616 + lo:=⟨_,rfl⟩
 rw [<- hQ,<- hRR,<- hN] at key
 rw [<- hRR] at hR
 have d1 : N / y = Q:=by
  rw [<- Nat.mul_div_mul_right N y ps,key,Nat.mul_comm Q,Nat.mul_add_div (Nat.mul_pos (Nat.pos_of_ne_zero hy) ps),Nat.div_eq_of_lt hR,Nat.add_zero]
 have d2 : R / S = N % y:=by
  have k5 : N % y * S = R:=by
   rw [<- Nat.mul_mod_mul_right,key,Nat.mul_comm Q,Nat.mul_add_mod,Nat.mod_eq_of_lt hR]
  rw [<- k5,Nat.mul_div_cancel _ ps]
 have e7 : hi * S < 18446744073709551616:=by omega
 have e8 : p < 4294967296:=by omega
 have e9 : u < 18446744073709551616:=by omega
 exact ⟨u,m1,m0,q1,r1,q0,r0,by rw [hu,hc],e7,by rw [<- hc]; exact hcS,e9,by rw [hlS]; omega,by omega,by omega,hq1.symm,e3,e1,e2,e8,pp,hq0.symm,e6,e4,e5,by rw [<- hQ,<- hN,d1],by rw [<- hRR,<- hN,d2]⟩
set_option maxRecDepth 100000 in
set_option maxHeartbeats 4000000 in
theorem div64_any (hi lo y : Nat) (w : World) (hy : y ≠ 0) (hlt : hi < y) (hlo : lo < 18446744073709551616) (hy2 : y < 4294967296) :
  Calls Tryz.prog 252 #[.int .u64 hi,.int .u64 lo,.int .u64 y] w fun e w'=>e = .returned (.tuple #[.int .u64 (((hi * 18446744073709551616 + lo) / y : Nat) : Int),.int .u64 (((hi * 18446744073709551616 + lo) % y : Nat) : Int)]) /\ Below w.heap.size w w':=by
 have hz : ((y : Int) == 0) = false:=by simp; omega
 have hz1 : ¬ ((y : Int) = 0):=by omega
 have hyle : decide ((y : Int) <= (hi : Int)) = false:=decide_eq_false (by omega)
 by_cases h0 : hi = 0
 ·subst h0
  have t1 : Int.tdiv (lo : Int) (y : Int) = ((lo / y : Nat) : Int):=by rw [Int.tdiv_eq_ediv_of_nonneg (by omega)]; rfl
  have t2 : Int.tmod (lo : Int) (y : Int) = ((lo % y : Nat) : Int):=by rw [Int.tmod_eq_emod_of_nonneg (by omega)]; rfl
  have b1 : lo / y < 18446744073709551616:=Nat.lt_of_le_of_lt (Nat.div_le_self _ _) hlo
  have b2 : lo % y < 18446744073709551616:=Nat.lt_of_le_of_lt (Nat.mod_le _ _) hlo
  have t3 : IntKind.u64.wrap ((lo / y : Nat) : Int) = ((lo / y : Nat) : Int):=M6.wrapN _ b1
  have t4 : IntKind.u64.wrap ((lo % y : Nat) : Int) = ((lo % y : Nat) : Int):=M6.wrapN _ b2
  rw [Nat.zero_mul,Nat.zero_add]
  obtain ⟨q,hq⟩ : ∃ q,q = lo / y:=⟨_,rfl⟩
  obtain ⟨r,hr⟩ : ∃ r,r = lo % y:=⟨_,rfl⟩
  rw [<- hq] at t1 t3 ⊢
  rw [<- hr] at t2 t4 ⊢
  clear hq hr b1 b2
  go_enter Tryz.func252,Tryz.ntmps252
  go_wp2_with fail
  go_quiet (fail)
  go_wp2
  go_ret2
  exact ⟨rfl,rfl,rfl,rfl,Nat.le_refl _,fun _ _=>rfl⟩
 ·have HZ:=Hd (fun w=>zeros64_len y w (by omega))
  have hl1 : Lib.bitLen y <= 32:=Lib.bitLen_le _ _ (by decide) (by omega)
  have hl2:=bitLen_lt 32 y (by decide) (by omega)
  obtain ⟨s,hs⟩ : ∃ s,s = 64 - Lib.bitLen y:=⟨_,rfl⟩
  rw [<- hs] at HZ
  have hs1 : 32 <= s:=by omega
  have hl3 : 1 <= Lib.bitLen y:=by
   rcases Nat.eq_zero_or_pos (Lib.bitLen y) with h | h
   ·rw [h] at hl2; omega
   ·exact h
  have hs2 : s <= 63:=by omega
  have hyb : y * 2 ^ s < 18446744073709551616:=by
   have h1 : (18446744073709551616 : Nat) = 2 ^ Lib.bitLen y * 2 ^ s:=by rw [<- Nat.pow_add,show Lib.bitLen y + s = 64 by omega]
   rw [h1]
   exact Nat.mul_lt_mul_of_pos_right hl2 (Nat.two_pow_pos s)
  obtain ⟨p,hp⟩ : ∃ p,p = y * 2 ^ (s - 32):=⟨_,rfl⟩
  have hyp : y * 2 ^ s = p * 4294967296:=by
   rw [hp,Nat.mul_assoc,show (4294967296 : Nat) = 2 ^ 32 by decide,<- Nat.pow_add,show s - 32 + 32 = s by omega]
  obtain ⟨u,m1,m0,q1,r1,q0,r0,f1,f2,f3,f4,f5,f6,f7,f8,f9,f10,f11,f12,f13,f14,f15,f16,f17,f18,f19⟩:=div_plain hi lo y s p hy hlt hlo hs2 hyp hyb
  rw [<- f18,<- f19]
  clear f18 f19
  have z0 : ((hi : Int) == 0) = false:=by simp; omega
  have z1 : ¬ ((hi : Int) = 0):=by omega
  have w1 : IntKind.u64.wrap (s : Int) = (s : Int):=M6.wrapN _ (by omega)
  obtain ⟨Y,hY⟩ : ∃ Y,Y = p * 4294967296:=⟨_,rfl⟩
  obtain ⟨L,hL⟩ : ∃ L,L = lo * 2 ^ s % 18446744073709551616:=⟨_,rfl⟩
  obtain ⟨H1,hH1⟩ : ∃ H1,H1 = hi * 2 ^ s:=⟨_,rfl⟩
  obtain ⟨L1,hL1⟩ : ∃ L1,L1 = lo / 2 ^ (64 - s):=⟨_,rfl⟩
  obtain ⟨v1,hv1⟩ : ∃ v1,v1 = q1 * p:=⟨_,rfl⟩
  obtain ⟨v0,hv0⟩ : ∃ v0,v0 = q0 * p:=⟨_,rfl⟩
  obtain ⟨X,hX⟩ : ∃ X,X = r1 * 4294967296 + m1:=⟨_,rfl⟩
  obtain ⟨Z,hZ⟩ : ∃ Z,Z = r0 * 4294967296 + m0:=⟨_,rfl⟩
  obtain ⟨QQ,hQQ⟩ : ∃ QQ,QQ = q1 * 4294967296 + q0:=⟨_,rfl⟩
  rw [<- hQQ,<- hZ]
  have c1 : IntKind.u64.wrap ((y : Int) * 2 ^ s) = (Y : Int):=by
   have : (y : Int) * 2 ^ s = ((y * 2 ^ s : Nat) : Int):=by simp
   rw [this,hyp,<- hY]; exact M6.wrapN _ (by omega)
  have c2 : (Y : Int) / 4294967296 = (p : Int):=by omega
  have c3 : bits BinOp.and IntKind.u64 (Y : Int) 4294967295 = 0:=by rw [M6.maskN Y (by omega)]; omega
  have c4 : IntKind.u64.wrap ((hi : Int) * 2 ^ s) = (H1 : Int):=by
   have : (hi : Int) * 2 ^ s = ((hi * 2 ^ s : Nat) : Int):=by simp
   rw [this,<- hH1]; exact M6.wrapN _ (by omega)
  have c5 : (64 : Int) - (s : Int) = ((64 - s : Nat) : Int):=by omega
  have c5' : IntKind.u64.wrap ((64 : Int) - (s : Int)) = ((64 - s : Nat) : Int):=by rw [c5]; exact M6.wrapN _ (by omega)
  have c6 : (lo : Int) / 2 ^ (64 - s) = (L1 : Int):=by rw [hL1]; simp
  have c7 : bits BinOp.or IntKind.u64 (H1 : Int) (L1 : Int) = (u : Int):=by
   rw [u64_or_nat H1 L1 (by omega) (by omega),Nat.or_comm]
   have:=or_low L1 hi s (by rw [hL1]; exact f3) (by omega)
   rw [<- hH1,Nat.mod_eq_of_lt (by omega)] at this
   rw [this,<- f1,<- hH1,<- hL1]; omega
  have c8 : IntKind.u64.wrap ((lo : Int) * 2 ^ s) = (L : Int):=by
   have : (lo : Int) * 2 ^ s = ((lo * 2 ^ s : Nat) : Int):=by simp
   rw [this,hL,IntKind.wrap_u64]; omega
  have c9 : (L : Int) / 4294967296 = (m1 : Int):=by omega
  have c10 : bits BinOp.and IntKind.u64 (L : Int) 4294967295 = (m0 : Int):=by rw [M6.maskN L (by omega)]; omega
  have c11 : Int.tdiv (u : Int) (p : Int) = (q1 : Int):=by rw [Int.tdiv_eq_ediv_of_nonneg (by omega),<- f8]; rfl
  have c12 : IntKind.u64.wrap (q1 : Int) = (q1 : Int):=M6.wrapN _ (by omega)
  have m11 : (q1 : Int) * (p : Int) = (v1 : Int):=by rw [hv1]; simp
  have m12 : (q1 : Int) * (Y : Int) = (v1 : Int) * 4294967296:=by rw [hv1,hY]; simp [Int.mul_assoc]
  have m01 : (q0 : Int) * (p : Int) = (v0 : Int):=by rw [hv0]; simp
  have m02 : (q0 : Int) * (Y : Int) = (v0 : Int) * 4294967296:=by rw [hv0,hY]; simp [Int.mul_assoc]
  have c13 : IntKind.u64.wrap ((q1 : Int) * (p : Int)) = (v1 : Int):=by rw [m11]; exact M6.wrapN _ (by omega)
  have c14 : (u : Int) - (v1 : Int) = (r1 : Int):=by omega
  have c14' : IntKind.u64.wrap ((u : Int) - (v1 : Int)) = (r1 : Int):=by rw [c14]; exact M6.wrapN _ (by omega)
  have g1 : decide ((4294967296 : Int) <= (q1 : Int)) = false:=decide_eq_false (by omega)
  have c15 : IntKind.u64.wrap ((q1 : Int) * 0) = 0:=by rw [Int.mul_zero]; rfl
  have c16 : IntKind.u64.wrap ((4294967296 : Int) * (r1 : Int)) = ((4294967296 * r1 : Nat) : Int):=by rw [show (4294967296 : Int) * (r1 : Int) = ((4294967296 * r1 : Nat) : Int) by simp]; exact M6.wrapN _ (by omega)
  obtain ⟨R4,hR4⟩ : ∃ R4,R4 = 4294967296 * r1:=⟨_,rfl⟩
  rw [<- hR4] at c16
  have c17 : IntKind.u64.wrap ((R4 : Int) + (m1 : Int)) = (X : Int):=by rw [show (R4 : Int) + (m1 : Int) = (X : Int) by omega]; exact M6.wrapN _ (by omega)
  have g2 : decide ((X : Int) < 0) = false:=decide_eq_false (by omega)
  obtain ⟨a,ha⟩ : ∃ a : Nat,a = u * 4294967296 % 18446744073709551616:=⟨_,rfl⟩
  obtain ⟨b,hb⟩ : ∃ b : Nat,b = (a + m1) % 18446744073709551616:=⟨_,rfl⟩
  obtain ⟨c,hc⟩ : ∃ c : Nat,c = v1 * 4294967296 % 18446744073709551616:=⟨_,rfl⟩
  have c18 : IntKind.u64.wrap ((u : Int) * 4294967296) = (a : Int):=by rw [IntKind.wrap_u64]; omega
  have c19 : IntKind.u64.wrap ((a : Int) + (m1 : Int)) = (b : Int):=by rw [IntKind.wrap_u64]; omega
  have c20 : IntKind.u64.wrap ((q1 : Int) * (Y : Int)) = (c : Int):=by rw [m12,IntKind.wrap_u64]; omega
  have c21 : IntKind.u64.wrap ((b : Int) - (c : Int)) = (X : Int):=by rw [IntKind.wrap_u64]; omega
  have c22 : Int.tdiv (X : Int) (p : Int) = (q0 : Int):=by rw [Int.tdiv_eq_ediv_of_nonneg (by omega),<- f14,<- hX]; rfl
  have c23 : IntKind.u64.wrap (q0 : Int) = (q0 : Int):=M6.wrapN _ (by omega)
  have c24 : IntKind.u64.wrap ((q0 : Int) * (p : Int)) = (v0 : Int):=by rw [m01]; exact M6.wrapN _ (by omega)
  have c25 : (X : Int) - (v0 : Int) = (r0 : Int):=by omega
  have c25' : IntKind.u64.wrap ((X : Int) - (v0 : Int)) = (r0 : Int):=by rw [c25]; exact M6.wrapN _ (by omega)
  have g3 : decide ((4294967296 : Int) <= (q0 : Int)) = false:=decide_eq_false (by omega)
  have c26 : IntKind.u64.wrap ((q0 : Int) * 0) = 0:=by rw [Int.mul_zero]; rfl
  obtain ⟨R5,hR5⟩ : ∃ R5,R5 = 4294967296 * r0:=⟨_,rfl⟩
  have c27 : IntKind.u64.wrap ((4294967296 : Int) * (r0 : Int)) = (R5 : Int):=by rw [show (4294967296 : Int) * (r0 : Int) = ((4294967296 * r0 : Nat) : Int) by simp,<- hR5]; exact M6.wrapN _ (by omega)
  have c28 : IntKind.u64.wrap ((R5 : Int) + (m0 : Int)) = (Z : Int):=by rw [show (R5 : Int) + (m0 : Int) = (Z : Int) by omega]; exact M6.wrapN _ (by omega)
  have g4 : decide ((Z : Int) < 0) = false:=decide_eq_false (by omega)
  obtain ⟨Q1,hQ1⟩ : ∃ Q1,Q1 = q1 * 4294967296:=⟨_,rfl⟩
  have c29 : IntKind.u64.wrap ((q1 : Int) * 4294967296) = (Q1 : Int):=by rw [show (q1 : Int) * 4294967296 = ((q1 * 4294967296 : Nat) : Int) by simp,<- hQ1]; exact M6.wrapN _ (by omega)
  have c30 : IntKind.u64.wrap ((Q1 : Int) + (q0 : Int)) = (QQ : Int):=by rw [show (Q1 : Int) + (q0 : Int) = (QQ : Int) by omega]; exact M6.wrapN _ (by omega)
  obtain ⟨a2,ha2⟩ : ∃ a2 : Nat,a2 = X * 4294967296 % 18446744073709551616:=⟨_,rfl⟩
  obtain ⟨b2,hb2⟩ : ∃ b2 : Nat,b2 = (a2 + m0) % 18446744073709551616:=⟨_,rfl⟩
  obtain ⟨c2',hc2⟩ : ∃ c2' : Nat,c2' = v0 * 4294967296 % 18446744073709551616:=⟨_,rfl⟩
  have c31 : IntKind.u64.wrap ((X : Int) * 4294967296) = (a2 : Int):=by rw [IntKind.wrap_u64]; omega
  have c32 : IntKind.u64.wrap ((a2 : Int) + (m0 : Int)) = (b2 : Int):=by rw [IntKind.wrap_u64]; omega
  have c33 : IntKind.u64.wrap ((q0 : Int) * (Y : Int)) = (c2' : Int):=by rw [m02,IntKind.wrap_u64]; omega
  have c34 : IntKind.u64.wrap ((b2 : Int) - (c2' : Int)) = (Z : Int):=by rw [IntKind.wrap_u64]; omega
  obtain ⟨RR,hRR⟩ : ∃ RR,RR = Z / 2 ^ s:=⟨_,rfl⟩
  rw [<- hRR]
  have c35 : (Z : Int) / 2 ^ s = (RR : Int):=by rw [hRR]; simp
  have pz : ((p : Int) == 0) = false:=by simp; omega
  have pz1 : ¬ ((p : Int) = 0):=by omega
  clear hp hs hl1 hl2 hl3 hyp f1 f2 f3 f4 f5 f6 f7 f8 f9 f10 f11 f12 f13 f14 f15 f16 f17 hY hL hH1 hL1 hv1 hv0 hX hZ hQQ m11 m12 m01 m02 ha hb hc hR4 hR5 hQ1 ha2 hb2 hc2 hRR hyb hlo hy2
  go_enter Tryz.func252,Tryz.ntmps252
  go_wp2_with (refine (HZ.out _).mono ?_; rintro e w1 ⟨rfl,rfl⟩)
  refine wp_loop_rounds 1 ?_
  rw [rounds_succ]
  go_wp2_with fail
  refine wp_loop_rounds 1 ?_
  rw [rounds_succ]
  go_wp2
  go_ret2
  exact ⟨rfl,Below.refl _ _⟩
end
end Go.Proofs.YtnpanpkahbcecaaGreatDoor

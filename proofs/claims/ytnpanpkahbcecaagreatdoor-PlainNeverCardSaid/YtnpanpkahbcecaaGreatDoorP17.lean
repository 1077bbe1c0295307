/-
Walks: big's Lsh.
-/
import Derived.Test.YtnpanpkahbcecaaGreatDoorP15
import Derived.Laws.AppendOwnNone
import Derived.Lib.Hide
set_option linter.unusedVariables false
set_option linter.unusedSimpArgs false
namespace Go.Proofs.YtnpanpkahbcecaaGreatDoor
section
open Go.RowKit
set_option maxRecDepth 100000 in
set_option maxHeartbeats 2000000 in
theorem bclone_any (A : Option Addr) (n c : Nat) (l : List Int) (w : World) (hn : n <= 100000000) (hu : U w A n c l) :
  Calls Tryz.prog 236 #[.slice A n c] w fun e w'=>∃ A' c',e = .returned (.slice A' n c') /\ U w' A' n c' l /\ c' <= 9223372036854775807 /\ Below w.heap.size w w':=by
 obtain ⟨i0,hi0,hz0,hz1,hz2⟩:=info_parts u64_info
 have en1 : ∀ (w : World),(binOp .eql 66 (.slice none 0 0) (.slice none 0 0)).run Tryz.prog w = .ok (.bool true) w:=fun _=>rfl
 have en2 : ∀ (w : World) (a : Addr) (n c : Nat),(binOp .eql 66 (.slice (some a) n c) (.slice none 0 0)).run Tryz.prog w = .ok (.bool false) w:=fun _ _ _ _=>rfl
 rcases A with _ | ad
 ·obtain rfl : c = 0:=hu.2.2.1 rfl
  obtain rfl : n = 0:=by have:=hu.2.1; omega
  obtain rfl : l = []:=List.eq_nil_of_length_eq_zero hu.1
  clear hu
  go_enter Tryz.func236,Tryz.ntmps236
  go_wp2
  go_ret
  exact ⟨_,_,rfl,⟨rfl,Nat.le_refl _,fun _=>rfl,fun k x hk=>by simp at hk⟩,by decide,Below.refl _ _⟩
 ·have HL : Hid ((l.map (Value.int .u64)).length = n * 1):=Hd (by rw [List.length_map,Nat.mul_one]; exact hu.1)
  have HC : Hid (∀ j u,(l.map (Value.int .u64))[j]? = some u -> (w.alloc (.cells #[] 105)).cell? (ad.add j) = some u):=Hd (fun j u hj=>by
   rw [List.getElem?_map] at hj
   obtain ⟨x,hx,rfl⟩:=Option.map_eq_some_iff.1 hj
   obtain ⟨ad2,e2,_,hc2⟩:=(hu.below ((Below.refl w.heap.size w).alloc (Nat.le_refl _) (.cells #[] 105))).2.2.2 j x hx
   obtain rfl:=Option.some.inj e2
   exact hc2)
  have H1 : Hid (∀ u ∈ l.map (Value.int .u64),u.oneCell' = true):=Hd (fun u hu=>by obtain ⟨x,_,rfl⟩:=List.mem_map.1 hu; rfl)
  have HNIL : Hid ((w.alloc (.cells #[] 105)).ownsRow w.heap.size 105 1 (.slice (some ⟨w.heap.size,0,none⟩) 0 0) 0 []):=Hd ⟨by simp,.inr ⟨w.heap.size,0,#[],rfl,Nat.le_refl _,(by show (w.heap.push _)[w.heap.size]? = _; simp),by simp,by simp [maxLen],by simp,by simp⟩⟩
  have HB1:=Hd ((Below.refl w.heap.size w).alloc (Nat.le_refl _) (.cells #[] 105))
  generalize hlv : l.map (Value.int .u64) = lv at *
  have HLV:=Hd hlv
  clear hu hlv
  go_enter Tryz.func236,Tryz.ntmps236
  go_wp2_with (at_builtin; refine wpList_append_own _ rfl (.tmp 5) (.tmp 6) _ rfl w.heap.size 105 i0 _ 1 8 Tryz.underlying66 hi0 hz0 hz1 hz2 rfl (Nat.le_refl 1) (.slice (some ⟨w.heap.size,0,none⟩) 0 0) 0 [] rfl HNIL.out ad n c lv rfl HL.out HC.out H1.out (by simp only [maxLen]; omega) (by omega) (by simp) ?_; intro v' w3 hown hg _)
  rw [Nat.zero_add,List.nil_append] at hown
  have HO:=Hd hown
  have HB:=Hd (HB1.out.grown hg HB1.out.size (fun k hk=>by cases hk; exact Nat.le_refl _))
  rw [<- HLV.out] at hown
  obtain ⟨A',c',hv,hu'⟩:=U.of_own hown
  have hcap : c' <= 9223372036854775807:=by
   rcases hown.2 with ⟨h,_⟩ | ⟨g',cap',cur,h,_,_,_,hm,_⟩
   ·rw [hv] at h; injection h with _ _ h3; omega
   ·rw [hv] at h; injection h with _ _ h3; simp only [maxLen] at hm; omega
  subst hv
  have HU:=Hd hu'
  clear hown hg hu'
  go_wp2
  go_ret
  exact ⟨_,_,rfl,HU.out,hcap,HB.out⟩
end
section
open Go.RowKit
def Ld (w : World) (gx : Nat) (s : Bool) (A : Option Addr) (n c : Nat) (x : World) : Prop:=Below w.heap.size w x /\ x.cell? ⟨gx,0,none⟩ = some (.bool s) /\ x.cell? ⟨gx,1,none⟩ = some (.slice A n c)
theorem Ld.of {w : World} {gx : Nat} {s : Bool} {A : Option Addr} {n c : Nat} (h : w.cell? ⟨gx,0,none⟩ = some (.bool s) /\ w.cell? ⟨gx,1,none⟩ = some (.slice A n c)) (hl : gx < w.heap.size) {x : World} (hb : Below w.heap.size w x) : Ld w gx s A n c x :=
 ⟨hb,(hb.cell (p:=⟨gx,0,none⟩) hl).trans h.1,(hb.cell (p:=⟨gx,1,none⟩) hl).trans h.2⟩
set_option maxRecDepth 100000 in
theorem blsh_any (g gx : Nat) (z0 z : Int) (N : Nat) (w : World) (hg : BI w g z0) (hx : BI w gx z) (hN : N <= 100000) (hb : 2 ^ N * z.natAbs < BL) :
  Calls Tryz.prog 227 #[.pointer (some ⟨g,0,none⟩),.pointer (some ⟨gx,0,none⟩),.int .u64 N] w (RPost g (2 ^ N * z) w):=by
 obtain ⟨A,n,c,⟨h1,h2⟩,_,h5,h6⟩:=id hx
 have HE : Hid (sgnI (decide (z < 0)) (2 ^ N * z.natAbs) = 2 ^ N * z):=Hd (by
  have h:=sgnI_self z
  have e : sgnI (decide (z < 0)) (2 ^ N * z.natAbs) = 2 ^ N * sgnI (decide (z < 0)) z.natAbs:=by unfold sgnI; split <;> simp [Int.mul_neg]
  rw [e,h])
 have HL:=Hd (fun x (h : Below w.heap.size w x)=>bleft_any A n c z.natAbs N x (h5.below h) hN hb)
 have HP:=Hd (fun x (A' : Option Addr) (n' c' : Nat) (h : Below w.heap.size w x) (hu : NU x A' n' c' (2 ^ N * z.natAbs))=>(bput_any g z0 (decide (z < 0)) A' n' c' _ x (hg.below h) hu).mono fun e w' hr=>RPost.after h hr)
 have HO:=Hd (fun x (h : Below w.heap.size w x)=>Ld.of ⟨h1,h2⟩ h6 h)
 obtain ⟨s,hs⟩ : ∃ s,s = decide (z < 0):=⟨_,rfl⟩
 rw [<- hs] at h1 HP HO HE
 clear hg hx hb hN h5 hs
 go_enter Tryz.func227,Tryz.ntmps227
 go_wp2_with fail
 go_region_with (first
  | (go_at_call 242; refine (HL.out _ ?_).mono ?_; (exact below_drew (Below.refl _ _)); rintro e w1 ⟨A1,n1,c1,rfl,hu,hb1⟩; have HB1:=Hd ((below_drew (Below.refl w.heap.size w)).trans hb1); have HU1:=Hd hu; obtain ⟨_,k1,k2⟩:=HO.out _ HB1.out; clear hu hb1)
  | (go_at_call 74; refine (HP.out _ _ _ _ ?_ ?_).mono ?_; (exact HB1.out); (exact HU1.out); rintro e w2 hr; have HR:=Hd hr; obtain ⟨rfl,_,_⟩:=hr))
 all_goals
  go_wp2
  go_ret
  have h:=HR.out
  rw [HE.out] at h
  exact h
end
end Go.Proofs.YtnpanpkahbcecaaGreatDoor

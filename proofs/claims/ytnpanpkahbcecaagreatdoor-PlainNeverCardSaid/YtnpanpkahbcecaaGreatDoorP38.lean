/-
Wheels of all orders out of one octant's words: closed checks by whole numbers.
-/
import Derived.Test.YtnpanpkahbcecaaGreatDoorP37
import Derived.Lib.Hide
set_option linter.unusedVariables false
set_option linter.unusedSimpArgs false
namespace Go.Proofs.YtnpanpkahbcecaaGreatDoor
section
open Go.RowKit
def cf1 (K : Nat) : Nat:=(Fl.mulS (rC K) (rS K) true).getD 0
def cf2 (K a : Nat) : Nat:=(Fl.mulS (cf1 K) a true).getD 0
def cf3 (K a b : Nat) : Nat:=(Fl.mulS (cf2 K a) b true).getD 0
def bf (K a b : Nat) : Nat:=(Fl.addS (cf3 K a b) 103582791429521408 true).getD 0
def ClosedR (K a b : Nat) : Prop:=Fl.mulS (rC K) (rS K) true = some (cf1 K) /\ Fl.mulS (cf1 K) a true = some (cf2 K a) /\ Fl.mulS (cf2 K a) b true = some (cf3 K a b) /\ Fl.addS (cf3 K a b) 103582791429521408 true = some (bf K a b)
theorem chain_closed {o : Option Nat} {m2 m3 m4 : Nat -> Option Nat} {s c1 c2 c3 c4 : Nat} (h : ∃ u1 u2 u3,Fl.Is o u1 /\ Fl.Is (m2 u1) u2 /\ Fl.Is (m3 u2) u3 /\ Fl.Is (m4 u3) s) (h1 : o = some c1) (h2 : m2 c1 = some c2) (h3 : m3 c2 = some c3) (h4 : m4 c3 = some c4) : s = c4:=by
 obtain ⟨u1,u2,u3,g1,g2,g3,g4⟩:=h
 have e1:=Is_some g1 h1
 subst e1
 have e2:=Is_some g2 h2
 subst e2
 have e3:=Is_some g3 h3
 subst e3
 exact Is_some g4 h4
theorem ringis_closed {K a b s : Nat} (h : RingIs K a b s) (hc : ClosedR K a b) : s = bf K a b :=
 chain_closed (o:=Fl.mulS (rC K) (rS K) true) (m2:=fun u=>Fl.mulS u a true) (m3:=fun u=>Fl.mulS u b true) (m4:=fun u=>Fl.addS u 103582791429521408 true) h hc.1 hc.2.1 hc.2.2.1 hc.2.2.2
theorem bound_told (K n : Nat) (A B : Option Addr) (c c' : Nat) (a b : List Int) (w : World) (hK : K <= 14) (hn : n = 2 ^ K) (ha : UL w A n c a) (hb : UL w B n c' b) (oa : okL a) (ob : okL b) (hT : TabAt 2 Lib.deBruijn64tab w) :
  Calls Tryz.prog 86 #[.slice A n c,.slice B n c'] w fun e w'=>∃ s,e = .returned (.tuple #[.float .f64 s,.int .i64 0]) /\ RingQ K (floatOfInt .f64 (mxL a)) (floatOfInt .f64 (mxL b)) s 0 /\ RingIs K (floatOfInt .f64 (mxL a)) (floatOfInt .f64 (mxL b)) s /\ Below w.heap.size w w':=by
 have h2 : 2 ^ K <= 2 ^ 14:=Nat.pow_le_pow_right (by decide) hK
 refine (rbound_any A B n n c c' a b w (by omega) ha hb hT (mx_sz oa).facts.1 (mx_sz ob).facts.1).mono ?_
 rintro e w' (⟨h,_⟩ | ⟨_,h,_⟩ | ⟨_,_,K',hK',hn',_,h⟩)
 ·exact absurd ⟨K,hK,hn,rfl⟩ h
 ·exact absurd ⟨oa,ob⟩ h
 ·have e1 : 2 ^ K' = 2 ^ K:=by rw [<- hn',hn]
  have e : K' = K:=by
   rcases Nat.lt_trichotomy K' K with h5 | h5 | h5
   ·have:=Nat.pow_lt_pow_right (show 1 < 2 by decide) h5; omega
   ·exact h5
   ·have:=Nat.pow_lt_pow_right (show 1 < 2 by decide) h5; omega
  rw [e] at h
  exact ring_told hK (mx_sz oa) (mx_sz ob) h
theorem bound_closed (K n f fa fb : Nat) (A B : Option Addr) (c c' : Nat) (a b : List Int) (w : World) (hK : K <= 14) (hn : n = 2 ^ K) (ha : UL w A n c a) (hb : UL w B n c' b) (oa : okL a) (ob : okL b) (hT : TabAt 2 Lib.deBruijn64tab w)
  (h1 : floatOfInt .f64 (mxL a) = fa) (h2 : floatOfInt .f64 (mxL b) = fb) (hf : ClosedR K fa fb) (hff : bf K fa fb = f) :
  Calls Tryz.prog 86 #[.slice A n c,.slice B n c'] w fun e w'=>e = .returned (.tuple #[.float .f64 f,.int .i64 0]) /\ Below w.heap.size w w':=by
 refine (bound_told K n A B c c' a b w hK hn ha hb oa ob hT).mono ?_
 rintro e w' ⟨s,h3,_,h4,h5⟩
 rw [h1,h2] at h4
 rw [ringis_closed h4 hf,hff] at h3
 exact ⟨h3,h5⟩
theorem UL_new (w : World) (l : List Int) (t : TypeId) : UL (w.alloc (.cells (l.map (Value.int .i64)).toArray t)) (some ⟨w.heap.size,0,none⟩) l.length l.length l:=by
 refine ⟨rfl,Nat.le_refl _,fun h=>(by cases h),fun j x hj=>⟨_,rfl,alloc_lt w _,?_⟩⟩
 rw [cell_new]
 simp [hj]
theorem LRow.u {w : World} {base g n : Nat} {l : List Int} (h : LRow w base g n l) : UL w (some ⟨g,0,none⟩) n n l:=by
 obtain ⟨A,c,h1,h2⟩:=UL.of_own h
 injection h1 with e1 e2 e3
 subst e1 e3
 exact h2
end
section
open Fl
open Ieee
theorem DirW.le_up {n : Int} {d w : Nat} (h : DirW true n d w) (hn : 0 <= n) (hw : rg w < I) : n <= vl w * 2 ^ d:=by
 have h0:=h.nonneg hn
 have hk:=key_pos_rg h0
 obtain ⟨_,k,h1,h2⟩:=h
 unfold Dir at h1
 rw [if_pos rfl] at h1
 have hI : (0 : Int) < (I : Int):=by decide
 have e : k = key w:=by
  unfold clamp at h2
  rw [if_pos rfl] at h2
  rw [hk] at h2
  have hw' : (rg w : Int) < (I : Int):=by omega
  have hV : 0 <= V k:=by
   have:=Int.le_trans hn h1.1
   rcases Int.lt_or_le (V k) 0 with h | h
   ·have:=Int.mul_neg_of_neg_of_pos h (pow_pos_int d); omega
   ·exact h
  have hk0 : 0 <= k:=by rw [<- V_zero] at hV; exact V_le_iff.1 hV
  rw [hk]
  generalize (I : Int) = i at *
  omega
 rw [vl_key,<- e]
 exact h1.1
theorem two_E : ((2 : Int) ^ E : Int) = (Fl.U : Int):=by rw [Fl.U_def]; simp
theorem up_fv {x y s : Nat} (hx : Pos x) (hy : Pos y) (h : Is (mulS x y true) s) (hs : rg s < I) : fv x * fv y <= fv s:=by
 have h1:=DirW.le_up (mul_dir hx hy h) (Int.mul_nonneg hx.vl hy.vl) hs
 rw [two_E] at h1
 have h2 : ((vl x * vl y : Int) : Rat) <= ((vl s * (Fl.U : Int) : Int) : Rat):=Rat.intCast_le_intCast.2 h1
 rw [Rat.intCast_mul,Rat.intCast_mul,Rat.intCast_natCast] at h2
 have pe:=eta_pos
 have hU:=one_U
 have h3:=Rat.mul_le_mul_of_nonneg_right (Rat.mul_le_mul_of_nonneg_right h2 (Rat.le_of_lt pe)) (Rat.le_of_lt pe)
 unfold fv
 have e3 : (vl s : Rat) * ((Fl.U : Nat) : Rat) * eta * eta = (vl s : Rat) * eta:=by rw [Rat.mul_assoc (vl s : Rat) _ eta,hU,Rat.mul_one]
 rw [e3] at h3
 have e : (vl x : Rat) * eta * ((vl y : Rat) * eta) = (vl x : Rat) * (vl y : Rat) * eta * eta:=by grind
 rw [e]; exact h3
theorem fv_le {x y : Nat} (h : vl x <= vl y) : fv x <= fv y:=by
 unfold fv
 exact Rat.mul_le_mul_of_nonneg_right (Rat.intCast_le_intCast.2 h) (Rat.le_of_lt eta_pos)
theorem closed_c : ∀ k : Fin 15,(vl (rC k.val) : Rat) * pw 53 = 16 * ((k.val : Rat) + 1) * pw k.val * pw 1074:=by decide +kernel
theorem closed_s : ∀ k : Fin 15,pw k.val * (pw 1074 * pw 1074) <= (vl (rS k.val) : Rat) * (vl (rS k.val) : Rat):=by decide +kernel
theorem closed_q : 4 * (vl 4598175219545276416 : Rat) = pw 1074:=by decide +kernel
theorem prem_of {K fa fb s : Nat} {ma mb : Int} (hK : K <= 14) (a0 : 0 <= ma) (a1 : ma <= 9007199254740992) (b0 : 0 <= mb) (b1 : mb <= 9007199254740992) (ea : fa = floatOfInt .f64 ma) (eb : fb = floatOfInt .f64 mb) (h : RingIs K fa fb s)
  (hlt : (FloatKind.f64.format.order s 4598175219545276416 == some Ordering.lt) = true) :
  4096 * (((K : Rat) + 1) * ((K : Rat) + 1)) * (pw K * pw K * pw K * (((ma : Rat) * (ma : Rat)) * ((mb : Rat) * (mb : Rat)))) < pw 106:=by
 obtain ⟨sa,va⟩:=int_sz ma a0 a1
 obtain ⟨sb,vb⟩:=int_sz mb b0 b1
 rw [<- ea] at sa va
 rw [<- eb] at sb vb
 have fa':=fv_of_vl va
 have fb':=fv_of_vl vb
 have hf:=h.fin hK sa sb
 obtain ⟨u1,u2,u3,h1,h2,h3,h4⟩:=h
 obtain ⟨p1,p2,p3,w3,k3⟩:=ring_chain hK sa sb h1 h2 h3
 obtain ⟨_,_,_,_,c1,c2,_,s1,s2,_,_,_⟩:=fac_at K hK
 have g1:=up_fv ⟨c1,c2⟩ ⟨s1,s2⟩ h1 p1.1
 have g2:=up_fv p1 sa.facts.2.2.2.1 h2 p2.1
 have g3:=up_fv p2 sb.facts.2.2.2.1 h3 p3.1
 have g4 : fv u3 <= fv s:=by
  have hl:=add_dir w3 (by decide) p3 least_pos h4
  have hs : rg s < I:=by have:=hf.2.1; have : 0 < B:=by decide
                         omega
  have h5:=DirW.le_up hl (by have:=p3.vl; have:=least_pos.vl; omega) hs
  refine fv_le ?_
  have:=least_pos.vl
  rw [Int.pow_zero,Int.mul_one] at h5
  omega
 have g5 : fv s < 1 / 4:=by
  have ho:=eq_of_beq hlt
  have hsI : rg s <= I:=Nat.le_of_lt hf.1.1
  have hk : key s < key 4598175219545276416:=by
   have h6:=order_key s 4598175219545276416 hsI (by decide)
   have h7 : double.order s 4598175219545276416 = some Ordering.lt:=ho
   rw [h6,compare_int] at h7
   split at h7
   ·assumption
   ·split at h7 <;> cases h7
  have hv : vl s < vl 4598175219545276416:=by
   rcases Int.lt_or_le (vl s) (vl 4598175219545276416) with h | h
   ·exact h
   ·have:=vl_le.1 h; omega
  have h8 : (vl s : Rat) < (vl 4598175219545276416 : Rat):=Rat.intCast_lt_intCast.2 hv
  have h9:=Rat.mul_lt_mul_of_pos_right h8 eta_pos
  have hq:=closed_q
  have h1:=eta_one
  unfold fv
  generalize (vl 4598175219545276416 : Rat) = q at *
  generalize (vl s : Rat) = v at *
  generalize pw 1074 = P at *
  have e : q * eta = 1 / 4:=by
   have : 4 * (q * eta) = 1:=by rw [<- Rat.mul_assoc,hq,Rat.mul_comm]; exact h1
   grind
  rw [e] at h9
  exact h9
 rw [fa'] at g2
 rw [fb'] at g3
 have pma : (0 : Rat) <= (ma : Rat):=Rat.intCast_nonneg.2 a0
 have pmb : (0 : Rat) <= (mb : Rat):=Rat.intCast_nonneg.2 b0
 have hc:=closed_c ⟨K,by omega⟩
 have hs:=closed_s ⟨K,by omega⟩
 simp only at hc hs
 have h1e:=eta_one
 have pe:=eta_pos
 obtain ⟨c,hcc⟩ : ∃ c,c = fv (rC K):=⟨_,rfl⟩
 obtain ⟨S,hSS⟩ : ∃ S,S = fv (rS K):=⟨_,rfl⟩
 rw [<- hcc,<- hSS] at g1
 have ec : c * pw 53 = 16 * ((K : Rat) + 1) * pw K:=by
  rw [hcc]
  unfold fv
  generalize (vl (rC K) : Rat) = v at *
  have h6 : v * pw 53 * eta = 16 * ((K : Rat) + 1) * pw K * pw 1074 * eta:=by rw [hc]
  rw [Rat.mul_assoc _ (pw 1074) eta,Rat.mul_comm (pw 1074) eta,h1e,Rat.mul_one] at h6
  rw [<- h6]
  generalize pw 53 = p53
  grind
 have eS : pw K <= S * S:=by
  rw [hSS]
  unfold fv
  generalize (vl (rS K) : Rat) = v at *
  have h6:=Rat.mul_le_mul_of_nonneg_right hs (Rat.mul_nonneg (Rat.le_of_lt pe) (Rat.le_of_lt pe))
  have e : pw K * (pw 1074 * pw 1074) * (eta * eta) = pw K * ((eta * pw 1074) * (eta * pw 1074)):=by
   generalize pw 1074 = P
   grind
  rw [e,h1e,Rat.mul_one,Rat.mul_one] at h6
  have e2 : v * eta * (v * eta) = v * v * (eta * eta):=by grind
  rw [e2]; exact h6
 have pS : 0 <= S:=by
  rw [hSS]; unfold fv
  exact Rat.mul_nonneg (Rat.intCast_nonneg.2 (show Pos (rS K) from ⟨s1,s2⟩).vl) (Rat.le_of_lt pe)
 have pc : 0 <= c:=by
  rw [hcc]; unfold fv
  exact Rat.mul_nonneg (Rat.intCast_nonneg.2 (show Pos (rC K) from ⟨c1,c2⟩).vl) (Rat.le_of_lt pe)
 -- c S ma mb < 1/4
 have q1:=Rat.mul_le_mul_of_nonneg_right g1 pma
 have q2:=Rat.mul_le_mul_of_nonneg_right (Rat.le_trans q1 g2) pmb
 have q3 : c * S * (ma : Rat) * (mb : Rat) < 1 / 4:=by
  have:=Rat.le_trans q2 (Rat.le_trans g3 g4)
  generalize c * S * (ma : Rat) * (mb : Rat) = t at *
  grind
 generalize (ma : Rat) = A at *
 generalize (mb : Rat) = D at *
 clear g1 g2 g3 g4 g5 q1 q2 hc hs hcc hSS h1 h2 h3 h4 hf fa' fb' va vb sa sb
 have pT : 0 <= c * S * A * D:=Rat.mul_nonneg (Rat.mul_nonneg (Rat.mul_nonneg pc pS) pma) pmb
 have q4 : c * S * A * D * (c * S * A * D) < 1 / 16:=by
  have h:=rmul_le (Rat.le_of_lt q3) pT
  grind
 have pX : 0 <= c * c * (A * A * (D * D)):=Rat.mul_nonneg (sq_nonneg c) (Rat.mul_nonneg (sq_nonneg A) (sq_nonneg D))
 have q5:=rmul_le eS pX
 have q6 : c * c * (A * A * (D * D)) * pw K < 1 / 16:=by
  have e : c * S * A * D * (c * S * A * D) = c * c * (A * A * (D * D)) * (S * S):=by grind
  rw [e] at q4
  grind
 have p106 : pw 106 = pw 53 * pw 53:=by rw [<- pw_add]
 have q7:=Rat.mul_lt_mul_of_pos_right q6 (show 0 < pw 53 * pw 53 from Rat.mul_pos (pw_pos 53) (pw_pos 53))
 rw [p106]
 generalize pw 53 = p at *
 generalize pw K = k at *
 generalize (K : Rat) = kk at *
 have e : c * c * (A * A * (D * D)) * k * (p * p) = (c * p) * (c * p) * (A * A * (D * D)) * k:=by grind
 rw [e,ec] at q7
 grind
end
section
open Cx (n2)
open Fl
open Ieee
def whSC (P K : Nat) (l : List (Nat × Nat)) : Bool:=decide (l.length = 2 ^ K) && (List.range (2 ^ K)).all fun i=>An.rootM P K i == l[i]?
theorem whS_of {P K : Nat} {l : List (Nat × Nat)} (hK : K <= 2) (h : whSC P K l = true) : Whl P K l:=by
 unfold whSC at h
 rw [Bool.and_eq_true,decide_eq_true_eq] at h
 exact .inl ⟨hK,h.1,fun i hi=>eq_of_beq (List.all_eq_true.1 h.2 i (List.mem_range.2 hi))⟩
theorem all_v {l : List (Nat × Nat)} (h : (l.all fun z=>decide (z.2 < 2 * W)) = true) : ∀ z ∈ l,z.2 < 2 * Fl.W:=fun z hz=>of_decide_eq_true (List.all_eq_true.1 h z hz)
theorem cjW_conj {z : Nat × Nat} (h : cok z) : cok (cjW z) /\ cval (cjW z) = Cx.conj (cval z):=by
 obtain ⟨h1,h2⟩:=fv_ng h.2
 refine ⟨⟨h.1,h2⟩,?_⟩
 unfold cval cjW Cx.conj
 simp only
 rw [h1]
theorem n2_conj (z : Cx) : n2 (Cx.conj z) = n2 z:=by simp only [n2,Cx.conj]; grind
theorem sub_conj (a b : Cx) : Cx.sub (Cx.conj a) (Cx.conj b) = Cx.conj (Cx.sub a b):=by apply Cx.ext <;> simp only [Cx.sub,Cx.conj] <;> grind
theorem roots_both {K : Nat} {g : Int × Int} {l : List (Nat × Nat)} {P : Nat} (hK : 1 <= K) (G : Gen g (2 ^ (K - 1))) (hl : Whl P K l) (hc : chkL g (pw 1074) (halfL K l) (cT g 0) = true) :
  RootsOk (wW K (halfL K l)) (lev (RT g (2 ^ (K - 1))) K) K /\ RootsOk (wW K ((halfL K l).map cjW)) (lev (cj (RT g (2 ^ (K - 1)))) K) K:=by
 have hp : 2 ^ K = 2 * 2 ^ (K - 1):=by rw [<- Nat.pow_succ']; congr 1; omega
 have h1:=Nat.two_pow_pos (K - 1)
 have hln : (halfL K l).length = 2 ^ (K - 1):=by
  unfold halfL hlen
  rw [List.length_take,whl_len hl]
  omega
 have hlen' : (halfL K l).length = hlen K:=by rw [hln]; unfold hlen; omega
 have key : ∀ k j,k < K -> j < 2 ^ k -> cok (wW K (halfL K l) k j) /\ n2 (cval (wW K (halfL K l) k j)) <= omF * omF /\ n2 (Cx.sub (cval (wW K (halfL K l) k j)) (lev (RT g (2 ^ (K - 1))) K k j)) <= rhoF * rhoF:=fun k j hk hj=>by
  have h:=roots_of G hln hc (hf:=fun i=>(halfL K l).getD i (0,0)) (fun i w hw=>by simp only [List.getD_eq_getElem?_getD]; rw [hw]; rfl) k j hk hj
  unfold wW
  rw [show K - (k + 1) = K - 1 - k by omega]
  exact h
 have conj : ∀ k j,k < K -> j < 2 ^ k -> wW K ((halfL K l).map cjW) k j = cjW (wW K (halfL K l) k j):=fun k j hk hj=>by
  have e1:=wW_get K (halfL K l) hlen' k j hk hj
  have e2:=wW_get K ((halfL K l).map cjW) (by rw [List.length_map]; exact hlen') k j hk hj
  rw [List.getElem?_map,e1] at e2
  exact (Option.some.inj e2).symm
 refine ⟨⟨key,fun k j _ _=>RT_lev G k j⟩,⟨fun k j hk hj=>?_,fun k j _ _=>RT_levc G k j⟩⟩
 obtain ⟨a,b,c⟩:=key k j hk hj
 obtain ⟨q1,q2⟩:=cjW_conj a
 rw [conj k j hk hj]
 refine ⟨q1,by rw [q2,n2_conj]; exact b,?_⟩
 have e : lev (cj (RT g (2 ^ (K - 1)))) K k j = Cx.conj (lev (RT g (2 ^ (K - 1))) K k j):=rfl
 rw [q2,e,sub_conj,n2_conj]
 exact c
end
section
open Cx (n2)
open Fl
theorem net_congr {α : Type} (add sub mul : α -> α -> α) (W : Nat -> Nat -> α) : ∀ (k : Nat) (x y : Nat -> α),(∀ i,i < 2 ^ k -> x i = y i) -> ∀ j,j < 2 ^ k -> net add sub mul W k x j = net add sub mul W k y j
 | 0,x,y,h,j,hj=>by simp only [net]; exact h 0 (by decide)
 | k + 1,x,y,h,j,hj=>by
   have hp : 2 ^ (k + 1) = 2 * 2 ^ k:=Nat.pow_succ'
   have he:=net_congr add sub mul W k (ev x) (ev y) (fun i hi=>h (2 * i) (by omega))
   have ho:=net_congr add sub mul W k (od x) (od y) (fun i hi=>h (2 * i + 1) (by omega))
   simp only [net]
   split
   ·rename_i hlt; rw [he j hlt,ho j hlt]
   ·rename_i hlt; rw [he (j - 2 ^ k) (by omega),ho (j - 2 ^ k) (by omega)]
theorem allS_sum (x y : Nat -> Int) (n : Nat) : allS x y n = sumI n (fun p=>x p * y p):=by
 induction n with
 | zero=>rfl
 | succ n ih=>simp only [allS,sumI,ih]
theorem conv_cv (a b : List Int) (n i : Nat) : convI n (fun m=>a.getD m 0) (fun m=>b.getD m 0) i = cvI a b n i:=by
 unfold cvI convI
 rw [allS_sum]
theorem fold_ge : ∀ (l : List Int) (s : Int),s <= l.foldl (fun s x=>max (max s x) (-x)) s /\ ∀ x ∈ l,-(l.foldl (fun s x=>max (max s x) (-x)) s) <= x /\ x <= l.foldl (fun s x=>max (max s x) (-x)) s
 | [],s=>⟨Int.le_refl _,fun x hx=>by simp at hx⟩
 | y :: l,s=>by
   obtain ⟨h1,h2⟩:=fold_ge l (max (max s y) (-y))
   simp only [List.foldl_cons]
   refine ⟨by omega,fun x hx=>?_⟩
   rcases List.mem_cons.1 hx with rfl | hx
   ·omega
   ·exact h2 x hx
theorem mx_get (l : List Int) (i : Nat) (h0 : 0 <= mxL l) : -(mxL l) <= l.getD i 0 /\ l.getD i 0 <= mxL l:=by
 rw [List.getD_eq_getElem?_getD]
 cases h : l[i]? with
 | none=>simp; exact h0
 | some x=>exact (fold_ge l 0).2 x (List.mem_of_getElem? h)
theorem ab_get (l : List Int) (i : Nat) (h0 : 0 <= mxL l) : ab ((l.getD i 0 : Int) : Rat) <= ((mxL l : Int) : Rat):=by
 obtain ⟨h1,h2⟩:=mx_get l i h0
 have h3:=Rat.intCast_le_intCast.2 h1
 have h4:=Rat.intCast_le_intCast.2 h2
 rw [Rat.intCast_neg] at h3
 exact ab_of h4 (by grind)
def WhlOk (K : Nat) (l : List (Nat × Nat)) : Prop:=K = 0 \/ (1 <= K /\ ∃ g,Gen g (2 ^ (K - 1)) /\ RootsOk (wW K (halfL K l)) (lev (RT g (2 ^ (K - 1))) K) K /\ RootsOk (wW K ((halfL K l).map cjW)) (lev (cj (RT g (2 ^ (K - 1)))) K) K)
theorem cZ_net {K : Nat} {l : List (Nat × Nat)} {a b : List Int} {p : Nat} (hp : p < 2 ^ K) : cZ K l a b p = net cadd csub cmul (wW K ((halfL K l).map cjW)) K (fun j=>cmul (net cadd csub cmul (wW K (halfL K l)) K (fX a) j) (net cadd csub cmul (wW K (halfL K l)) K (fX b) j)) p:=by
 unfold cZ LV
 rw [lvl_all _ _ _ _ _ _ _ hp]
 refine net_congr _ _ _ _ K _ _ (fun i hi=>?_) p hp
 unfold cW cU LV
 rw [lvl_all _ _ _ _ _ _ _ hi,lvl_all _ _ _ _ _ _ _ hi]
theorem conds {K : Nat} {l : List (Nat × Nat)} {a b : List Int} (hK : K <= 14) (h : WhlOk K l) (oa : okL a) (ob : okL b) : CycOk K l a b:=by
 rcases h with rfl | ⟨_,g,_,h1,h2⟩
 ·exact cyc_ok (R:=fun _=>Cx.zero) (by omega) ⟨fun k j hk=>by omega,fun k j hk=>by omega⟩ ⟨fun k j hk=>by omega,fun k j hk=>by omega⟩ oa ob
 ·exact cyc_ok hK h1 h2 oa ob
theorem near_prod {K : Nat} {l : List (Nat × Nat)} {a b : List Int} (hK : K <= 14) (h : WhlOk K l) (oa : okL a) (ob : okL b)
  (prem : 4096 * (((K : Rat) + 1) * ((K : Rat) + 1)) * (pw K * pw K * pw K * ((((mxL a : Int) : Rat) * ((mxL a : Int) : Rat)) * (((mxL b : Int) : Rat) * ((mxL b : Int) : Rat)))) <= pw 106) (p : Nat) (hp : p < 2 ^ K) :
  ab (fv (cZ K l a b p).1 - pw K * ((cvI a b (2 ^ K) p : Int) : Rat)) <= pw K * (22 / 100):=by
 obtain ⟨a0,a1⟩:=mx_range oa
 obtain ⟨b0,b1⟩:=mx_range ob
 have e53 : pw 53 = ((9007199254740992 : Int) : Rat):=by decide +kernel
 have pa : (0 : Rat) <= ((mxL a : Int) : Rat):=Rat.intCast_nonneg.2 a0
 have pb : (0 : Rat) <= ((mxL b : Int) : Rat):=Rat.intCast_nonneg.2 b0
 have la : ((mxL a : Int) : Rat) <= pw 53:=by rw [e53]; exact Rat.intCast_le_intCast.2 a1
 have lb : ((mxL b : Int) : Rat) <= pw 53:=by rw [e53]; exact Rat.intCast_le_intCast.2 b1
 rcases h with rfl | ⟨hK1,g,G,h1,h2⟩
 ·obtain rfl : p = 0:=by simp at hp; exact hp
  have sqA : ((mxL a : Int) : Rat) * ((mxL a : Int) : Rat) <= pw 106:=by have h:=sq_le pa (Rat.le_of_lt (pw_pos 53)) la; rw [<- pw_add] at h; exact h
  have sqB : ((mxL b : Int) : Rat) * ((mxL b : Int) : Rat) <= pw 106:=by have h:=sq_le pb (Rat.le_of_lt (pw_pos 53)) lb; rw [<- pw_add] at h; exact h
  have nX : ∀ (a : List Int),okL a -> 0 <= mxL a -> ∀ i,n2 (cval (fX a i)) <= ((mxL a : Int) : Rat) * ((mxL a : Int) : Rat):=fun a oa a0 i=>by
   rw [(fx_ok oa i).2]
   have h:=sq_of_ab (ab_get a i a0)
   simp only [n2]
   grind
  have h:=round_off (K:=0) (R:=fun _=>Cx.zero) (W:=wW 0 (halfL 0 l)) (W2:=wW 0 ((halfL 0 l).map cjW)) (by omega) (fun k j hk=>by omega) (fun k j hk=>by omega) (fun k j hk=>by omega) (fun k j hk=>by omega) (fX a) (fX b) (fun i _=>(fx_ok oa i).1) (fun i _=>(fx_ok ob i).1)
   (sq_nonneg _) (sq_nonneg _) sqA sqB (fun i _=>nX a oa a0 i) (fun i _=>nX b ob b0 i) prem 0 (by decide)
  rw [cZ_net (by decide)]
  have hk:=(part_le (show 0 <= 21 / 100 * pw 0 by decide +kernel) h.2).1
  have e : netC (lev (cj fun _=>Cx.zero) 0) 0 (fun j=>Cx.mul (netC (lev (fun _=>Cx.zero) 0) 0 (fun i=>cval (fX a i)) j) (netC (lev (fun _=>Cx.zero) 0) 0 (fun i=>cval (fX b i)) j)) 0 = Cx.mul (cval (fX a 0)) (cval (fX b 0)):=rfl
  rw [e,(fx_ok oa 0).2,(fx_ok ob 0).2] at hk
  have ec : cvI a b (2 ^ 0) 0 = a.getD 0 0 * b.getD 0 0:=by
   unfold cvI
   simp [allS]
  rw [ec,Rat.intCast_mul]
  simp only [Cx.sub,Cx.mul] at hk
  have ep : pw 0 = 1:=rfl
  rw [ep] at hk ⊢
  have e3 : (((a.getD 0 0 : Int) : Rat) * ((b.getD 0 0 : Int) : Rat) - 0 * 0) = 1 * (((a.getD 0 0 : Int) : Rat) * ((b.getD 0 0 : Int) : Rat)):=by grind
  rw [e3] at hk
  have e4 : (cval (net cadd csub cmul (wW 0 ((halfL 0 l).map cjW)) 0 (fun j=>cmul (net cadd csub cmul (wW 0 (halfL 0 l)) 0 (fX a) j) (net cadd csub cmul (wW 0 (halfL 0 l)) 0 (fX b) j)) 0)).re = fv (net cadd csub cmul (wW 0 ((halfL 0 l).map cjW)) 0 (fun j=>cmul (net cadd csub cmul (wW 0 (halfL 0 l)) 0 (fX a) j) (net cadd csub cmul (wW 0 (halfL 0 l)) 0 (fX b) j)) 0).1:=rfl
  rw [e4] at hk
  refine Rat.le_trans hk ?_
  decide +kernel
 ·have hKK : 2 ^ K = 2 ^ (K - 1) + 2 ^ (K - 1):=by rw [<- Nat.two_mul,<- Nat.pow_succ']; congr 1; omega
  have h:=round_int hK (RT_tab G hKK) tC_ok (RT_conj G hKK) h1.1 h1.2 h2.1 h2.2 (fX a) (fX b) (fun i=>a.getD i 0) (fun i=>b.getD i 0) (fun i _=>fx_ok oa i) (fun i _=>fx_ok ob i)
   (fun i _=>ab_get a i a0) (fun i _=>ab_get b i b0) pa pb la lb prem p hp
  rw [conv_cv] at h
  rw [cZ_net hp]
  exact h.2
theorem sq_lt_of {a b : Rat} (hb : 0 <= b) (h : a * a < b * b) : a < b:=by
 by_cases h1 : a < b
 ·exact h1
 ·have h2 : b <= a:=by grind
  have:=sq_le hb (Rat.le_trans hb h2) h2
  grind
theorem size_small {K : Nat} {a b : List Int} (oa : okL a) (ob : okL b)
  (prem : 4096 * (((K : Rat) + 1) * ((K : Rat) + 1)) * (pw K * pw K * pw K * ((((mxL a : Int) : Rat) * ((mxL a : Int) : Rat)) * (((mxL b : Int) : Rat) * ((mxL b : Int) : Rat)))) < pw 106) :
  2 ^ K * ((mxL a).toNat * (mxL b).toNat) < 140737488355328:=by
 obtain ⟨a0,a1⟩:=mx_range oa
 obtain ⟨b0,b1⟩:=mx_range ob
 obtain ⟨A,hA⟩:=Int.eq_ofNat_of_zero_le a0
 obtain ⟨D,hD⟩:=Int.eq_ofNat_of_zero_le b0
 rw [hA,hD,Int.toNat_natCast,Int.toNat_natCast]
 have pK:=pw_pos K
 have p1:=pw_one K
 refine Rat.natCast_lt_natCast.1 ?_
 rw [Rat.natCast_mul,Rat.natCast_mul,pw_cast]
 rw [hA,hD,Rat.intCast_natCast,Rat.intCast_natCast] at prem
 have pA : (0 : Rat) <= (A : Rat):=Rat.natCast_nonneg
 have pD : (0 : Rat) <= (D : Rat):=Rat.natCast_nonneg
 have pk : (0 : Rat) <= (K : Rat):=Rat.natCast_nonneg
 have e47 : ((140737488355328 : Nat) : Rat) = 140737488355328:=rfl
 have e106 : pw 106 = 81129638414606681695789005144064:=by decide +kernel
 rw [e47]
 rw [e106] at prem
 refine sq_lt_of (by decide) ?_
 generalize (A : Rat) = x at *
 generalize (D : Rat) = y at *
 generalize pw K = k at *
 generalize (K : Rat) = c at *
 have pX : 0 <= k * k * (x * x * (y * y)):=Rat.mul_nonneg (sq_nonneg k) (Rat.mul_nonneg (sq_nonneg x) (sq_nonneg y))
 have q1:=rmul_le p1 pX
 have q2 : (1 : Rat) <= (c + 1) * (c + 1):=by
  have:=sq_le (show (0 : Rat) <= 1 by decide) (show 0 <= c + 1 by grind) (show 1 <= c + 1 by grind)
  grind
 have pY : 0 <= k * k * k * (x * x * (y * y)):=by
  have:=Rat.mul_nonneg pX (Rat.le_of_lt pK)
  grind
 have q3:=Rat.mul_le_mul_of_nonneg_right q2 pY
 grind
theorem get_abs {a : List Int} (oa : okL a) (m : Nat) : (a.getD m 0).natAbs <= (mxL a).toNat:=by
 have h:=mx_range oa
 have:=mx_get a m h.1
 omega
theorem allS_abs (A D : Nat) (n : Nat) (x y : Nat -> Int) (hx : ∀ m,(x m).natAbs <= A) (hy : ∀ m,(y m).natAbs <= D) : (allS x y n).natAbs <= n * (A * D):=by
 induction n with
 | zero=>simp [allS]
 | succ n ih =>
   have h3 : (x n * y n).natAbs <= A * D:=by rw [Int.natAbs_mul]; exact Nat.mul_le_mul (hx n) (hy n)
   simp only [allS]
   have:=Int.natAbs_add_le (allS x y n) (x n * y n)
   rw [Nat.add_mul]
   omega
theorem conv_small {K : Nat} {a b : List Int} (hK : K <= 14) (oa : okL a) (ob : okL b)
  (prem : 4096 * (((K : Rat) + 1) * ((K : Rat) + 1)) * (pw K * pw K * pw K * ((((mxL a : Int) : Rat) * ((mxL a : Int) : Rat)) * (((mxL b : Int) : Rat) * ((mxL b : Int) : Rat)))) < pw 106) (p : Nat) :
  (cvI a b (2 ^ K) p).natAbs < 140737488355328 :=
 Nat.lt_of_le_of_lt (allS_abs _ _ (2 ^ K) (fun m=>a.getD m 0) (fun m=>b.getD ((p + 2 ^ K - m) % 2 ^ K) 0) (fun m=>get_abs oa m) (fun m=>get_abs ob _)) (size_small oa ob prem)
theorem told_prod {K s : Nat} {l : List (Nat × Nat)} {a b : List Int} (hK : K <= 14) (h : WhlOk K l) (oa : okL a) (ob : okL b) (hs : RingIs K (floatOfInt .f64 (mxL a)) (floatOfInt .f64 (mxL b)) s)
  (hlt : (FloatKind.f64.format.order s 4598175219545276416 == some Ordering.lt) = true) :
  CycOk K l a b /\ cC K l a b = (List.range (2 ^ K)).map (cvI a b (2 ^ K)) /\ (∀ p,(cvI a b (2 ^ K) p).natAbs < 140737488355328) /\ 2 ^ K * ((mxL a).toNat * (mxL b).toNat) < 140737488355328:=by
 obtain ⟨a0,a1⟩:=mx_range oa
 obtain ⟨b0,b1⟩:=mx_range ob
 have prem:=prem_of hK a0 a1 b0 b1 rfl rfl hs hlt
 have small:=conv_small hK oa ob prem
 have hC:=conds hK h oa ob
 refine ⟨hC,?_,small,size_small oa ob prem⟩
 unfold cC
 refine List.map_congr_left (fun p hp=>?_)
 have hp':=List.mem_range.1 hp
 refine told_at (hC.fin p hp').1 hK (near_prod hK h oa ob (Rat.le_of_lt prem) p hp') ?_
 rw [ab_int]
 have h9:=le_nat (Nat.le_of_lt (small p))
 exact h9
end
section
open Cx (n2)
open Fl
open Ieee
theorem red_double (K i : Nat) (s : Bool) : An.reducedM (K + 1) (2 * i) s = { An.reducedM K i s with step:=2 * (An.reducedM K i s).step,of:=2 * (An.reducedM K i s).of }:=by
 have h0:=Nat.two_pow_pos K
 have e0 : 2 ^ (K + 1) = 2 * 2 ^ K:=by rw [Nat.pow_succ]; omega
 unfold An.reducedM
 simp only [e0,Nat.mul_mod_mul_left]
 obtain ⟨N,hN⟩ : ∃ N,N = 2 ^ K:=⟨_,rfl⟩
 rw [<- hN] at h0 ⊢
 obtain ⟨a,ha⟩ : ∃ a,a = i % N:=⟨_,rfl⟩
 have hal : a < N:=by rw [ha]; exact Nat.mod_lt _ h0
 rw [<- ha]
 have e1 : (if s = true then (2 * a * 4 + 3 * (2 * N)) % (4 * (2 * N)) else 2 * a * 4) = 2 * (if s = true then (a * 4 + 3 * N) % (4 * N) else a * 4):=by
  split
  ·rw [show 2 * a * 4 + 3 * (2 * N) = 2 * (a * 4 + 3 * N) by omega,show 4 * (2 * N) = 2 * (4 * N) by omega,Nat.mul_mod_mul_left]
  ·omega
 rw [e1]
 obtain ⟨b,hb⟩ : ∃ b,b = (if s = true then (a * 4 + 3 * N) % (4 * N) else a * 4):=⟨_,rfl⟩
 rw [<- hb]
 have e2 : (if 2 * b > 2 * (2 * N) then 4 * (2 * N) - 2 * b else 2 * b) = 2 * (if b > 2 * N then 4 * N - b else b):=by split <;> split <;> omega
 rw [e2]
 obtain ⟨c,hc⟩ : ∃ c,c = (if b > 2 * N then 4 * N - b else b):=⟨_,rfl⟩
 rw [<- hc]
 have e3 : decide (2 * c > 2 * N) = decide (c > N):=by
  by_cases h : c > N
  ·rw [decide_eq_true h,decide_eq_true (by omega)]
  ·rw [decide_eq_false h,decide_eq_false (by omega)]
 have e4 : (if 2 * c > 2 * N then 2 * (2 * N) - 2 * c else 2 * c) = 2 * (if c > N then 2 * N - c else c):=by split <;> split <;> omega
 rw [e3,e4]
 obtain ⟨d,hd⟩ : ∃ d,d = (if c > N then 2 * N - c else c):=⟨_,rfl⟩
 rw [<- hd]
 by_cases h1 : d = 0
 ·rw [if_pos (by omega),if_pos h1]
  rfl
 ·rw [if_neg (by omega),if_neg h1]
  by_cases h2 : d = N
  ·rw [if_pos (by omega),if_pos h2]
   rfl
  ·rw [if_neg (by omega),if_neg h2]
   by_cases h3 : 2 * d > N
   ·rw [if_pos (by omega),if_pos h3]
    simp only [An.Val.mk.injEq,true_and]
    omega
   ·rw [if_neg (by omega),if_neg h3]
    simp only [An.Val.mk.injEq,true_and]
    omega
theorem near_double (P : Nat) (v : An.Val) : An.nearM P { v with step:=2 * v.step,of:=2 * v.of } = An.nearM P v:=by
 unfold An.nearM An.floorM
 simp only
 rw [show P * (2 * (2 * v.step)) = 2 * (P * (2 * v.step)) by rw [Nat.mul_left_comm P 2],Nat.mul_div_mul_left _ _ (by decide : 0 < 2)]
theorem root_double (P K i : Nat) : An.rootM P (K + 1) (2 * i) = An.rootM P K i:=by
 unfold An.rootM
 rw [red_double,red_double,near_double,near_double]
def evens {α : Type} : List α -> List α
 | []=>[]
 | [a]=>[a]
 | a :: _ :: l=>a :: evens l
theorem evens_get {α : Type} : ∀ (l : List α) (i : Nat),(evens l)[i]? = l[2 * i]?
 | [],i=>by simp [evens]
 | [a],0=>by simp [evens]
 | [a],i + 1=>by simp [evens]
 | a :: b :: l,0=>by simp [evens]
 | a :: b :: l,i + 1=>by
   rw [show 2 * (i + 1) = 2 * i + 2 by omega]
   simp only [evens,List.getElem?_cons_succ]
   exact evens_get l i
theorem evens_len {α : Type} : ∀ l : List α,(evens l).length = (l.length + 1) / 2
 | []=>by simp [evens]
 | [a]=>by simp [evens]
 | a :: b :: l=>by simp only [evens,List.length_cons]; rw [evens_len l]; omega
def Oct (P K : Nat) (o : List (Nat × Nat)) : Prop:=o.length = 2 ^ K / 8 + 1 /\ ∀ i,i <= 2 ^ K / 8 -> An.rootM P K i = o[i]?
theorem pow8 {K : Nat} (h : 3 <= K) : ∃ m,1 <= m /\ 2 ^ K = 8 * m:=by
 refine ⟨2 ^ (K - 3),Nat.two_pow_pos _,?_⟩
 rw [show K = 3 + (K - 3) by omega,Nat.pow_add,show 3 + (K - 3) - 3 = K - 3 by omega]
theorem oct_even {P K : Nat} {o : List (Nat × Nat)} (hK : 3 <= K) (h : Oct P (K + 1) o) : Oct P K (evens o):=by
 obtain ⟨m,hm,e⟩:=pow8 hK
 obtain ⟨h1,h2⟩:=h
 rw [Nat.pow_succ,e] at h1 h2
 refine ⟨by rw [evens_len,h1,e]; omega,fun i hi=>?_⟩
 rw [e] at hi
 rw [evens_get,<- h2 (2 * i) (by omega),root_double]
def evN (n : Nat) (o : List (Nat × Nat)) : List (Nat × Nat):=match n with
 | 0=>o
 | n + 1=>evens (evN n o)
theorem oct_evN {P M : Nat} {o : List (Nat × Nat)} (h : Oct P M o) : ∀ n,3 + n <= M -> Oct P (M - n) (evN n o)
 | 0,_=>h
 | n + 1,hn=>by
   have ih:=oct_evN h n (by omega)
   rw [show M - n = M - (n + 1) + 1 by omega] at ih
   exact oct_even (by omega) ih
def forceN (n : Nat) (f : Nat -> Bool) : Bool:=match n with
 | 0=>f 0
 | k + 1=>f (k + 1)
theorem forceN_eq (n : Nat) (f : Nat -> Bool) : forceN n f = f n:=by cases n <;> rfl
def forceI (x : Int) (f : Int -> Bool) : Bool:=match x with
 | .ofNat n=>forceN n fun k=>f (.ofNat k)
 | .negSucc n=>forceN n fun k=>f (.negSucc k)
theorem forceI_eq (x : Int) (f : Int -> Bool) : forceI x f = f x:=by cases x <;> simp only [forceI,forceN_eq]
def chkO (P K : Nat) : List (Nat × Nat) -> Nat -> Bool
 | [],_=>true
 | z :: l,i=>An.rootM P K i == some z && forceN (i + 1) fun j=>chkO P K l j
theorem chkO_at {P K : Nat} : ∀ (l : List (Nat × Nat)) (j : Nat),chkO P K l j = true -> ∀ i z,l[i]? = some z -> An.rootM P K (j + i) = some z
 | [],j,_,i,z,hz=>by simp at hz
 | a :: l,j,h,i,z,hz=>by
   unfold chkO at h
   rw [Bool.and_eq_true,forceN_eq] at h
   rcases i with _ | i
   ·simp at hz; subst hz; exact eq_of_beq h.1
   ·have:=chkO_at l (j + 1) h.2 i z (by simpa using hz)
    rw [show j + (i + 1) = j + 1 + i by omega]
    exact this
theorem oct_of {P K : Nat} {o : List (Nat × Nat)} (hl : o.length = 2 ^ K / 8 + 1) (h : chkO P K o 0 = true) : Oct P K o:=by
 refine ⟨hl,fun i hi=>?_⟩
 obtain ⟨z,hz⟩ : ∃ z,o[i]? = some z:=⟨_,List.getElem?_eq_getElem (by omega)⟩
 rw [hz,<- chkO_at o 0 h i z hz,Nat.zero_add]
def sw (z : Nat × Nat) : Nat × Nat:=(z.2,z.1)
def qL (o : List (Nat × Nat)) : List (Nat × Nat):=o ++ (((o.drop 1).dropLast).reverse.map sw)
def nz (x : Nat) : Nat:=if x = 9223372036854775808 then 0 else x
theorem nz_add {x : Nat} (h : x < 2 * W) (hf : rg x < I) : double.add x 0 = some (nz x):=by
 have v0 : vl 0 = 0:=by decide
 have s0 : sg 0 = false:=by decide
 have e:=wd_sg_rg x h
 rw [add_fin x 0 hf (by decide),v0,s0,Int.add_zero]
 congr 1
 have hw : nz x = if rg x = 0 then 0 else x:=by
  unfold nz
  by_cases h0 : rg x = 0
  ·rw [if_pos h0]
   rw [h0] at e
   cases hs : sg x with
   | false=>rw [hs] at e; unfold wd at e; simp at e; rw [<- e]; rfl
   | true=>rw [hs] at e; unfold wd at e; simp at e; rw [<- e]; rfl
  ·rw [if_neg h0,if_neg]
   intro e2
   rw [e2] at h0
   exact h0 (by decide)
 rw [hw]
 have hv : (vl x).natAbs = rv (rg x):=by unfold vl; split <;> omega
 rw [hv]
 by_cases h0 : rg x = 0
 ·rw [if_pos h0,h0]
  have : vl x = 0:=by unfold vl; rw [h0,rv_zero]; split <;> rfl
  rw [this]
  have k:=rnd_exact false 0 (by decide)
  unfold sgn2
  rw [if_pos rfl,Bool.and_false]
  exact k
 ·rw [if_neg h0]
  have hp:=rv_pos (r:=rg x) (by omega)
  have hn : vl x ≠ 0:=by unfold vl; split <;> omega
  have hs : sgn2 (sg x) false (vl x) = sg x:=by
   unfold sgn2
   rw [if_neg hn]
   unfold vl
   cases hs : sg x with
   | false=>simp
   | true=>simp; omega
  rw [hs,rnd_exact _ _ (by omega),e]
def tr1 (z : Nat × Nat) : Nat × Nat:=(nz (ng z.2),nz z.1)
def fullL (o : List (Nat × Nat)) : List (Nat × Nat):=qL o ++ ((qL o).map tr1 ++ (((qL o).map tr1).map tr1 ++ (((qL o).map tr1).map tr1).map tr1))
theorem qL_len {o : List (Nat × Nat)} {m : Nat} (h : o.length = m + 1) (hm : 1 <= m) : (qL o).length = 2 * m:=by
 unfold qL
 simp [h]
 omega
theorem qL_lo {o : List (Nat × Nat)} {i : Nat} (h : i < o.length) : (qL o)[i]? = o[i]?:=by
 unfold qL
 rw [List.getElem?_append_left h]
theorem qL_hi {o : List (Nat × Nat)} {m i : Nat} (h : o.length = m + 1) (h1 : 1 <= i) (h2 : i < m) : (qL o)[2 * m - i]? = (o[i]?).map sw:=by
 unfold qL
 have hl : ((o.drop 1).dropLast).length = m - 1:=by simp [h]
 rw [List.getElem?_append_right (by omega),List.getElem?_map,List.getElem?_reverse (by rw [hl,h]; omega),hl,h]
 congr 1
 rw [List.getElem?_dropLast,if_pos (by simp [h]; omega),List.getElem?_drop]
 congr 1
 omega
theorem full_turn {o : List (Nat × Nat)} {m : Nat} (hq : (qL o).length = 2 * m) {i : Nat} (hi : i < 6 * m) : (fullL o)[i + 2 * m]? = ((fullL o)[i]?).map tr1:=by
 unfold fullL
 obtain ⟨a,ha⟩ : ∃ a,a = qL o:=⟨_,rfl⟩
 rw [<- ha] at hq ⊢
 have hb : (a.map tr1).length = 2 * m:=by rw [List.length_map,hq]
 have hc : ((a.map tr1).map tr1).length = 2 * m:=by rw [List.length_map,hb]
 by_cases h1 : i < 2 * m
 ·rw [List.getElem?_append_right (by omega),hq,Nat.add_sub_cancel,List.getElem?_append_left (by omega),List.getElem?_append_left (by omega),List.getElem?_map]
 ·rw [List.getElem?_append_right (by omega),hq,Nat.add_sub_cancel,List.getElem?_append_right (l₁:=a) (by omega),hq]
  by_cases h2 : i < 4 * m
  ·rw [List.getElem?_append_right (by omega),hb,List.getElem?_append_left (by omega),List.getElem?_append_left (by omega),List.getElem?_map]
  ·rw [List.getElem?_append_right (by omega),hb,List.getElem?_append_right (l₁:=a.map tr1) (by omega),hb]
   rw [List.getElem?_append_right (by omega),hc,List.getElem?_append_left (by omega),List.getElem?_map]
theorem full_len {o : List (Nat × Nat)} {m : Nat} (hq : (qL o).length = 2 * m) : (fullL o).length = 8 * m:=by
 unfold fullL
 simp [hq]
 omega
def okT (z : Nat × Nat) : Bool:=cokB z
def cornB (o : List (Nat × Nat)) : Bool:=match o with
 | []=>false
 | z :: _=>tr1 z == sw z && match o.getLast? with
   | some y=>y == sw y
   | none=>false
def turnsB (o : List (Nat × Nat)) : Bool:=(qL o).all okT && (((qL o).map tr1).all okT && ((((qL o).map tr1).map tr1).all okT && ((((qL o).map tr1).map tr1).map tr1).all okT))
theorem okT_all {o : List (Nat × Nat)} (h : turnsB o = true) : ∀ z ∈ fullL o,okT z = true:=fun z hz=>by
 unfold turnsB at h
 simp only [Bool.and_eq_true] at h
 obtain ⟨h1,h2,h3,h4⟩:=h
 unfold fullL at hz
 rcases List.mem_append.1 hz with hz | hz
 ·exact List.all_eq_true.1 h1 z hz
 rcases List.mem_append.1 hz with hz | hz
 ·exact List.all_eq_true.1 h2 z hz
 rcases List.mem_append.1 hz with hz | hz
 ·exact List.all_eq_true.1 h3 z hz
 ·exact List.all_eq_true.1 h4 z hz
theorem okT_v {z : Nat × Nat} (h : okT z = true) : z.2 < 2 * W:=by
 unfold okT cokB at h
 simp only [Bool.and_eq_true,decide_eq_true_eq] at h
 exact h.2.1
theorem okT_s {z : Nat × Nat} (h : okT z = true) : double.add (ng z.2) 0 = some (tr1 z).1 /\ double.add z.1 0 = some (tr1 z).2:=by
 unfold okT cokB at h
 simp only [Bool.and_eq_true,decide_eq_true_eq] at h
 obtain ⟨⟨h1,h2⟩,h3,h4⟩:=h
 exact ⟨nz_add (ng_lt _ h3) (by rw [rg_ng _ h3]; exact h4),nz_add h1 h2⟩
theorem full_whl {P K : Nat} {o : List (Nat × Nat)} (hK : 3 <= K) (hO : Oct P K o) (hc : cornB o = true) (ht : turnsB o = true) : Whl P K (fullL o):=by
 obtain ⟨m,hm,e⟩:=pow8 hK
 obtain ⟨h1,h2⟩:=hO
 rw [e] at h1 h2
 have h8 : 8 * m / 8 = m:=by omega
 rw [h8] at h1 h2
 have hq:=qL_len h1 hm
 have hl:=full_len hq
 have lo : ∀ i,i < 2 * m -> (fullL o)[i]? = (qL o)[i]?:=fun i hi=>by unfold fullL; rw [List.getElem?_append_left (by omega)]
 refine .inr ⟨m,e,by rw [hl,e],fun i hi=>?_,fun i hi=>?_⟩
 ·rw [e,h8] at hi
  obtain ⟨z,hz⟩ : ∃ z,o[i]? = some z:=⟨_,List.getElem?_eq_getElem (by omega)⟩
  refine ⟨z,(h2 i hi).trans hz,by rw [lo i (by omega),qL_lo (by omega),hz],?_⟩
  rw [e,show 8 * m / 4 = 2 * m by omega]
  by_cases i0 : i = 0
  ·subst i0
   have k:=full_turn hq (i:=0) (by omega)
   rw [Nat.zero_add,lo 0 (by omega),qL_lo (by omega),hz] at k
   rw [Nat.sub_zero,k]
   cases o with
   | nil=>simp at hz
   | cons y l =>
     simp at hz
     subst hz
     unfold cornB at hc
     rw [Bool.and_eq_true] at hc
     rw [Option.map_some,eq_of_beq hc.1]; rfl
  ·by_cases im : i = m
   ·subst im
    rw [show 2 * i - i = i by omega,lo i (by omega),qL_lo (by omega),hz]
    have hlast : o.getLast? = some z:=by rw [List.getLast?_eq_getElem?,h1,Nat.add_sub_cancel]; exact hz
    cases o with
    | nil=>simp at hz
    | cons y l =>
      unfold cornB at hc
      rw [Bool.and_eq_true] at hc
      have k:=hc.2
      rw [hlast] at k
      have:=eq_of_beq k
      rw [show ((z.2,z.1) : Nat × Nat) = sw z from rfl,<- this]
   ·rw [lo _ (by omega),qL_hi h1 (by omega) (by omega),hz]; rfl
 ·rw [e] at hi ⊢
  obtain ⟨z,hz⟩ : ∃ z,(fullL o)[i]? = some z:=⟨_,List.getElem?_eq_getElem (by omega)⟩
  have ok:=okT_all ht z (List.mem_of_getElem? hz)
  have k:=full_turn hq (i:=i) (by omega)
  rw [hz,Option.map_some] at k
  obtain ⟨s1,s2⟩:=okT_s ok
  exact ⟨z,tr1 z,hz,okT_v ok,by rw [show 8 * m / 4 = 2 * m by omega]; exact k,s1,s2⟩
def U1 : Int:=2 ^ 1074
theorem U1_pw : (U1 : Rat) = pw 1074:=by decide +kernel
def nearB (A B c d : Int) : Bool:=decide ((A * A + B * B) * (1099511627776 * 1099511627776) <= 1099511627777 * 1099511627777 * (U1 * U1)) &&
 decide (((A * sc - c * U1) * (A * sc - c * U1) + (B * sc - d * U1) * (B * sc - d * U1)) * (5629499534213119375 * 5629499534213119375) <= 442 * 442 * (U1 * U1) * (sc * sc))
def chkI (w : Nat × Nat) (c d : Int) : Bool:=cokB w && nearB (vl w.1) (vl w.2) c d
theorem chkI_R {w : Nat × Nat} {c d : Int} (h : chkI w c d = true) : chkR w (cq (c,d)) (pw 1074) = true:=by
 unfold chkI nearB at h
 simp only [Bool.and_eq_true,decide_eq_true_eq] at h
 obtain ⟨h1,h2,h3⟩:=h
 unfold chkR
 simp only [Bool.and_eq_true,decide_eq_true_eq]
 have eU:=U1_pw
 have es : (sc : Rat) = qr:=by decide +kernel
 have ps:=qr_pos
 obtain ⟨A,hA⟩ : ∃ A,A = vl w.1:=⟨_,rfl⟩
 obtain ⟨B,hB⟩ : ∃ B,B = vl w.2:=⟨_,rfl⟩
 obtain ⟨U,hU⟩ : ∃ U,U = U1:=⟨_,rfl⟩
 obtain ⟨S,hS⟩ : ∃ S,S = sc:=⟨_,rfl⟩
 rw [<- hA,<- hB,<- hU] at h2
 rw [<- hA,<- hB,<- hU,<- hS] at h3
 rw [<- hU] at eU
 rw [<- hS] at es
 have k2:=Rat.intCast_le_intCast.2 h2
 have k3:=Rat.intCast_le_intCast.2 h3
 simp only [Rat.intCast_add,Rat.intCast_sub,Rat.intCast_mul] at k2 k3
 rw [eU] at k2 k3
 rw [es] at k3
 have c1 : ((1099511627776 : Int) : Rat) = 1099511627776:=by decide +kernel
 have c2 : ((1099511627777 : Int) : Rat) = 1099511627777:=by decide +kernel
 have c3 : ((5629499534213119375 : Int) : Rat) = 5629499534213119375:=by decide +kernel
 have c4 : ((442 : Int) : Rat) = 442:=by decide +kernel
 rw [c1,c2] at k2
 rw [c3,c4] at k3
 have o1 : omF = 1099511627777 / 1099511627776:=by decide +kernel
 have o2 : rhoF = 442 / 5629499534213119375:=by decide +kernel
 obtain ⟨p,hp⟩ : ∃ p,p = pw 1074:=⟨_,rfl⟩
 rw [<- hp] at k2 k3 ⊢
 refine ⟨⟨h1,?_⟩,?_⟩
 ·rw [o1]
  simp only [n2,cvu]
  rw [<- hA,<- hB]
  refine rdiv_le (c:=1099511627776 * 1099511627776) (by decide +kernel) ?_
  grind
 ·rw [o2]
  simp only [n2,Cx.sub,cvu,cq]
  rw [<- hA,<- hB]
  obtain ⟨i,hi⟩ : ∃ i,i = qr⁻¹:=⟨_,rfl⟩
  have hiq : i * qr = 1:=by rw [hi]; exact Rat.inv_mul_cancel _ (by grind)
  rw [Rat.div_def,Rat.div_def,<- hi]
  obtain ⟨Q,hQ⟩ : ∃ Q,Q = qr:=⟨_,rfl⟩
  rw [<- hQ] at k3 hiq ps
  obtain ⟨x,hx⟩ : ∃ x : Rat,x = (c : Rat):=⟨_,rfl⟩
  obtain ⟨y,hy⟩ : ∃ y : Rat,y = (d : Rat):=⟨_,rfl⟩
  obtain ⟨a,ha⟩ : ∃ a : Rat,a = (A : Rat):=⟨_,rfl⟩
  obtain ⟨b,hb⟩ : ∃ b : Rat,b = (B : Rat):=⟨_,rfl⟩
  rw [<- hx,<- hy,<- ha,<- hb] at k3
  rw [<- hx,<- hy,<- ha,<- hb]
  have e1 : a * Q - x * p = Q * (a - x * i * p):=by grind
  have e2 : b * Q - y * p = Q * (b - y * i * p):=by grind
  rw [e1,e2] at k3
  have pQQ : 0 < Q * Q:=Rat.mul_pos ps ps
  refine rdiv_le (c:=Q * Q * (5629499534213119375 * 5629499534213119375)) (Rat.mul_pos pQQ (by decide +kernel)) ?_
  grind
def endB (c d : Int) : Bool:=decide (n2 (Cx.add (cq (c,d)) Cx.one) <= (1024 * 1024 * sig) * (1024 * 1024 * sig))
def chkF (g1 g2 : Int) : List (Nat × Nat) -> Int -> Int -> Bool
 | [],c,d=>endB c d
 | w :: l,c,d=>chkI w c d && forceI ((c * g1 - d * g2) / sc) fun c'=>forceI ((c * g2 + d * g1) / sc) fun d'=>chkF g1 g2 l c' d'
theorem chkF_L {g1 g2 : Int} : ∀ (l : List (Nat × Nat)) (c d : Int),chkF g1 g2 l c d = true -> chkL (g1,g2) (pw 1074) l (c,d) = true
 | [],c,d,h=>rfl
 | w :: l,c,d,h=>by
   unfold chkF at h
   rw [Bool.and_eq_true,forceI_eq,forceI_eq] at h
   unfold chkL
   rw [Bool.and_eq_true]
   exact ⟨chkI_R h.1,chkF_L l _ _ h.2⟩
theorem chkF_end {g1 g2 : Int} : ∀ (l : List (Nat × Nat)) (j : Nat),chkF g1 g2 l (cT (g1,g2) j).1 (cT (g1,g2) j).2 = true -> endB (cT (g1,g2) (j + l.length)).1 (cT (g1,g2) (j + l.length)).2 = true
 | [],j,h=>h
 | w :: l,j,h=>by
   unfold chkF at h
   rw [Bool.and_eq_true,forceI_eq,forceI_eq] at h
   have:=chkF_end l (j + 1) h.2
   rw [List.length_cons,show j + (l.length + 1) = j + 1 + l.length by omega]
   exact this
def genB (g : Int × Int) : Bool:=decide (n2 (cq g) <= (1 + sig) * (1 + sig))
def chkW (g : Int × Int) (o : List (Nat × Nat)) : Bool:=cornB o && (turnsB o && (genB g && chkF g.1 g.2 (qL o ++ (qL o).map tr1) sc 0))
theorem wheel_at {P K : Nat} {o : List (Nat × Nat)} {g : Int × Int} (hK : 3 <= K) (hK2 : K <= 14) (hO : Oct P K o) (h : chkW g o = true) : ∃ l,Whl P K l /\ (∀ z ∈ l,z.2 < 2 * W) /\ WhlOk K l:=by
 unfold chkW at h
 simp only [Bool.and_eq_true] at h
 obtain ⟨h1,h2,h3,h4⟩:=h
 have hw:=full_whl hK hO h1 h2
 obtain ⟨m,hm,e⟩:=pow8 hK
 have ho:=hO.1
 rw [e,show 8 * m / 8 = m by omega] at ho
 have hq:=qL_len ho hm
 have eh : halfL K (fullL o) = qL o ++ (qL o).map tr1:=by
  unfold halfL hlen
  rw [e,show max (8 * m / 2) 1 = 4 * m by omega]
  unfold fullL
  rw [<- List.append_assoc,List.take_append_of_le_length (by simp [hq]; omega),List.take_of_length_le (by simp [hq]; omega)]
 have e1 : 2 ^ (K - 1) = 4 * m:=by
  have : 2 ^ K = 2 * 2 ^ (K - 1):=by rw [<- Nat.pow_succ']; congr 1; omega
  omega
 have hle : 2 ^ (K - 1) <= 2 ^ 13:=Nat.pow_le_pow_right (by decide) (by omega)
 have G : Gen g (2 ^ (K - 1)):=by
  refine ⟨Nat.two_pow_pos _,by omega,of_decide_eq_true h3,?_⟩
  have k:=chkF_end (g1:=g.1) (g2:=g.2) (qL o ++ (qL o).map tr1) 0 h4
  rw [Nat.zero_add,show (qL o ++ (qL o).map tr1).length = 2 ^ (K - 1) by rw [e1]; simp [hq]; omega] at k
  exact of_decide_eq_true k
 have hL : chkL g (pw 1074) (halfL K (fullL o)) (cT g 0) = true:=by
  rw [eh]
  exact chkF_L _ _ _ h4
 obtain ⟨r1,r2⟩:=roots_both (by omega) G hw hL
 exact ⟨_,hw,fun z hz=>okT_v (okT_all h2 z hz),.inr ⟨by omega,g,G,r1,r2⟩⟩
end
end Go.Proofs.YtnpanpkahbcecaaGreatDoor

/-
A round product by floats that is told is the one by definition.
-/
import Derived.Test.YtfpopdneokekiaaGreatDoorF33
import Derived.Lib.Hide
set_option linter.unusedVariables false
set_option linter.unusedSimpArgs false
namespace Go.Proofs.YtfpopdneokekiaaGreatDoor
section
open Cx (n2)
open Fl
theorem net_congr {α : Type} (add sub mul : α -> α -> α) (W : Nat -> Nat -> α) : ∀ (k : Nat) (x y : Nat -> α),(∀ i,i < 2 ^ k -> x i = y i) -> ∀ j,j < 2 ^ k -> net add sub mul W k x j = net add sub mul W k y j
 | 0,x,y,h,j,hj=>by simp only [net]; exact h 0 (by decide)
 | k + 1,x,y,h,j,hj=>by
   have hp : 2 ^ (k + 1) = 2 * 2 ^ k:=Nat.pow_succ'
   have he:=net_congr add sub mul W k (ev x) (ev y) (fun i hi=>h (2 * i) (by omega))
   have ho:=net_congr add sub mul W k (od x) (od y) (fun i hi=>h (2 * i + 1) (by omega))
   simp only [net]
   split
   ·rename_i hlt; rw [he j hlt,ho j hlt]
   ·rename_i hlt; rw [he (j - 2 ^ k) (by omega),ho (j - 2 ^ k) (by omega)]
theorem allS_sum (x y : Nat -> Int) (n : Nat) : allS x y n = sumI n (fun p=>x p * y p):=by
 induction n with
 | zero=>rfl
 | succ n ih=>simp only [allS,sumI,ih]
theorem conv_cv (a b : List Int) (n i : Nat) : convI n (fun m=>a.getD m 0) (fun m=>b.getD m 0) i = cvI a b n i:=by
 unfold cvI convI
 rw [allS_sum]
theorem fold_ge : ∀ (l : List Int) (s : Int),s <= l.foldl (fun s x=>max (max s x) (-x)) s /\ ∀ x ∈ l,-(l.foldl (fun s x=>max (max s x) (-x)) s) <= x /\ x <= l.foldl (fun s x=>max (max s x) (-x)) s
 | [],s=>⟨Int.le_refl _,fun x hx=>by simp at hx⟩
 | y :: l,s=>by
   obtain ⟨h1,h2⟩:=fold_ge l (max (max s y) (-y))
   simp only [List.foldl_cons]
   refine ⟨by omega,fun x hx=>?_⟩
   rcases List.mem_cons.1 hx with rfl | hx
   ·omega
   ·exact h2 x hx
theorem mx_get (l : List Int) (i : Nat) (h0 : 0 <= mxL l) : -(mxL l) <= l.getD i 0 /\ l.getD i 0 <= mxL l:=by
 rw [List.getD_eq_getElem?_getD]
 cases h : l[i]? with
 | none=>simp; exact h0
 | some x=>exact (fold_ge l 0).2 x (List.mem_of_getElem? h)
theorem ab_get (l : List Int) (i : Nat) (h0 : 0 <= mxL l) : ab ((l.getD i 0 : Int) : Rat) <= ((mxL l : Int) : Rat):=by
 obtain ⟨h1,h2⟩:=mx_get l i h0
 have h3:=Rat.intCast_le_intCast.2 h1
 have h4:=Rat.intCast_le_intCast.2 h2
 rw [Rat.intCast_neg] at h3
 exact ab_of h4 (by grind)
def WhlOk (K : Nat) (l : List (Nat × Nat)) : Prop:=K = 0 \/ (1 <= K /\ ∃ g,Gen g (2 ^ (K - 1)) /\ RootsOk (wW K (halfL K l)) (lev (RT g (2 ^ (K - 1))) K) K /\ RootsOk (wW K ((halfL K l).map cjW)) (lev (cj (RT g (2 ^ (K - 1)))) K) K)
theorem cZ_net {K : Nat} {l : List (Nat × Nat)} {a b : List Int} {p : Nat} (hp : p < 2 ^ K) : cZ K l a b p = net cadd csub cmul (wW K ((halfL K l).map cjW)) K (fun j=>cmul (net cadd csub cmul (wW K (halfL K l)) K (fX a) j) (net cadd csub cmul (wW K (halfL K l)) K (fX b) j)) p:=by
 unfold cZ LV
 rw [lvl_all _ _ _ _ _ _ _ hp]
 refine net_congr _ _ _ _ K _ _ (fun i hi=>?_) p hp
 unfold cW cU LV
 rw [lvl_all _ _ _ _ _ _ _ hi,lvl_all _ _ _ _ _ _ _ hi]
theorem conds {K : Nat} {l : List (Nat × Nat)} {a b : List Int} (hK : K <= 14) (h : WhlOk K l) (oa : okL a) (ob : okL b) : CycOk K l a b:=by
 rcases h with rfl | ⟨_,g,_,h1,h2⟩
 ·exact cyc_ok (R:=fun _=>Cx.zero) (by omega) ⟨fun k j hk=>by omega,fun k j hk=>by omega⟩ ⟨fun k j hk=>by omega,fun k j hk=>by omega⟩ oa ob
 ·exact cyc_ok hK h1 h2 oa ob
theorem near_prod {K : Nat} {l : List (Nat × Nat)} {a b : List Int} (hK : K <= 14) (h : WhlOk K l) (oa : okL a) (ob : okL b)
  (prem : 4096 * (((K : Rat) + 1) * ((K : Rat) + 1)) * (pw K * pw K * pw K * ((((mxL a : Int) : Rat) * ((mxL a : Int) : Rat)) * (((mxL b : Int) : Rat) * ((mxL b : Int) : Rat)))) <= pw 106) (p : Nat) (hp : p < 2 ^ K) :
  ab (fv (cZ K l a b p).1 - pw K * ((cvI a b (2 ^ K) p : Int) : Rat)) <= pw K * (22 / 100):=by
 obtain ⟨a0,a1⟩:=mx_range oa
 obtain ⟨b0,b1⟩:=mx_range ob
 have e53 : pw 53 = ((9007199254740992 : Int) : Rat):=by decide +kernel
 have pa : (0 : Rat) <= ((mxL a : Int) : Rat):=Rat.intCast_nonneg.2 a0
 have pb : (0 : Rat) <= ((mxL b : Int) : Rat):=Rat.intCast_nonneg.2 b0
 have la : ((mxL a : Int) : Rat) <= pw 53:=by rw [e53]; exact Rat.intCast_le_intCast.2 a1
 have lb : ((mxL b : Int) : Rat) <= pw 53:=by rw [e53]; exact Rat.intCast_le_intCast.2 b1
 rcases h with rfl | ⟨hK1,g,G,h1,h2⟩
 ·obtain rfl : p = 0:=by simp at hp; exact hp
  have sqA : ((mxL a : Int) : Rat) * ((mxL a : Int) : Rat) <= pw 106:=by have h:=sq_le pa (Rat.le_of_lt (pw_pos 53)) la; rw [<- pw_add] at h; exact h
  have sqB : ((mxL b : Int) : Rat) * ((mxL b : Int) : Rat) <= pw 106:=by have h:=sq_le pb (Rat.le_of_lt (pw_pos 53)) lb; rw [<- pw_add] at h; exact h
  have nX : ∀ (a : List Int),okL a -> 0 <= mxL a -> ∀ i,n2 (cval (fX a i)) <= ((mxL a : Int) : Rat) * ((mxL a : Int) : Rat):=fun a oa a0 i=>by
   rw [(fx_ok oa i).2]
   have h:=sq_of_ab (ab_get a i a0)
   simp only [n2]
   grind
  have h:=round_off (K:=0) (R:=fun _=>Cx.zero) (W:=wW 0 (halfL 0 l)) (W2:=wW 0 ((halfL 0 l).map cjW)) (by omega) (fun k j hk=>by omega) (fun k j hk=>by omega) (fun k j hk=>by omega) (fun k j hk=>by omega) (fX a) (fX b) (fun i _=>(fx_ok oa i).1) (fun i _=>(fx_ok ob i).1)
   (sq_nonneg _) (sq_nonneg _) sqA sqB (fun i _=>nX a oa a0 i) (fun i _=>nX b ob b0 i) prem 0 (by decide)
  rw [cZ_net (by decide)]
  have hk:=(part_le (show 0 <= 21 / 100 * pw 0 by decide +kernel) h.2).1
  have e : netC (lev (cj fun _=>Cx.zero) 0) 0 (fun j=>Cx.mul (netC (lev (fun _=>Cx.zero) 0) 0 (fun i=>cval (fX a i)) j) (netC (lev (fun _=>Cx.zero) 0) 0 (fun i=>cval (fX b i)) j)) 0 = Cx.mul (cval (fX a 0)) (cval (fX b 0)):=rfl
  rw [e,(fx_ok oa 0).2,(fx_ok ob 0).2] at hk
  have ec : cvI a b (2 ^ 0) 0 = a.getD 0 0 * b.getD 0 0:=by
   unfold cvI
   simp [allS]
  rw [ec,Rat.intCast_mul]
  simp only [Cx.sub,Cx.mul] at hk
  have ep : pw 0 = 1:=rfl
  rw [ep] at hk ⊢
  have e3 : (((a.getD 0 0 : Int) : Rat) * ((b.getD 0 0 : Int) : Rat) - 0 * 0) = 1 * (((a.getD 0 0 : Int) : Rat) * ((b.getD 0 0 : Int) : Rat)):=by grind
  rw [e3] at hk
  have e4 : (cval (net cadd csub cmul (wW 0 ((halfL 0 l).map cjW)) 0 (fun j=>cmul (net cadd csub cmul (wW 0 (halfL 0 l)) 0 (fX a) j) (net cadd csub cmul (wW 0 (halfL 0 l)) 0 (fX b) j)) 0)).re = fv (net cadd csub cmul (wW 0 ((halfL 0 l).map cjW)) 0 (fun j=>cmul (net cadd csub cmul (wW 0 (halfL 0 l)) 0 (fX a) j) (net cadd csub cmul (wW 0 (halfL 0 l)) 0 (fX b) j)) 0).1:=rfl
  rw [e4] at hk
  refine Rat.le_trans hk ?_
  decide +kernel
 ·have hKK : 2 ^ K = 2 ^ (K - 1) + 2 ^ (K - 1):=by rw [<- Nat.two_mul,<- Nat.pow_succ']; congr 1; omega
  have h:=round_int hK (RT_tab G hKK) tC_ok (RT_conj G hKK) h1.1 h1.2 h2.1 h2.2 (fX a) (fX b) (fun i=>a.getD i 0) (fun i=>b.getD i 0) (fun i _=>fx_ok oa i) (fun i _=>fx_ok ob i)
   (fun i _=>ab_get a i a0) (fun i _=>ab_get b i b0) pa pb la lb prem p hp
  rw [conv_cv] at h
  rw [cZ_net hp]
  exact h.2
theorem sq_lt_of {a b : Rat} (hb : 0 <= b) (h : a * a < b * b) : a < b:=by
 by_cases h1 : a < b
 ·exact h1
 ·have h2 : b <= a:=by grind
  have:=sq_le hb (Rat.le_trans hb h2) h2
  grind
theorem size_small {K : Nat} {a b : List Int} (oa : okL a) (ob : okL b)
  (prem : 4096 * (((K : Rat) + 1) * ((K : Rat) + 1)) * (pw K * pw K * pw K * ((((mxL a : Int) : Rat) * ((mxL a : Int) : Rat)) * (((mxL b : Int) : Rat) * ((mxL b : Int) : Rat)))) < pw 106) :
  2 ^ K * ((mxL a).toNat * (mxL b).toNat) < 140737488355328:=by
 obtain ⟨a0,a1⟩:=mx_range oa
 obtain ⟨b0,b1⟩:=mx_range ob
 obtain ⟨A,hA⟩:=Int.eq_ofNat_of_zero_le a0
 obtain ⟨D,hD⟩:=Int.eq_ofNat_of_zero_le b0
 rw [hA,hD,Int.toNat_natCast,Int.toNat_natCast]
 have pK:=pw_pos K
 have p1:=pw_one K
 refine Rat.natCast_lt_natCast.1 ?_
 rw [Rat.natCast_mul,Rat.natCast_mul,pw_cast]
 rw [hA,hD,Rat.intCast_natCast,Rat.intCast_natCast] at prem
 have pA : (0 : Rat) <= (A : Rat):=Rat.natCast_nonneg
 have pD : (0 : Rat) <= (D : Rat):=Rat.natCast_nonneg
 have pk : (0 : Rat) <= (K : Rat):=Rat.natCast_nonneg
 have e47 : ((140737488355328 : Nat) : Rat) = 140737488355328:=rfl
 have e106 : pw 106 = 81129638414606681695789005144064:=by decide +kernel
 rw [e47]
 rw [e106] at prem
 refine sq_lt_of (by decide) ?_
 generalize (A : Rat) = x at *
 generalize (D : Rat) = y at *
 generalize pw K = k at *
 generalize (K : Rat) = c at *
 have pX : 0 <= k * k * (x * x * (y * y)):=Rat.mul_nonneg (sq_nonneg k) (Rat.mul_nonneg (sq_nonneg x) (sq_nonneg y))
 have q1:=rmul_le p1 pX
 have q2 : (1 : Rat) <= (c + 1) * (c + 1):=by
  have:=sq_le (show (0 : Rat) <= 1 by decide) (show 0 <= c + 1 by grind) (show 1 <= c + 1 by grind)
  grind
 have pY : 0 <= k * k * k * (x * x * (y * y)):=by
  have:=Rat.mul_nonneg pX (Rat.le_of_lt pK)
  grind
 have q3:=Rat.mul_le_mul_of_nonneg_right q2 pY
 grind
theorem get_abs {a : List Int} (oa : okL a) (m : Nat) : (a.getD m 0).natAbs <= (mxL a).toNat:=by
 have h:=mx_range oa
 have:=mx_get a m h.1
 omega
theorem allS_abs (A D : Nat) (n : Nat) (x y : Nat -> Int) (hx : ∀ m,(x m).natAbs <= A) (hy : ∀ m,(y m).natAbs <= D) : (allS x y n).natAbs <= n * (A * D):=by
 induction n with
 | zero=>simp [allS]
 | succ n ih =>
   have h3 : (x n * y n).natAbs <= A * D:=by rw [Int.natAbs_mul]; exact Nat.mul_le_mul (hx n) (hy n)
   simp only [allS]
   have:=Int.natAbs_add_le (allS x y n) (x n * y n)
   rw [Nat.add_mul]
   omega
theorem conv_small {K : Nat} {a b : List Int} (hK : K <= 14) (oa : okL a) (ob : okL b)
  (prem : 4096 * (((K : Rat) + 1) * ((K : Rat) + 1)) * (pw K * pw K * pw K * ((((mxL a : Int) : Rat) * ((mxL a : Int) : Rat)) * (((mxL b : Int) : Rat) * ((mxL b : Int) : Rat)))) < pw 106) (p : Nat) :
  (cvI a b (2 ^ K) p).natAbs < 140737488355328 :=
 Nat.lt_of_le_of_lt (allS_abs _ _ (2 ^ K) (fun m=>a.getD m 0) (fun m=>b.getD ((p + 2 ^ K - m) % 2 ^ K) 0) (fun m=>get_abs oa m) (fun m=>get_abs ob _)) (size_small oa ob prem)
theorem told_prod {K s : Nat} {l : List (Nat × Nat)} {a b : List Int} (hK : K <= 14) (h : WhlOk K l) (oa : okL a) (ob : okL b) (hs : RingIs K (floatOfInt .f64 (mxL a)) (floatOfInt .f64 (mxL b)) s)
  (hlt : (FloatKind.f64.format.order s 4598175219545276416 == some Ordering.lt) = true) :
  CycOk K l a b /\ cC K l a b = (List.range (2 ^ K)).map (cvI a b (2 ^ K)) /\ (∀ p,(cvI a b (2 ^ K) p).natAbs < 140737488355328) /\ 2 ^ K * ((mxL a).toNat * (mxL b).toNat) < 140737488355328:=by
 obtain ⟨a0,a1⟩:=mx_range oa
 obtain ⟨b0,b1⟩:=mx_range ob
 have prem:=prem_of hK a0 a1 b0 b1 rfl rfl hs hlt
 have small:=conv_small hK oa ob prem
 have hC:=conds hK h oa ob
 refine ⟨hC,?_,small,size_small oa ob prem⟩
 unfold cC
 refine List.map_congr_left (fun p hp=>?_)
 have hp':=List.mem_range.1 hp
 refine told_at (hC.fin p hp').1 hK (near_prod hK h oa ob (Rat.le_of_lt prem) p hp') ?_
 rw [ab_int]
 have h9:=le_nat (Nat.le_of_lt (small p))
 exact h9
end
end Go.Proofs.YtfpopdneokekiaaGreatDoor

/-
The last scaling and the nearest whole number: a float that lies near 2^K times a whole number tells it.
-/
import Derived.Test.YtnpanpkahbcecaaGreatDoorP36
import Derived.Lib.Hide
set_option linter.unusedVariables false
set_option linter.unusedSimpArgs false
namespace Go.Proofs.YtnpanpkahbcecaaGreatDoor
section
theorem piM_closed : An.piM 164 = some (An.PI : Int):=by unfold An.PI An.piM An.arcM; decide +kernel
theorem PI_small : An.PI < 2 ^ 200:=by decide +kernel
end
section
instance (z t : Nat × Nat) : Decidable (CAdd z t):=by unfold CAdd; infer_instance
instance (z t : Nat × Nat) : Decidable (CSub z t):=by unfold CSub; infer_instance
instance (z t : Nat × Nat) : Decidable (CMul z t):=by unfold CMul; infer_instance
end
section
instance (x : Nat) : Decidable (finW x):=by unfold finW; infer_instance
end
section
open Go.RowKit
def fX (l : List Int) (p : Nat) : Nat × Nat:=(floatOfInt .f64 (l.getD p 0),0)
def cU (K : Nat) (l : List (Nat × Nat)) (a : List Int) (p : Nat) : Nat × Nat:=LV (wW K (halfL K l)) K (fX a) K p
def cW (K : Nat) (l : List (Nat × Nat)) (a b : List Int) (p : Nat) : Nat × Nat:=cmul (cU K l a p) (cU K l b p)
def cZ (K : Nat) (l : List (Nat × Nat)) (a b : List Int) (p : Nat) : Nat × Nat:=LV (wW K ((halfL K l).map cjW)) K (cW K l a b) K p
structure CycOk (K : Nat) (l : List (Nat × Nat)) (a b : List Int) : Prop where
 sa : StepOk (wW K (halfL K l)) K (fX a)
 sb : StepOk (wW K (halfL K l)) K (fX b)
 mul : ∀ p < 2 ^ K,CMul (cU K l a p) (cU K l b p)
 sw : StepOk (wW K ((halfL K l).map cjW)) K (cW K l a b)
 fin : ∀ p < 2 ^ K,finW (cZ K l a b p).1 /\ finW (cZ K l a b p).2
def cC (K : Nat) (l : List (Nat × Nat)) (a b : List Int) : List Int:=(List.range (2 ^ K)).map (fun p=>Fl.nearN (scW (-(K : Int)) (cZ K l a b p).1))
theorem Fl.scl_lt (w : Nat) (k : Int) : Fl.scl w k < 2 * Fl.W:=by
 unfold Fl.scl
 obtain ⟨r,h,_⟩:=Fl.nearest_word (Fl.sg w) (Fl.mant (Fl.rg w)) (Fl.pl w + k)
 rw [h]
 exact Fl.wd_lt _ _ (Nat.lt_of_le_of_lt (Nat.min_le_right _ _) Fl.I_lt_W)
theorem rcyclic_any (K n P f : Nat) (A B : Option Addr) (c c' : Nat) (a b : List Int) (l : List (Nat × Nat)) (w : World) (hK : K <= 14) (hn : n = 2 ^ K) (hR : RWd P w) (hl : Whl P K l) (hv : ∀ z ∈ l,z.2 < 2 * Fl.W)
  (ha : UL w A n c a) (hb : UL w B n c' b) (oa : okL a) (ob : okL b)
  (hbound : Calls Tryz.prog 86 #[.slice A n c,.slice B n c'] w fun e w'=>e = .returned (.tuple #[.float .f64 f,.int .i64 0]) /\ Below w.heap.size w w')
  (hlt : (FloatKind.f64.format.order f 4598175219545276416 == some Ordering.lt) = true) (hC : CycOk K l a b) :
  Calls Tryz.prog 57 #[.slice A n c,.slice B n c'] w fun e w'=>∃ g,e = .returned (.tuple #[.slice (some ⟨g,0,none⟩) n n,.int .i64 0]) /\ LRow w' w.heap.size g n (cC K l a b) /\ Below w.heap.size w w':=by
 have h2 : 2 ^ K <= 2 ^ 14:=Nat.pow_le_pow_right (by decide) hK
 have h1:=Nat.two_pow_pos K
 have hn1 : 1 <= n:=by omega
 have hn2 : n <= 16384:=by omega
 have hfx : ∀ (x : List Int),x.length = n -> ∀ p < n,(x.map (fun z=>floatOfInt .f64 z))[p]? = some (fX x p).1 /\ (fX x p).2 = 0:=fun x hx p hp=>by
  rw [List.getElem?_map,get_of hx hp]
  exact ⟨rfl,rfl⟩
 have hflt : ∀ (X : Option Addr) (cx : Nat) (x : List Int),UL w X n cx x -> okL x -> ∀ u,Below w.heap.size w u -> Calls Tryz.prog 87 #[.slice X n cx] u fun e w'=>∃ g s,e = .returned (.tuple #[.slice (some ⟨g,0,none⟩) n n,.float .f64 s,.bool true]) /\ FRow w' u.heap.size g n (x.map (fun z=>floatOfInt .f64 z)) /\ Below u.heap.size u w':=fun X cx x hx ox u hu=>by
  refine (rfloats_any X n cx x u hn1 hn2 (hx.below hu)).mono ?_
  rintro e w' (⟨_,g,h3,h4,h5⟩ | ⟨h3,_⟩)
  ·exact ⟨g,_,h3,h4,h5⟩
  ·exact absurd ox h3
 have hmem : ∀ z ∈ (List.range n).map (fun p=>scW (-(K : Int)) (cZ K l a b p).1),z < 2 * Fl.W:=fun z hz=>by
  obtain ⟨p,hp,rfl⟩:=List.mem_map.1 hz
  have hf:=(hC.fin p (by rw [<- hn]; exact List.mem_range.1 hp)).1
  unfold scW
  split
  ·exact hf.1
  ·exact Fl.scl_lt _ _
 have hcc : ((List.range n).map (fun p=>scW (-(K : Int)) (cZ K l a b p).1)).map Fl.nearN = cC K l a b:=by
  rw [List.map_map,hn]; rfl
 rw [<- hcc]
 exact rcyclic_core n f A B c c' (a.map (fun z=>floatOfInt .f64 z)) (b.map (fun z=>floatOfInt .f64 z)) ((List.range n).map (cU K l a)) ((List.range n).map (cU K l b)) ((List.range n).map (cW K l a b)) ((List.range n).map (fun p=>scW (-(K : Int)) (cZ K l a b p).1)) w hn1 hn2 hbound hlt
  (hflt A c a ha oa) (hflt B c' b hb ob)
  (fun u g hu hr=>rforward_any K P n g l _ (fX a) u hK hn (hR.below hu) hl hr (hfx a ha.1) hC.sa)
  (fun u g hu hr=>rforward_any K P n g l _ (fX b) u hK hn (hR.below hu) hl hr (hfx b hb.1) hC.sb)
  (fun u g g' hg hg'=>tpoint_any n g g' _ _ _ u hn1 hn2 hg hg' (by simp) (fun i hi=>⟨cU K l a i,cU K l b i,by simp [hi],by simp [hi],hC.mul i (by rw [<- hn]; exact hi),by simp [hi,cW]⟩))
  (fun u g hu hr=>rback_any K P n g l _ (cW K l a b) u hK hn (hR.below hu) hl hv hr (fun p hp=>by simp [hp]) hC.sw (fun p hp=>hC.fin p (by rw [<- hn]; exact hp)))
  hmem
end
section
open Cx (n2)
open Fl
theorem U_rat : ((Fl.U : Nat) : Rat) = pw 1074:=by rw [Fl.U_def,pw_cast,E_eq]
theorem fv_of_vl {w : Nat} {m : Int} (h : vl w = m * (Fl.U : Int)) : fv w = (m : Rat):=by
 have h1:=eta_one
 unfold fv
 rw [h,Rat.intCast_mul,Rat.intCast_natCast,U_rat]
 generalize pw 1074 = q at *
 grind
theorem int_ok (m : Int) (h1 : -9007199254740992 <= m) (h2 : m <= 9007199254740992) : fok (floatOfInt .f64 m) /\ fv (floatOfInt .f64 m) = (m : Rat):=by
 have key : ∀ (s : Bool) (k : Nat),k <= 9007199254740992 -> sgi s k = m -> fok (floatOfInt .f64 m) /\ fv (floatOfInt .f64 m) = (m : Rat):=fun s k hk e=>by
  obtain ⟨_,_,w1,w2,w3⟩:=whI_int s k hk
  rw [e] at w1 w2 w3
  refine ⟨⟨w1,w2⟩,fv_of_vl ?_⟩
  rw [w3,<- e]
  unfold sgi
  cases s <;> simp [Int.neg_mul]
 rcases Int.le_total 0 m with h | h
 ·exact key false m.toNat (by omega) (by unfold sgi; simp; omega)
 ·exact key true m.natAbs (by omega) (by unfold sgi; simp; omega)
theorem get_ok {a : List Int} (oa : okL a) (p : Nat) : -9007199254740992 <= a.getD p 0 /\ a.getD p 0 <= 9007199254740992:=by
 rw [List.getD_eq_getElem?_getD]
 cases h : a[p]? with
 | none=>simp
 | some x=>exact oa x (List.mem_of_getElem? h)
theorem fv_zero : fv 0 = 0 /\ fok 0:=by
 have h : vl 0 = 0:=by decide
 refine ⟨by unfold fv; rw [h]; simp,by unfold fok; decide⟩
theorem fx_ok {a : List Int} (oa : okL a) (p : Nat) : cok (fX a p) /\ cval (fX a p) = ⟨((a.getD p 0 : Int) : Rat),0⟩:=by
 obtain ⟨h1,h2⟩:=get_ok oa p
 obtain ⟨h3,h4⟩:=int_ok _ h1 h2
 refine ⟨⟨h3,fv_zero.2⟩,?_⟩
 unfold cval fX
 simp only
 rw [h4,fv_zero.1]
theorem fx_n2 {a : List Int} (oa : okL a) (p : Nat) : n2 (cval (fX a p)) <= pw 106:=by
 obtain ⟨h1,h2⟩:=get_ok oa p
 rw [(fx_ok oa p).2]
 generalize a.getD p 0 = m at *
 have h3 : ((m * m : Int) : Rat) <= ((81129638414606681695789005144064 : Int) : Rat):=by
  rw [Rat.intCast_le_intCast]
  rcases Int.le_total 0 m with h | h
  ·exact Int.mul_le_mul h2 h2 h (by omega)
  ·have:=Int.mul_le_mul (show -m <= 9007199254740992 by omega) (show -m <= 9007199254740992 by omega) (by omega) (by omega)
   rw [Int.neg_mul_neg] at this
   exact this
 have e : pw 106 = 81129638414606681695789005144064:=by decide +kernel
 rw [Rat.intCast_mul] at h3
 rw [e]
 simp only [n2]
 have e2 : ((81129638414606681695789005144064 : Int) : Rat) = 81129638414606681695789005144064:=by rfl
 rw [e2] at h3
 grind
theorem big_tq : pw 1000 <= tq * tq:=by
 have h1:=tq_big
 have h4 : 1 <= tq:=by have:=pw_one 1000; grind
 have h6:=rmul_le h4 (Rat.le_of_lt tq_pos)
 grind
theorem cyc_ok {K : Nat} {l : List (Nat × Nat)} {R : Nat -> Cx} {a b : List Int} (hK : K <= 14) (R1 : RootsOk (wW K (halfL K l)) (lev R K) K) (R2 : RootsOk (wW K ((halfL K l).map cjW)) (lev (cj R) K) K) (oa : okL a) (ob : okL b) : CycOk K l a b:=by
 have e400 : pw 106 <= pw 400:=pw_le (by omega)
 have p106:=Rat.le_of_lt (pw_pos 106)
 have nu : ∀ (a : List Int),okL a -> ∀ p,p < 2 ^ K -> cok (cU K l a p) /\ n2 (cval (cU K l a p)) <= pw 147:=fun a oa p hp=>by
  have h:=net_bound hK R1 (fX a) (fun i _=>(fx_ok oa i).1) p106 e400 (fun i _=>fx_n2 oa i) p hp
  unfold cU LV
  rw [lvl_all _ _ _ _ _ _ _ hp]
  refine ⟨h.1,Rat.le_trans h.2 ?_⟩
  decide +kernel
 have nw : ∀ p,p < 2 ^ K -> CMul (cU K l a p) (cU K l b p) /\ cok (cW K l a b p) /\ n2 (cval (cW K l a b p)) <= pw 300:=fun p hp=>by
  obtain ⟨u1,u2⟩:=nu a oa p hp
  obtain ⟨v1,v2⟩:=nu b ob p hp
  have n1:=Cx.n2_nonneg (cval (cU K l a p))
  have n3:=Cx.n2_nonneg (cval (cU K l b p))
  have pp:=Rat.mul_le_mul_of_nonneg_right u2 n3
  have pp2:=rmul_le v2 (Rat.le_of_lt (pw_pos 147))
  rw [<- pw_add] at pp2
  have hP : n2 (cval (cU K l a p)) * n2 (cval (cU K l b p)) <= pw 294:=Rat.le_trans pp pp2
  have t1 : pw 294 <= tq * tq:=Rat.le_trans (pw_le (by omega)) big_tq
  have t2 : pw 147 <= tq * tq:=Rat.le_trans (pw_le (by omega)) big_tq
  have hm:=cmul_ok (cU K l a p) (cU K l b p) u1 v1 (Rat.le_trans u2 t2) (Rat.le_trans v2 t2) (Rat.le_trans hP t1)
  refine ⟨cmul_some _ _ u1 v1 (Rat.le_trans hP t1),hm.1,?_⟩
  have h2:=hm.2
  have h3:=n2_two (Cx.mul (cval (cU K l a p)) (cval (cU K l b p))) (Cx.sub (cval (cmul (cU K l a p) (cU K l b p))) (Cx.mul (cval (cU K l a p)) (cval (cU K l b p))))
  have e : Cx.add (Cx.mul (cval (cU K l a p)) (cval (cU K l b p))) (Cx.sub (cval (cmul (cU K l a p) (cU K l b p))) (Cx.mul (cval (cU K l a p)) (cval (cU K l b p)))) = cval (cmul (cU K l a p) (cU K l b p)):=by
   apply Cx.ext <;> simp only [Cx.add,Cx.sub] <;> grind
  rw [e,Cx.n2_mul] at h3
  have hmu : muF * muF <= 1:=by decide +kernel
  have h4:=Rat.mul_le_mul_of_nonneg_right hmu (Rat.mul_nonneg n1 n3)
  have hth : thF <= 1:=by
   have h:=th_phi
   have hk : kapF * kapF <= 1:=by decide +kernel
   have ps:=phi_small
   have e200 : pw 200 = 1606938044258990275541962092341162602522202993782792835301376:=by decide +kernel
   have pp:=phi_pos
   have phi1 : phiF <= 1:=by rw [e200] at ps; grind
   have h5:=Rat.mul_le_mul_of_nonneg_right hk (Rat.le_of_lt pp)
   grind
  have e300 : 4 * pw 294 + 2 <= pw 300:=by decide +kernel
  unfold cW
  grind
 have hw : ∀ i,i < 2 ^ K -> cok (cW K l a b i):=fun i hi=>(nw i hi).2.1
 have hwb : ∀ i,i < 2 ^ K -> n2 (cval (cW K l a b i)) <= pw 300:=fun i hi=>(nw i hi).2.2
 exact {
  sa:=stepOk_net hK R1 (fX a) (fun i _=>(fx_ok oa i).1) p106 e400 (fun i _=>fx_n2 oa i)
  sb:=stepOk_net hK R1 (fX b) (fun i _=>(fx_ok ob i).1) p106 e400 (fun i _=>fx_n2 ob i)
  mul:=fun p hp=>(nw p hp).1
  sw:=stepOk_net hK R2 (cW K l a b) hw (Rat.le_of_lt (pw_pos 300)) (pw_le (by omega)) hwb
  fin:=fun p hp=>by
   have h:=net_bound hK R2 (cW K l a b) hw (Rat.le_of_lt (pw_pos 300)) (pw_le (by omega)) hwb p hp
   unfold cZ LV
   rw [lvl_all _ _ _ _ _ _ _ hp]
   exact ⟨⟨h.1.1.1,h.1.1.2⟩,h.1.2.1,h.1.2.2⟩ }
end
section
open Fl
theorem one_U : ((Fl.U : Nat) : Rat) * eta = 1:=by
 have:=eta_one
 rw [U_rat]
 generalize pw 1074 = q at *
 grind
theorem near_told {z : Nat} {c : Int} (hz : fok z) (h : ab (fv z - (c : Rat)) <= 4 / 10) (hc : ab (c : Rat) <= 140737488355328) : Fl.nearN z = c:=by
 obtain ⟨n1,_,n2,_⟩:=nk_near z
 have hU:=one_U
 have pe:=eta_pos
 obtain ⟨V,hV⟩ : ∃ V : Rat,V = ((rv (rg z) : Nat) : Rat) * eta:=⟨_,rfl⟩
 have hab : ab (fv z) = V:=by rw [hV]; exact ab_fv z
 have hsg:=fv_sg z
 rw [<- hV] at hsg
 obtain ⟨k,hk⟩ : ∃ k,k = nk z:=⟨_,rfl⟩
 rw [<- hk] at n1 n2
 have m1 : 2 * V <= 2 * (k : Rat) + 1:=by
  have h1:=le_nat n1
  have h2:=Rat.mul_le_mul_of_nonneg_right h1 (Rat.le_of_lt pe)
  rw [Rat.natCast_mul,Rat.natCast_mul,Rat.natCast_add,Rat.natCast_mul] at h2
  rw [hV]
  clear hsg hab
  generalize ((Fl.U : Nat) : Rat) = u at *
  have e2 : ((2 : Nat) : Rat) = 2:=rfl
  have e1 : ((1 : Nat) : Rat) = 1:=rfl
  rw [e2,e1,Rat.mul_assoc _ u eta,hU,Rat.mul_one,Rat.mul_assoc] at h2
  exact h2
 have m2 : 2 * (k : Rat) <= 2 * V + 1:=by
  have h1:=le_nat n2
  have h2:=Rat.mul_le_mul_of_nonneg_right h1 (Rat.le_of_lt pe)
  rw [Rat.natCast_mul,Rat.natCast_mul,Rat.natCast_add,Rat.natCast_mul] at h2
  rw [hV]
  clear hsg hab
  generalize ((Fl.U : Nat) : Rat) = u at *
  have e2 : ((2 : Nat) : Rat) = 2:=rfl
  rw [e2,Rat.mul_assoc _ u eta,hU,Rat.mul_one,Rat.add_mul,hU,Rat.mul_assoc 2 _ eta] at h2
  exact h2
 have hfz : ab (fv z) <= 140737488355329:=by
  have h1:=ab_tri (fv z - (c : Rat)) (c : Rat)
  have e : fv z - (c : Rat) + (c : Rat) = fv z:=by grind
  rw [e] at h1
  grind
 rw [hab] at hfz
 have hle : rg z <= c53:=by
  rw [<- rv_le_iff,rv_c53]
  refine nat_le (eta_cancel ?_)
  rw [<- hV,Rat.natCast_mul,Rat.mul_assoc,hU]
  have e : ((9007199254740992 : Nat) : Rat) = 9007199254740992:=rfl
  rw [e]
  grind
 unfold Fl.nearN
 rw [if_pos hle,<- hk]
 have hd : ab (((Fl.sgi (sg z) k : Int) : Rat) - fv z) <= 1 / 2:=by
  rw [hsg]
  unfold Fl.sgi
  split
  ·rw [Rat.intCast_neg,Rat.intCast_natCast]
   exact ab_of (by grind) (by grind)
  ·rw [Rat.intCast_natCast]
   exact ab_of (by grind) (by grind)
 generalize Fl.sgi (sg z) k = N at *
 have hnc:=ab_tri ((N : Rat) - fv z) (fv z - (c : Rat))
 have e : (N : Rat) - fv z + (fv z - (c : Rat)) = (N : Rat) - (c : Rat):=by grind
 rw [e,<- Rat.intCast_sub,ab_int] at hnc
 have h9 : (((N - c).natAbs : Nat) : Rat) < ((1 : Nat) : Rat):=by
  have e1 : ((1 : Nat) : Rat) = 1:=rfl
  rw [e1]
  grind
 have h10:=Rat.natCast_lt_natCast.1 h9
 omega
theorem scw_near {x K : Nat} (hx : fok x) (hK : K <= 14) (hb : ab (fv x) <= pw 62) :
  fok (scW (-(K : Int)) x) /\ ab (pw K * fv (scW (-(K : Int)) x) - fv x) <= pw K * (uu * ab (fv (scW (-(K : Int)) x)) + eta) /\ pw K * ab (fv (scW (-(K : Int)) x)) <= 2 * ab (fv x) + pw K:=by
 have pe:=eta_pos
 have pK:=pw_pos K
 have p1:=pw_one K
 have el:=eta_le
 have pu:=uu_pos
 unfold scW
 by_cases h0 : rg x = 0
 ·rw [if_pos h0]
  have hv : fv x = 0:=by
   rw [fv_sg,h0,rv_zero]
   split <;> simp
  rw [hv]
  have e0 : ab (0 : Rat) = 0:=by unfold ab; simp
  refine ⟨hx,?_,?_⟩
  ·have e1 : pw K * 0 - 0 = (0 : Rat):=by grind
   rw [e1,e0]
   have:=Rat.mul_nonneg (Rat.le_of_lt pK) (Rat.le_of_lt pe)
   grind
  ·rw [e0]; grind
 ·rw [if_neg h0]
  unfold Fl.scl
  obtain ⟨r,hr,hs⟩:=nearest_word (sg x) (mant (rg x)) (pl x + -(K : Int))
  have hpl : pl x + 1074 = (ex (rg x) : Nat):=by unfold pl; omega
  have hrnd:=hs K (rv (rg x)) (by omega) (by
   have : (pl x + -(K : Int) + 1074 + (K : Int)).toNat = ex (rg x):=by omega
   rw [this]; rfl)
  rw [hr]
  obtain ⟨a1,a2⟩:=hrnd.rel
  obtain ⟨n,hn⟩ : ∃ n : Rat,n = ((rv (rg x) : Nat) : Rat):=⟨_,rfl⟩
  obtain ⟨v,hv⟩ : ∃ v : Rat,v = ((rv r : Nat) : Rat):=⟨_,rfl⟩
  have pn : 0 <= n:=by rw [hn]; exact Rat.natCast_nonneg
  have pv : 0 <= v:=by rw [hv]; exact Rat.natCast_nonneg
  have e2 : ((2 : Nat) : Rat) = 2:=rfl
  have eB : ((B : Nat) : Rat) = 4503599627370496:=rfl
  have c1 : 9007199254740992 * n <= 9007199254740992 * (v * pw K) + (v * pw K + 4503599627370496 * pw K):=by
   have h:=le_nat a1
   simp only [Rat.natCast_mul,Rat.natCast_add,pw_cast,e2,eB] at h
   rw [<- hn,<- hv] at h
   grind
  have c2 : 9007199254740992 * (v * pw K) <= 9007199254740992 * n + (v * pw K + 4503599627370496 * pw K):=by
   have h:=le_nat a2
   simp only [Rat.natCast_mul,Rat.natCast_add,pw_cast,e2,eB] at h
   rw [<- hn,<- hv] at h
   grind
  have hbn : n * eta <= pw 62:=by
   have h:=hb
   rw [ab_fv x,<- hn] at h
   exact h
  have hrI : r < I:=by
   refine r_fin hrnd ?_
   have h1 : rv (rg x) <= rv (2046 * B):=by
    refine nat_le (eta_cancel ?_)
    rw [<- hn]
    have h2 : ((rv (2046 * B) : Nat) : Rat) * eta = top:=rfl
    rw [h2,top_eq]
    exact Rat.le_trans hbn (pw_le (by omega))
   exact Nat.le_trans h1 (Nat.le_mul_of_pos_right _ (Nat.two_pow_pos K))
  have hW : r < W:=Nat.lt_trans hrI I_lt_W
  rw [Nat.min_eq_left (Nat.le_of_lt hrI)]
  have f1:=rg_wd (sg x) r hW
  have f2:=sg_wd (sg x) r hW
  have hY:=fv_sg (wd (sg x) r)
  rw [f1,f2,<- hv] at hY
  have hX:=fv_sg x
  rw [<- hn] at hX
  have aY:=ab_fv (wd (sg x) r)
  rw [f1,<- hv] at aY
  have aX:=ab_fv x
  rw [<- hn] at aX
  refine ⟨⟨wd_lt _ _ hW,by rw [f1]; exact hrI⟩,?_,?_⟩
  ·rw [aY]
   have hd : ab (v * pw K - n) <= pw K * (uu * v + 1):=by
    have q1 : 9007199254740992 * (n - v * pw K) <= v * pw K + 4503599627370496 * pw K:=by grind
    have q2 : 9007199254740992 * (v * pw K - n) <= v * pw K + 4503599627370496 * pw K:=by grind
    have q3 : pw K * (uu * v + 1) = uu * (v * pw K) + pw K:=by grind
    have pvK:=Rat.mul_nonneg pv (Rat.le_of_lt pK)
    rw [q3]
    have q4 : v * pw K <= 9007199254740992 * (uu * (v * pw K)):=by
     have hu : (1 : Rat) <= 9007199254740992 * uu:=by decide +kernel
     have:=Rat.mul_le_mul_of_nonneg_right hu pvK
     grind
    exact ab_of (by grind) (by grind)
   have e5 : pw K * fv (wd (sg x) r) - fv x = (if sg x = true then -1 else 1) * ((v * pw K - n) * eta):=by
    rw [hY,hX]
    split <;> grind
   have e6 : ab (if sg x = true then (-1 : Rat) else 1) = 1:=by split <;> decide +kernel
   rw [e5,ab_mul,e6,ab_mul,ab_eta,Rat.one_mul]
   have h:=Rat.mul_le_mul_of_nonneg_right hd (Rat.le_of_lt pe)
   grind
  ·rw [aY,aX]
   have pvK:=Rat.mul_nonneg pv (Rat.le_of_lt pK)
   have q1 : v * pw K <= 2 * n + pw K:=by grind
   have h:=Rat.mul_le_mul_of_nonneg_right q1 (Rat.le_of_lt pe)
   have h2:=Rat.mul_le_mul_of_nonneg_right el (Rat.le_of_lt pK)
   have e5 : pw K * (v * eta) = v * pw K * eta:=by grind
   rw [e5]
   grind
theorem told_at {x K : Nat} {c : Int} (hx : fok x) (hK : K <= 14) (h : ab (fv x - pw K * (c : Rat)) <= pw K * (22 / 100)) (hc : ab (c : Rat) <= 140737488355328) : Fl.nearN (scW (-(K : Int)) x) = c:=by
 have pK:=pw_pos K
 have p1:=pw_one K
 have uM : pw K <= 16384:=by
  have h1:=pw_le hK
  have : pw 14 = 16384:=by decide +kernel
  grind
 have hX : ab (fv x) <= pw K * 140737488355329:=by
  have h1:=ab_tri (fv x - pw K * (c : Rat)) (pw K * (c : Rat))
  have e : fv x - pw K * (c : Rat) + pw K * (c : Rat) = fv x:=by grind
  have aK : ab (pw K) = pw K:=by unfold ab; rw [if_pos (Rat.le_of_lt pK)]
  rw [e,ab_mul,aK] at h1
  have h2:=rmul_le hc (Rat.le_of_lt pK)
  grind
 have hb : ab (fv x) <= pw 62:=by
  have h1:=Rat.mul_le_mul_of_nonneg_right uM (show (0 : Rat) <= 140737488355329 by decide)
  have e : (16384 : Rat) * 140737488355329 <= pw 62:=by decide +kernel
  grind
 obtain ⟨s1,s2,s3⟩:=scw_near hx hK hb
 generalize scW (-(K : Int)) x = y at *
 have hY : ab (fv y) <= 281474976710660:=by
  have h1 : pw K * ab (fv y) <= pw K * 281474976710660:=by grind
  exact rdiv_le pK h1
 have hu : uu * ab (fv y) + eta <= 4 / 100:=by
  have h1:=rmul_le hY (Rat.le_of_lt uu_pos)
  have h2 : uu * 281474976710660 <= 35 / 1000:=by decide +kernel
  have h3 : eta <= 5 / 1000:=by
   have h4:=eta_one
   have pe:=eta_pos
   have h5 : (200 : Rat) <= pw 1074:=Rat.le_trans (by decide +kernel : (200 : Rat) <= pw 8) (pw_le (by omega))
   have h6:=rmul_le h5 (Rat.le_of_lt pe)
   generalize pw 1074 = q at *
   grind
  grind
 refine near_told s1 ?_ hc
 have h1:=ab_tri (pw K * fv y - fv x) (fv x - pw K * (c : Rat))
 have e : pw K * fv y - fv x + (fv x - pw K * (c : Rat)) = pw K * (fv y - (c : Rat)):=by grind
 have aK : ab (pw K) = pw K:=by unfold ab; rw [if_pos (Rat.le_of_lt pK)]
 rw [e,ab_mul,aK] at h1
 have h2:=rmul_le hu (Rat.le_of_lt pK)
 exact rdiv_le pK (by grind)
end
end Go.Proofs.YtnpanpkahbcecaaGreatDoor

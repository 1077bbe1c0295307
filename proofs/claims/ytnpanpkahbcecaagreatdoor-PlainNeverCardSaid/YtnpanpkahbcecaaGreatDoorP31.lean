/-
Walk: ring.floats.
-/
import Derived.Test.YtnpanpkahbcecaaGreatDoorP30
import Derived.Laws.CopyOwn
import Derived.Deep.RegionWith
import Derived.Lib.Hide
set_option linter.unusedVariables false
set_option linter.unusedSimpArgs false
namespace Go.Proofs.YtnpanpkahbcecaaGreatDoor
section
open Go.RowKit
theorem CRow.heap {w : World} {base g n : Nat} {l : List (Nat × Nat)} (h : CRow w base g n l) : w.heap[g]? = some (.cells (l.map cvv).toArray 160 (0,0)):=by
 obtain ⟨h1,h2⟩:=h
 rcases h2 with ⟨h',_⟩ | ⟨g',cap',cur,h',hb,hg,hn,hc,hs,ht⟩
 ·cases h'
 ·have e : g = g' /\ n = cap':=by
   injection h' with e1 _ e3
   injection e1 with e1
   injection e1 with e1
   exact ⟨e1,e3⟩
  obtain ⟨rfl,rfl⟩:=e
  rw [List.take_of_length_le (by simp; omega)] at ht
  rw [hg,<- ht]
theorem CRow.ofHeap {w : World} {base g n : Nat} {l : List (Nat × Nat)} (hb : base <= g) (hl : l.length = n) (hm : n <= maxLen) (h : w.heap[g]? = some (.cells (l.map cvv).toArray 160 (0,0))) : CRow w base g n l:=by
 refine ⟨by simp [hl],.inr ⟨g,n,_,rfl,hb,h,Nat.le_refl _,hm,by simp [hl],?_⟩⟩
 rw [List.take_of_length_le (by simp [hl])]
set_option maxRecDepth 100000 in
set_option maxHeartbeats 2000000 in
theorem whalf_any (order n m : Nat) (l : List (Nat × Nat)) (w : World) (hn1 : 1 <= n) (hn : n <= 16384) (hm : m = max (n / 2) 1) (hrow : ∀ u,Below w.heap.size w u -> Calls Tryz.prog 204 #[.int .i64 order] u (RPostC u n l)) :
  Calls Tryz.prog 191 #[.int .i64 order] w (RPostC w m (l.take m)):=by
 obtain ⟨i0,hi0,hz0,hz1,hz2⟩:=info_parts c128_info
 have hmn : m <= n:=by omega
 have hm1 : 1 <= m:=by omega
 have HROW:=Hd (hrow w (Below.refl _ _))
 have t2 : Int.tdiv (n : Int) 2 = ((n / 2 : Nat) : Int):=by rw [Int.tdiv_eq_ediv_of_nonneg (by omega)]; omega
 have t2' : (n : Int) / 2 = ((n / 2 : Nat) : Int):=by omega
 have hmx : max ((n / 2 : Nat) : Int) 1 = (m : Int):=by omega
 obtain ⟨h,hh⟩ : ∃ h,h = n / 2:=⟨_,rfl⟩
 rw [<- hh] at t2 t2' hmx
 have v2 : IntKind.i64.wrap (h : Int) = (h : Int):=by rw [IntKind.wrap_i64]; omega
 have hmx2 : ((m : Int) = h \/ (m : Int) = 1):=by omega
 have hle : (1 : Int) <= h ↔ (m : Int) = h:=by omega
 clear hrow hm hh
 go_enter Tryz.func191,Tryz.ntmps191
 go_wp2_with fail
 refine HROW.out.mono ?_
 rintro e w1 ⟨g,rfl,hr,hb⟩
 have HR:=Hd hr
 have HB:=Hd hb
 clear hr hb
 go_wp2_with (refine wpList_make_full _ rfl (.tmp 20) (.tmp 20) 123 rfl w1.heap.size 160 i0 _ 1 Tryz.underlying123 hi0 hz0 hz1 .i64 .i64 _ _ m rfl rfl (by omega) (by omega) (by rw [hz2]; omega) (by simp only [maxLen]; omega) (Nat.le_refl _) ?_; intro w2 hown1 hg1; have HB1:=Hd ((Below.refl w1.heap.size w1).grown hg1 (Nat.le_refl _) (fun k hk=>by cases hk)); have ROW:=Hd (CRow.made hown1); clear hown1 hg1; have STOP : Hid True:=Hd trivial; revert STOP)
 intro STOP
 clear STOP
 clear t2 t2' hmx v2 hmx2 hle
 have HR2:=Hd (HR.out.below HB1.out)
 have hcur:=ROW.out.heap
 obtain ⟨g2,hg2⟩ : ∃ g2,g2 = w1.heap.size:=⟨_,rfl⟩
 have HG2:=Hd hg2
 have hBase : w.heap.size <= g2:=by rw [hg2]; exact HB.out.size
 have hLt : g2 < w2.heap.size:=by rw [hg2]; exact ROW.out.lt.2
 have HB2:=Hd (HB.out.trans (HB1.out.mono HB.out.size))
 rw [<- hg2] at hcur ⊢
 clear hg2
 have hcs : ((l.take m).map cvv).length = Nat.min n m:=by rw [List.length_map,List.length_take,HR.out.len]; exact Nat.min_comm _ _
 have hsrc : ∀ j v,((l.take m).map cvv)[j]? = some v -> w2.cell? ((⟨g,0,none⟩ : Addr).add j) = some v:=by
  intro j v hj
  have e : (⟨g,0,none⟩ : Addr).add j = ⟨g,j,none⟩:=by
   rcases j with _ | j
   ·rfl
   ·simp [Addr.add]
  rw [e]
  rw [List.getElem?_map] at hj
  obtain ⟨z,hz,rfl⟩:=Option.map_eq_some_iff.1 hj
  refine HR2.out.cell j z ?_
  rw [List.getElem?_take] at hz
  split at hz
  ·exact hz
  ·cases hz
 have hone : ∀ v ∈ (l.take m).map cvv,v.oneCell' = true:=by
  intro v hv
  obtain ⟨z,_,rfl⟩:=List.mem_map.1 hv
  rfl
 have hll : ((l.take m).map cvv).length = m:=by rw [hcs]; exact Nat.min_eq_right hmn
 have hfit : 0 + ((l.take m).map cvv).length <= ((List.replicate m ((0,0) : Nat × Nat)).map cvv).length:=by simp; omega
 have HFIN : Hid (∀ w3 : World,w3.heap[g2]? = some (.cells (splice ((List.replicate m ((0,0) : Nat × Nat)).map cvv) 0 ((l.take m).map cvv)).toArray 160 (0,0)) -> CRow w3 w.heap.size g2 m (l.take m)):=Hd (fun w3 h3=>by
  refine CRow.ofHeap hBase (by simpa using hll) (by simp only [maxLen]; omega) ?_
  rw [h3]
  unfold splice
  rw [hll,List.drop_of_length_le (by simp)]
  simp)
 have hsz1 : (Tryz.prog.info? 160).map (·.size) = some 1:=by kernel_rfl
 obtain ⟨X,hX⟩ : ∃ X,X = (l.take m).map cvv:=⟨_,rfl⟩
 rw [<- hX] at hcs hsrc hone hfit HFIN
 have hpos : 0 < X.length -> (some ⟨g2,0,none⟩ : Option Addr) = some ⟨g2,0,none⟩ /\ ∃ ad,(some ⟨g,0,none⟩ : Option Addr) = some ad /\ ∀ j v,X[j]? = some v -> w2.cell? (ad.add j) = some v:=fun _=>⟨rfl,_,rfl,hsrc⟩
 clear hsrc hX hll
 obtain ⟨Y,hY⟩ : ∃ Y,Y = (List.replicate m ((0,0) : Nat × Nat)).map cvv:=⟨_,rfl⟩
 rw [<- hY] at hcur hfit HFIN
 clear hY
 go_wp2_with (refine wpList_copy_splice (o:=⟨some 24,_,_,_,_,_⟩) rfl (.tmp 22) (.tmp 23) 123 123 rfl 160 Tryz.underlying123 hsz1 (some ⟨g2,0,none⟩) (some ⟨g,0,none⟩) m m n n rfl rfl g2 0 Y _ hcur X hcs hpos hfit hone w.heap.size w HB2.out hBase ?_; intro w3 HG3 hb3; have HBF:=Hd hb3; have HCR:=Hd (HFIN.out w3 HG3.out); clear hb3 HG3 hcur hpos hfit hone hcs)
 go_ret2
 exact ⟨_,rfl,HCR.out,HBF.out⟩
end
section
open Go.RowKit
structure RWd (P : Nat) (w : World) : Prop where
 aw : AW P w
 nib : TabAt 3 nibT w
 lt : 3 < w.heap.size
theorem RWd.below {P : Nat} {w w' : World} (h : RWd P w) (hb : Below w.heap.size w w') : RWd P w':=⟨h.aw.below hb,h.nib.below hb h.lt,Nat.lt_of_lt_of_le h.lt hb.size⟩
def Whl (P K : Nat) (l : List (Nat × Nat)) : Prop:=(K <= 2 /\ WhS P K (2 ^ K) l) \/ (∃ q,2 ^ K = 8 * q /\ WhB P K (2 ^ K) l)
theorem wrow_any (K P : Nat) (l : List (Nat × Nat)) (w : World) (hK : K <= 14) (hA : AW P w) (h : Whl P K l) : Calls Tryz.prog 204 #[.int .i64 K] w (RPostC w (2 ^ K) l):=by
 rcases h with ⟨h1,h2⟩ | ⟨q,h1,h2⟩
 ·exact wrow_small K P l w h1 hA h2
 ·exact wrow_big K P q l w hK h1 hA h2
def hlen (K : Nat) : Nat:=max (2 ^ K / 2) 1
def halfL (K : Nat) (l : List (Nat × Nat)) : List (Nat × Nat):=l.take (hlen K)
theorem whl_len {P K : Nat} {l : List (Nat × Nat)} (h : Whl P K l) : l.length = 2 ^ K:=by
 rcases h with ⟨_,h2⟩ | ⟨q,_,h2⟩
 ·exact h2.1
 ·exact h2.1
def wW (K : Nat) (half : List (Nat × Nat)) (k j : Nat) : Nat × Nat:=half.getD (j * 2 ^ (K - (k + 1))) (0,0)
theorem wW_get (K : Nat) (half : List (Nat × Nat)) (hl : half.length = hlen K) (k j : Nat) (hk : k < K) (hj : j < 2 ^ k) : half[j * 2 ^ (K - (k + 1))]? = some (wW K half k j):=by
 have h1 : j * 2 ^ (K - (k + 1)) < 2 ^ k * 2 ^ (K - (k + 1)):=Nat.mul_lt_mul_of_pos_right hj (Nat.two_pow_pos _)
 rw [<- Nat.pow_add,show k + (K - (k + 1)) = K - 1 by omega] at h1
 have h2 : 2 ^ K / 2 = 2 ^ (K - 1):=by
  conv=>lhs; rw [show K = (K - 1) + 1 by omega,Nat.pow_succ]
  omega
 unfold hlen at hl
 unfold wW
 rw [List.getD_eq_getElem?_getD,List.getElem?_eq_getElem (by omega)]
 rfl
set_option maxHeartbeats 1000000 in
theorem halved_any (K P n g : Nat) (l : List (Nat × Nat)) (w : World) (hK : K <= 14) (hn : n = 2 ^ K) (hR : RWd P w) (h : Whl P K l) :
  Calls Tryz.prog 168 #[.slice (some ⟨g,0,none⟩) n n] w fun e w'=>∃ gh,e = .returned (.tuple #[.slice (some ⟨gh,0,none⟩) (hlen K) (hlen K),.int .i64 K,.int .i64 0]) /\ CRow w' w.heap.size gh (hlen K) (halfL K l) /\ Below w.heap.size w w':=by
 have HO:=Hd (sorder_any K w hK hR.aw.tab)
 rw [<- hn] at HO
 have h2 : 2 ^ K <= 2 ^ 14:=Nat.pow_le_pow_right (by decide) hK
 have h1:=Nat.two_pow_pos K
 have HH:=Hd (whalf_any K n (hlen K) l w (by omega) (by omega) (by rw [hn]; rfl) (fun u hu=>by rw [hn]; exact wrow_any K P l u hK (hR.aw.below hu) h))
 obtain ⟨m,hm⟩ : ∃ m,m = hlen K:=⟨_,rfl⟩
 obtain ⟨L,hL⟩ : ∃ L,L = halfL K l:=⟨_,rfl⟩
 unfold halfL at hL
 rw [show halfL K l = l.take (hlen K) from rfl]
 rw [<- hL] at HH ⊢
 rw [<- hm] at HH ⊢
 clear hn hR h hm hL h2 h1
 go_enter Tryz.func168,Tryz.ntmps168
 go_wp2_with fail
 refine HO.out.mono ?_
 rintro e w1 ⟨rfl,rfl⟩
 go_wp2_with fail
 refine HH.out.mono ?_
 rintro e w1 ⟨gh,rfl,hr,hb⟩
 have HR:=Hd hr
 have HB:=Hd hb
 clear hr hb
 go_wp2_with fail
 go_ret3
 exact ⟨_,rfl,HR.out,HB.out⟩
set_option maxHeartbeats 1000000 in
theorem forward_any (K P n g : Nat) (l xs : List (Nat × Nat)) (x : Nat -> Nat × Nat) (w : World) (hK : K <= 14) (hn : n = 2 ^ K) (hR : RWd P w) (h : Whl P K l) (hr : CRow w 0 g n xs) (hx : ∀ p < n,xs[p]? = some (x p)) (hok : StepOk (wW K (halfL K l)) K x) :
  Calls Tryz.prog 127 #[.slice (some ⟨g,0,none⟩) n n] w (RPostC w n ((List.range n).map (LV (wW K (halfL K l)) K x K))):=by
 have hlen' : (halfL K l).length = hlen K:=by
  unfold halfL
  rw [List.length_take,whl_len h]
  unfold hlen
  have h1:=Nat.two_pow_pos K
  omega
 have HH:=Hd (halved_any K P n g l w hK hn hR h)
 have HS:=Hd (fun (u : World) (hu : Below w.heap.size w u) gh (hh : CRow u 0 gh (hlen K) (halfL K l))=>steps_any K n g gh (hlen K) xs (halfL K l) (wW K (halfL K l)) x u hK hn (hr.below hu) hx hh (fun k j hk hj=>wW_get K _ hlen' k j hk hj) hok (hR.below hu).aw.tab (hR.below hu).nib (hR.below hu).lt)
 obtain ⟨m,hm⟩ : ∃ m,m = hlen K:=⟨_,rfl⟩
 obtain ⟨L,hL⟩ : ∃ L,L = halfL K l:=⟨_,rfl⟩
 rw [<- hm] at HH HS
 rw [<- hL] at HH HS ⊢
 obtain ⟨Z,hZ⟩ : ∃ Z,Z = (List.range n).map (LV (wW K L) K x K):=⟨_,rfl⟩
 rw [<- hZ] at HS ⊢
 clear hn hR h hm hL hr hx hok hlen' hZ
 go_enter Tryz.func127,Tryz.ntmps127
 go_wp2_with fail
 refine HH.out.mono ?_
 rintro e w1 ⟨gh,rfl,hr,hb⟩
 have HC:=Hd (HS.out w1 hb gh (hr.base (Nat.zero_le _)))
 have HB:=Hd hb
 clear hr hb HS HH
 go_wp2_with fail
 refine HC.out.mono ?_
 rintro e w2 ⟨g2,rfl,hr2,hb2⟩
 have HR2:=Hd (hr2.base (Nat.le_trans HB.out.size hr2.lt.1))
 have HB2:=Hd (HB.out.trans (hb2.mono HB.out.size))
 clear hr2 hb2
 go_wp2_with fail
 go_ret2
 exact ⟨_,rfl,HR2.out,HB2.out⟩
end
section
open Go.RowKit
set_option maxRecDepth 100000 in
set_option maxHeartbeats 4000000 in
theorem tpoint_any (n ga gb : Nat) (a b L : List (Nat × Nat)) (w : World) (hn1 : 1 <= n) (hn2 : n <= 16384) (ha : CRow w 0 ga n a) (hb : CRow w 0 gb n b)
  (hL : L.length = n) (h : ∀ i < n,∃ y z,a[i]? = some y /\ b[i]? = some z /\ CMul y z /\ L[i]? = some (cmul y z)) :
  Calls Tryz.prog 89 #[.slice (some ⟨ga,0,none⟩) n n,.slice (some ⟨gb,0,none⟩) n n] w (RPostC w n L):=by
 obtain ⟨i0,hi0,hz0,hz1,hz2⟩:=info_parts c128_info
 have HA:=Hd ha
 have HBB:=Hd hb
 have HLL:=Hd hL
 have HS:=Hd h
 clear ha hb hL h
 go_enter Tryz.func89,Tryz.ntmps89
 go_wp2_with (refine wpList_make_full _ rfl (.tmp 14) (.tmp 14) 123 rfl w.heap.size 160 i0 _ 1 Tryz.underlying123 hi0 hz0 hz1 .i64 .i64 _ _ n rfl rfl (by omega) (by omega) (by rw [hz2]; omega) (by simp only [maxLen]; omega) (Nat.le_refl _) ?_; intro w1 hown1 hg1; have HB1:=Hd ((Below.refl w.heap.size w).grown hg1 (Nat.le_refl _) (fun k hk=>by cases hk)); have ROW:=Hd (CRow.made hown1); clear hown1 hg1)
 go_loopw [18] (fun iv wr=>∃ (i : Nat) (o : List (Nat × Nat)),iv = .int .i64 i /\ i <= n /\ Hid (∀ j < i,o[j]? = L[j]?) /\ Hid (CRow wr w.heap.size w.heap.size n o) /\ Hid (Below w.heap.size w wr)) (fun iv _=>n - (intOf iv).toNat)
 case atStart=>exact ⟨0,List.replicate n (0,0),rfl,Nat.zero_le _,Hd (fun j hj=>absurd hj (Nat.not_lt_zero _)),ROW,HB1⟩
 case round =>
  clear ROW HB1
  obtain ⟨i,o,rfl,hi,HI,HR,HB⟩:=hrel
  by_cases hlt : i < n
  ·obtain ⟨y,z,k1,k2,k3,k4⟩:=HS.out i hlt
   have HC:=Hd (fun u=>pmul_any y z u k3)
   obtain ⟨t,ht⟩ : ∃ t,t = cmul y z:=⟨_,rfl⟩
   rw [<- ht] at HC k4
   have d1:=(HA.out.below HB.out).cell i y k1
   have d2:=(HBB.out.below HB.out).cell i z k2
   obtain ⟨v0,hv0⟩ : ∃ v0,o[i]? = some v0:=⟨_,List.getElem?_eq_getElem (by have:=HR.out.len; omega)⟩
   have hcell:=HR.out.cell i v0 hv0
   have hfr:=HR.out.free i
   have b1 : (i : Int) < (n : Int):=by omega
   have HIN : Hid (∀ j < i + 1,(o.set i t)[j]? = L[j]?):=Hd (fun j hj=>by
    have hol : o.length = L.length:=by rw [HR.out.len,HLL.out]
    by_cases e : j = i
    ·subst e; exact set_right_self k4 hol
    ·exact set_right k4 hol (HI.out j (by omega)))
   have hst:=fun u : World=>run_store_complex (P:=Tryz.prog) (w:=u) (a:=⟨w.heap.size,i,none⟩) (m:=.plain) .f64 t.1 t.2
   have HRN:=Hd (HR.out.set i t)
   have HBN:=Hd (HB.out.setCell (p:=⟨w.heap.size,i,none⟩) (Nat.le_refl _) (.complex .f64 t.1 t.2))
   clear k1 k2 k3 k4 ht hv0
   go_wp2_with fail
   go_region_with (first | (go_at_call 129; refine (HC.out _).mono ?_; rintro e w2 ⟨rfl,rfl⟩))
   all_goals (go_wp2_with fail; exact ⟨⟨i + 1,_,by go_num,hlt,HIN,Hd HRN.out.drew,Hd (below_drew HBN.out)⟩,by simp [intOf]; omega⟩)
  ·obtain rfl : n = i:=by omega
   have HOL : Hid (o = L):=Hd (by
    apply List.ext_getElem?
    intro k
    by_cases hk : k < n
    ·exact HI.out k hk
    ·rw [List.getElem?_eq_none (by rw [HR.out.len]; omega),List.getElem?_eq_none (by rw [HLL.out]; omega)])
   go_wp2_with fail
   go_ret2
   exact ⟨_,rfl,by rw [<- HOL.out]; exact HR.out,HB.out⟩
end
section
open Go.RowKit
def scW (k : Int) (x : Nat) : Nat:=if Fl.rg x = 0 then x else Fl.scl x k
def finW (x : Nat) : Prop:=x < 2 * Fl.W /\ Fl.rg x < Fl.I
theorem ldexp_any (x : Nat) (k : Int) (w : World) (hx : finW x) (hk1 : -1000000 <= k) (hk2 : k <= 1000000) :
  Calls Tryz.prog 94 #[.float .f64 x,.int .i64 k] w fun e w'=>e = .returned (.float .f64 (scW k x)) /\ w = w':=by
 unfold scW
 by_cases h : Fl.rg x = 0
 ·rw [if_pos h]; exact ldexp_zero x k w h
 ·rw [if_neg h]; exact ldexp_fin x k w hx.1 (by omega) hx.2 hk1 hk2
theorem pscale_any (a b : Nat) (k : Int) (w : World) (ha : finW a) (hb : finW b) (hk1 : -4000 <= k) (hk2 : k <= 4000) :
  Calls Tryz.prog 171 #[.complex .f64 a b,.int .i64 k] w fun e w'=>e = .returned (.complex .f64 (scW k a) (scW k b)) /\ w = w':=by
 have HA:=Hd (fun u=>ldexp_any a k u ha (by omega) (by omega))
 have HB:=Hd (fun u=>ldexp_any b k u hb (by omega) (by omega))
 have m1 : min k 4000 = k:=by omega
 have m2 : max k (-4000) = k:=by omega
 clear ha hb
 go_enter Tryz.func171,Tryz.ntmps171
 go_wp2_with fail
 refine (HA.out _).mono ?_
 rintro e w1 ⟨rfl,rfl⟩
 go_wp2_with fail
 refine (HB.out _).mono ?_
 rintro e w1 ⟨rfl,rfl⟩
 go_wp2
 go_ret
 exact ⟨rfl,rfl⟩
def cjW (z : Nat × Nat) : Nat × Nat:=(z.1,Fl.ng z.2)
theorem pconj_cj (z : Nat × Nat) (w : World) (hb : z.2 < 2 * Fl.W) : Calls Tryz.prog 170 #[.complex .f64 z.1 z.2] w fun e w'=>e = .returned (.complex .f64 (cjW z).1 (cjW z).2) /\ w = w':=pconj_any z.1 z.2 w hb
def scC (k : Int) (z : Nat × Nat) : Nat × Nat:=(scW k z.1,scW k z.2)
set_option maxRecDepth 100000 in
set_option maxHeartbeats 4000000 in
theorem back_any (K P n g : Nat) (l xs : List (Nat × Nat)) (x : Nat -> Nat × Nat) (w : World) (hK : K <= 14) (hn : n = 2 ^ K) (hR : RWd P w) (h : Whl P K l) (hv : ∀ z ∈ l,z.2 < 2 * Fl.W) (hr : CRow w 0 g n xs) (hx : ∀ p < n,xs[p]? = some (x p))
  (hok : StepOk (wW K ((halfL K l).map cjW)) K x) (hf : ∀ p < n,finW (LV (wW K ((halfL K l).map cjW)) K x K p).1 /\ finW (LV (wW K ((halfL K l).map cjW)) K x K p).2) :
  Calls Tryz.prog 130 #[.slice (some ⟨g,0,none⟩) n n] w (RPostC w n ((List.range n).map (fun p=>scC (-(K : Int)) (LV (wW K ((halfL K l).map cjW)) K x K p)))):=by
 have hlen' : (halfL K l).length = hlen K:=by
  unfold halfL
  rw [List.length_take,whl_len h]
  unfold hlen
  have h1:=Nat.two_pow_pos K
  omega
 have h2 : 2 ^ K <= 2 ^ 14:=Nat.pow_le_pow_right (by decide) hK
 have h1:=Nat.two_pow_pos K
 have hm16 : hlen K <= 16384:=by unfold hlen; omega
 have HH:=Hd (halved_any K P n g l w hK hn hR h)
 have HV : Hid (∀ z ∈ halfL K l,z.2 < 2 * Fl.W):=Hd (fun z hz=>hv z (List.mem_of_mem_take hz))
 have hlen2 : ((halfL K l).map cjW).length = hlen K:=by rw [List.length_map]; exact hlen'
 have HS:=Hd (fun (u : World) (hu : Below w.heap.size w u) gh (hh : CRow u 0 gh (hlen K) ((halfL K l).map cjW))=>steps_any K n g gh (hlen K) xs ((halfL K l).map cjW) (wW K ((halfL K l).map cjW)) x u hK hn (hr.below hu) hx hh (fun k j hk hj=>wW_get K _ hlen2 k j hk hj) hok (hR.below hu).aw.tab (hR.below hu).nib (hR.below hu).lt)
 have HF:=Hd hf
 have hn16 : n <= 16384:=by omega
 obtain ⟨m,hm⟩ : ∃ m,m = hlen K:=⟨_,rfl⟩
 obtain ⟨L,hL⟩ : ∃ L,L = halfL K l:=⟨_,rfl⟩
 rw [<- hm] at HH HS hlen' hm16
 rw [<- hL] at HH HS HV HF hlen' ⊢
 obtain ⟨F,hF⟩ : ∃ F,F = LV (wW K (L.map cjW)) K x K:=⟨_,rfl⟩
 rw [<- hF] at HS HF ⊢
 have HLL:=Hd hlen'
 obtain ⟨M,hM⟩ : ∃ M,M = L.map cjW:=⟨_,rfl⟩
 rw [<- hM] at HS
 have HML:=Hd hM
 have hK1 : IntKind.i64.wrap (-(K : Int)) = -(K : Int):=by rw [IntKind.wrap_i64]; omega
 clear hn hR h hm hL hr hx hok hlen' hlen2 hF hf h1 h2 hv hM
 go_enter Tryz.func130,Tryz.ntmps130
 go_wp2_with fail
 refine HH.out.mono ?_
 rintro e w1 ⟨gh,rfl,hr,hb⟩
 have HR:=Hd hr
 have HB:=Hd hb
 have hgh:=hr.lt.1
 clear hr hb HH
 go_wp2_with fail
 go_loopw [23] (fun iv wr=>∃ (i : Nat) (o : List (Nat × Nat)),iv = .int .i64 i /\ i <= m /\ Hid (∀ p,o[p]? = if p < i then M[p]? else L[p]?) /\ Hid (CRow wr w.heap.size gh m o) /\ Hid (Below w.heap.size w wr)) (fun iv _=>m - (intOf iv).toNat)
 case atStart=>exact ⟨0,L,rfl,Nat.zero_le _,Hd (fun p=>by rw [if_neg (by omega)]),HR,HB⟩
 case round =>
  clear HR HB
  obtain ⟨i,o,rfl,hi,HI,HR,HB⟩:=hrel
  by_cases hlt : i < m
  ·obtain ⟨z,hz⟩ : ∃ z,L[i]? = some z:=⟨_,List.getElem?_eq_getElem (by rw [HLL.out]; exact hlt)⟩
   have hzv:=HV.out z (List.mem_of_getElem? hz)
   have hoz : o[i]? = some z:=by rw [HI.out i,if_neg (by omega)]; exact hz
   obtain ⟨y,hy⟩ : ∃ y,y = cjW z:=⟨_,rfl⟩
   have hMz : M[i]? = some y:=by rw [HML.out,List.getElem?_map,hz,hy]; rfl
   have HC:=Hd (fun u=>pconj_cj z u hzv)
   rw [<- hy] at HC
   have d1:=HR.out.cell i z hoz
   have hfr:=HR.out.free i
   have hol:=HR.out.len
   have HRN:=Hd (HR.out.set i y)
   have HBN:=Hd (HB.out.setCell (p:=⟨gh,i,none⟩) hgh (.complex .f64 y.1 y.2))
   have HIN : Hid (∀ p,(o.set i y)[p]? = if p < i + 1 then M[p]? else L[p]?):=Hd (fun p=>by
    by_cases e : p = i
    ·subst e; rw [List.getElem?_set_self (by omega),if_pos (by omega),hMz]
    ·rw [List.getElem?_set_ne (fun e'=>e e'.symm),HI.out p]
     by_cases c : p < i
     ·rw [if_pos c,if_pos (by omega)]
     ·rw [if_neg c,if_neg (by omega)])
   have hst:=fun u : World=>run_store_complex (P:=Tryz.prog) (w:=u) (a:=⟨gh,i,none⟩) (m:=.plain) .f64 y.1 y.2
   clear hz hzv hoz hMz hol hy
   go_wp2_with fail
   refine (HC.out _).mono ?_
   rintro e w2 ⟨rfl,rfl⟩
   go_wp2_with fail
   exact ⟨⟨i + 1,_,by go_num,hlt,HIN,HRN,HBN⟩,by simp [intOf]; omega⟩
  ·obtain rfl : m = i:=by omega
   have HOM : Hid (o = M):=Hd (by
    apply List.ext_getElem?
    intro p
    rw [HI.out p]
    by_cases c : p < m
    ·rw [if_pos c]
    ·rw [if_neg c,List.getElem?_eq_none (by rw [HLL.out]; omega),List.getElem?_eq_none (by rw [HML.out,List.length_map,HLL.out]; omega)])
   have HC:=Hd (HS.out _ HB.out gh (by rw [<- HOM.out]; exact HR.out.base (Nat.zero_le _)))
   clear HI HR HOM
   go_wp2_with fail
   refine HC.out.mono ?_
   rintro e w2 ⟨g2,rfl,hr2,hb2⟩
   have hg2 : w.heap.size <= g2:=Nat.le_trans HB.out.size hr2.lt.1
   have HR2:=Hd (hr2.base hg2)
   have HB2:=Hd (HB.out.trans (hb2.mono HB.out.size))
   clear hr2 hb2 HB HC
   go_wp2_with fail
   go_loopw [42] (fun iv wr=>∃ (i : Nat) (o : List (Nat × Nat)),iv = .int .i64 i /\ i <= n /\ Hid (∀ p < n,o[p]? = some (if p < i then scC (-(K : Int)) (F p) else F p)) /\ Hid (CRow wr w.heap.size g2 n o) /\ Hid (Below w.heap.size w wr)) (fun iv _=>n - (intOf iv).toNat)
   case atStart=>exact ⟨0,(List.range n).map F,rfl,Nat.zero_le _,Hd (fun p hp=>by rw [if_neg (by omega),List.getElem?_map,List.getElem?_range hp]; rfl),HR2,HB2⟩
   case round =>
    clear HR2 HB2
    obtain ⟨i,o,rfl,hi,HI,HR,HB⟩:=hrel
    by_cases hlt : i < n
    ·have hoz : o[i]? = some (F i):=by rw [HI.out i hlt,if_neg (by omega)]
     obtain ⟨f1,f2⟩:=HF.out i hlt
     obtain ⟨z,hz⟩ : ∃ z,z = F i:=⟨_,rfl⟩
     rw [<- hz] at hoz f1 f2
     have HC:=Hd (fun u=>pscale_any z.1 z.2 (-(K : Int)) u f1 f2 (by omega) (by omega))
     obtain ⟨y,hy⟩ : ∃ y : Nat × Nat,y = (scW (-(K : Int)) z.1,scW (-(K : Int)) z.2):=⟨_,rfl⟩
     have hy1 : scW (-(K : Int)) z.1 = y.1:=by rw [hy]
     have hy2 : scW (-(K : Int)) z.2 = y.2:=by rw [hy]
     rw [hy1,hy2] at HC
     have hyF : y = scC (-(K : Int)) (F i):=by rw [hy,<- hz]; rfl
     have d1:=HR.out.cell i z hoz
     have hfr:=HR.out.free i
     have hol:=HR.out.len
     have HRN:=Hd (HR.out.set i y)
     have HBN:=Hd (HB.out.setCell (p:=⟨g2,i,none⟩) hg2 (.complex .f64 y.1 y.2))
     have HIN : Hid (∀ p < n,(o.set i y)[p]? = some (if p < i + 1 then scC (-(K : Int)) (F p) else F p)):=Hd (fun p hp=>by
      by_cases e : p = i
      ·subst e; rw [List.getElem?_set_self (by omega),if_pos (by omega),hyF]
      ·rw [List.getElem?_set_ne (fun e'=>e e'.symm),HI.out p hp]
       by_cases c : p < i
       ·rw [if_pos c,if_pos (by omega)]
       ·rw [if_neg c,if_neg (by omega)])
     have hst:=fun u : World=>run_store_complex (P:=Tryz.prog) (w:=u) (a:=⟨g2,i,none⟩) (m:=.plain) .f64 y.1 y.2
     clear hz hoz hol f1 f2 hy hy1 hy2 hyF
     go_wp2_with fail
     refine (HC.out _).mono ?_
     rintro e w2 ⟨rfl,rfl⟩
     go_wp2_with fail
     exact ⟨⟨i + 1,_,by go_num,hlt,HIN,HRN,HBN⟩,by simp [intOf]; omega⟩
    ·obtain rfl : n = i:=by omega
     have HOL : Hid (o = (List.range n).map (fun p=>scC (-(K : Int)) (F p))):=Hd (by
      apply List.ext_getElem?
      intro p
      by_cases hp : p < n
      ·rw [HI.out p hp,if_pos hp,List.getElem?_map,List.getElem?_range hp]; rfl
      ·rw [List.getElem?_eq_none (by rw [HR.out.len]; omega),List.getElem?_eq_none (by simp; omega)])
     go_wp2_with fail
     go_ret2
     exact ⟨_,rfl,by rw [<- HOL.out]; exact HR.out,HB.out⟩
end
section
open Go.RowKit
theorem run_store_float {P : Program} {w : World} {a : Addr} {m : Mode} (k : FloatKind) (x : Nat) : (store a (.float k x) m).run P w = stored P w a (.float k x) m:=run_store P w a _ m rfl
theorem run_makeF (w : World) (n : Nat) (hn : n <= 16384) : (Instr.makeSlice 120 (.int .i64 n) (.int .i64 n)).run Tryz.prog w = .ok (.slice (some ⟨w.heap.size,0,none⟩) n n) (w.alloc (.cells (madeCells #[.float .f64 0] n) 76)):=by
 obtain ⟨i0,hi0,hz0,hz1,hz2⟩:=info_parts f64_info
 have h:=run_makeSlice (P:=Tryz.prog) w 120 76 i0 _ Tryz.underlying120 hi0 hz0 .i64 .i64 n n (by omega) (by omega) (by rw [hz1]; omega) (by rw [hz2]; omega) (by omega)
 rw [h,hz1]
 simp
 rfl
theorem FRow.alloc (v : World) (base n : Nat) (hb : base <= v.heap.size) (hn : n <= maxLen) : FRow (v.alloc (.cells (madeCells #[.float .f64 0] n) 76)) base v.heap.size n (List.replicate n 0):=by
 have e : (madeCells #[Value.float .f64 0] n).toList = List.replicate n (Value.float .f64 0):=toList_madeCells_one _ _
 refine ⟨by simp,.inr ⟨v.heap.size,n,madeCells #[.float .f64 0] n,rfl,hb,(show (v.heap.push _)[v.heap.size]? = _ from Array.getElem?_push_size),Nat.le_refl _,hn,by simp [size_madeCells],?_⟩⟩
 rw [Nat.mul_one,e,List.map_replicate,List.take_of_length_le (by simp)]
 rfl
set_option maxRecDepth 100000 in
set_option maxHeartbeats 2000000 in
theorem split_any (n g : Nat) (a : List (Nat × Nat)) (w : World) (hn1 : 1 <= n) (hn2 : n <= 16384) (ha : CRow w 0 g n a) :
  Calls Tryz.prog 131 #[.slice (some ⟨g,0,none⟩) n n] w fun e w'=>∃ g1 g2,e = .returned (.tuple #[.slice (some ⟨g1,0,none⟩) n n,.slice (some ⟨g2,0,none⟩) n n]) /\ FRow w' w.heap.size g1 n (a.map (·.1)) /\ Below w.heap.size w w':=by
 obtain ⟨i0,hi0,hz0,hz1,hz2⟩:=info_parts f64_info
 have HA:=Hd ha
 have HLL:=Hd ha.len
 have hmk:=fun u : World=>run_makeF u n hn2
 have h1:=FRow.alloc w w.heap.size n (Nat.le_refl _) (by simp only [maxLen]; omega)
 have hb1:=(Below.refl w.heap.size w).alloc (Nat.le_refl _) (.cells (madeCells #[.float .f64 0] n) 76)
 have h2:=FRow.alloc (w.alloc (.cells (madeCells #[.float .f64 0] n) 76)) w.heap.size n hb1.size (by simp only [maxLen]; omega)
 have hb2:=(Below.refl (w.alloc (.cells (madeCells #[.float .f64 0] n) 76)).heap.size (w.alloc (.cells (madeCells #[.float .f64 0] n) 76))).alloc (Nat.le_refl _) (.cells (madeCells #[.float .f64 0] n) 76)
 rw [show (w.alloc (.cells (madeCells #[.float .f64 0] n) 76)).heap.size = w.heap.size + 1 by simp] at h2
 have HR1:=Hd (h1.below hb2).drew
 have HR2:=Hd h2.drew
 have HB0:=Hd (below_drew (hb1.trans (hb2.mono hb1.size)))
 obtain ⟨L,hL⟩ : ∃ L : List Nat,L = a.map (·.1):=⟨_,rfl⟩
 have HLM:=Hd hL
 rw [<- hL]
 clear ha h1 hb1 h2 hb2 hL
 go_enter Tryz.func131,Tryz.ntmps131
 go_wp2_with fail
 go_region
 ·obtain ⟨W,hW⟩ : ∃ W,W = ((w.alloc (.cells (madeCells #[.float .f64 0] n) 76)).alloc (.cells (madeCells #[.float .f64 0] n) 76)).drew:=⟨_,rfl⟩
  obtain ⟨ga,hga⟩ : ∃ ga,ga = w.heap.size:=⟨_,rfl⟩
  obtain ⟨gb,hgb⟩ : ∃ gb,gb = w.heap.size + 1:=⟨_,rfl⟩
  have R1 : Hid (FRow W w.heap.size ga n (List.replicate n 0)):=Hd (by rw [hW,hga]; exact HR1.out)
  have R2 : Hid (FRow W w.heap.size gb n (List.replicate n 0)):=Hd (by rw [hW,hgb]; exact HR2.out)
  have B1 : Hid (Below w.heap.size w W):=Hd (by rw [hW]; exact HB0.out)
  have ba : w.heap.size <= ga:=by omega
  have bb : w.heap.size <= gb:=by omega
  have hne : ga ≠ gb:=by omega
  have HBS:=Hd ba
  rw [<- hW,<- hgb,<- hga]
  clear hW hga hgb HR1 HR2 HB0 hmk
  go_wp2_with fail
  go_loopw [16] (fun iv wr=>∃ (i : Nat) (o o2 : List Nat),iv = .int .i64 i /\ i <= n /\ Hid (∀ j < i,o[j]? = L[j]?) /\ Hid (FRow wr w.heap.size ga n o) /\ Hid (FRow wr w.heap.size gb n o2) /\ Hid (Below w.heap.size w wr)) (fun iv _=>n - (intOf iv).toNat)
  case atStart=>exact ⟨0,List.replicate n 0,List.replicate n 0,rfl,Nat.zero_le _,Hd (fun j hj=>absurd hj (Nat.not_lt_zero _)),R1,R2,B1⟩
  case round =>
   clear R1 R2 B1
   obtain ⟨i,o,o2,rfl,hi,HI,HR,HR',HB⟩:=hrel
   by_cases hlt : i < n
   ·obtain ⟨z,hz⟩ : ∃ z,a[i]? = some z:=⟨_,List.getElem?_eq_getElem (by rw [HLL.out]; exact hlt)⟩
    have d1:=(HA.out.below HB.out).cell i z hz
    have k4 : L[i]? = some z.1:=by rw [HLM.out,List.getElem?_map,hz]; rfl
    obtain ⟨v0,hv0⟩ : ∃ v0,o[i]? = some v0:=⟨_,List.getElem?_eq_getElem (by have:=HR.out.len; omega)⟩
    have hcell:=HR.out.cell i v0 hv0
    have hfr:=HR.out.free i
    obtain ⟨v1,hv1⟩ : ∃ v1,o2[i]? = some v1:=⟨_,List.getElem?_eq_getElem (by have:=HR'.out.len; omega)⟩
    have HR1:=Hd (HR.out.set i z.1)
    have HR1':=Hd (RowV.setOther (e':=76) HR'.out ga i (.float .f64 z.1) (by omega) (by omega))
    have HR1'' : Hid (FRow (wr.setCell ⟨ga,i,none⟩ (.float .f64 z.1)) w.heap.size gb n o2):=Hd HR1'.out
    have hcell2:=HR1''.out.cell i v1 hv1
    have hfr2:=HR1''.out.free i
    have HR2':=Hd (HR1''.out.set i z.2)
    have HR2 : Hid (FRow ((wr.setCell ⟨ga,i,none⟩ (.float .f64 z.1)).setCell ⟨gb,i,none⟩ (.float .f64 z.2)) w.heap.size ga n (o.set i z.1)):=Hd (RowV.setOther (e':=76) HR1.out gb i (.float .f64 z.2) (by omega) (by omega))
    have hst:=fun u : World=>run_store_float (P:=Tryz.prog) (w:=u) (a:=⟨ga,i,none⟩) (m:=.plain) .f64 z.1
    have hst2:=fun u : World=>run_store_float (P:=Tryz.prog) (w:=u) (a:=⟨gb,i,none⟩) (m:=.plain) .f64 z.2
    have HBN:=Hd ((HB.out.setCell (p:=⟨ga,i,none⟩) (by omega) (.float .f64 z.1)).setCell (p:=⟨gb,i,none⟩) (by omega) (.float .f64 z.2))
    have hLn : L.length = n:=by rw [HLM.out,List.length_map,HLL.out]
    have HIN : Hid (∀ j < i + 1,(o.set i z.1)[j]? = L[j]?):=Hd (fun j hj=>by
     have hol : o.length = L.length:=by rw [HR.out.len,hLn]
     by_cases e : j = i
     ·subst e; exact set_right_self k4 hol
     ·exact set_right k4 hol (HI.out j (by omega)))
    clear hz k4 hv0 hv1 hLn HR1 HR1' HR1'' HB HR HR'
    go_wp2_with fail
    exact ⟨⟨i + 1,_,_,by go_num,hlt,HIN,HR2,HR2',HBN⟩,by simp [intOf]; omega⟩
   ·obtain rfl : n = i:=by omega
    have HOL : Hid (o = L):=Hd (by
     apply List.ext_getElem?
     intro k
     by_cases hk : k < n
     ·exact HI.out k hk
     ·rw [List.getElem?_eq_none (by rw [HR.out.len]; omega),List.getElem?_eq_none (by rw [HLM.out,List.length_map,HLL.out]; omega)])
    go_wp2_with fail
    go_ret2
    exact ⟨_,_,rfl,by rw [<- HOL.out]; exact HR.out,HB.out⟩
 ·obtain ⟨W,hW⟩ : ∃ W,W = ((w.alloc (.cells (madeCells #[.float .f64 0] n) 76)).alloc (.cells (madeCells #[.float .f64 0] n) 76)).drew:=⟨_,rfl⟩
  obtain ⟨ga,hga⟩ : ∃ ga,ga = w.heap.size:=⟨_,rfl⟩
  obtain ⟨gb,hgb⟩ : ∃ gb,gb = w.heap.size + 1:=⟨_,rfl⟩
  have R1 : Hid (FRow W w.heap.size ga n (List.replicate n 0)):=Hd (by rw [hW,hga]; exact HR1.out)
  have R2 : Hid (FRow W w.heap.size gb n (List.replicate n 0)):=Hd (by rw [hW,hgb]; exact HR2.out)
  have B1 : Hid (Below w.heap.size w W):=Hd (by rw [hW]; exact HB0.out)
  have ba : w.heap.size <= ga:=by omega
  have bb : w.heap.size <= gb:=by omega
  have hne : ga ≠ gb:=by omega
  have HBS:=Hd ba
  rw [<- hW,<- hgb,<- hga]
  clear hW hga hgb HR1 HR2 HB0 hmk
  go_wp2_with fail
  go_loopw [16] (fun iv wr=>∃ (i : Nat) (o o2 : List Nat),iv = .int .i64 i /\ i <= n /\ Hid (∀ j < i,o[j]? = L[j]?) /\ Hid (FRow wr w.heap.size gb n o) /\ Hid (FRow wr w.heap.size ga n o2) /\ Hid (Below w.heap.size w wr)) (fun iv _=>n - (intOf iv).toNat)
  case atStart=>exact ⟨0,List.replicate n 0,List.replicate n 0,rfl,Nat.zero_le _,Hd (fun j hj=>absurd hj (Nat.not_lt_zero _)),R2,R1,B1⟩
  case round =>
   clear R1 R2 B1
   obtain ⟨i,o,o2,rfl,hi,HI,HR,HR',HB⟩:=hrel
   by_cases hlt : i < n
   ·obtain ⟨z,hz⟩ : ∃ z,a[i]? = some z:=⟨_,List.getElem?_eq_getElem (by rw [HLL.out]; exact hlt)⟩
    have d1:=(HA.out.below HB.out).cell i z hz
    have k4 : L[i]? = some z.1:=by rw [HLM.out,List.getElem?_map,hz]; rfl
    obtain ⟨v0,hv0⟩ : ∃ v0,o[i]? = some v0:=⟨_,List.getElem?_eq_getElem (by have:=HR.out.len; omega)⟩
    have hcell:=HR.out.cell i v0 hv0
    have hfr:=HR.out.free i
    obtain ⟨v1,hv1⟩ : ∃ v1,o2[i]? = some v1:=⟨_,List.getElem?_eq_getElem (by have:=HR'.out.len; omega)⟩
    have HR1:=Hd (HR.out.set i z.1)
    have HR1':=Hd (RowV.setOther (e':=76) HR'.out gb i (.float .f64 z.1) (by omega) (by omega))
    have HR1'' : Hid (FRow (wr.setCell ⟨gb,i,none⟩ (.float .f64 z.1)) w.heap.size ga n o2):=Hd HR1'.out
    have hcell2:=HR1''.out.cell i v1 hv1
    have hfr2:=HR1''.out.free i
    have HR2':=Hd (HR1''.out.set i z.2)
    have HR2 : Hid (FRow ((wr.setCell ⟨gb,i,none⟩ (.float .f64 z.1)).setCell ⟨ga,i,none⟩ (.float .f64 z.2)) w.heap.size gb n (o.set i z.1)):=Hd (RowV.setOther (e':=76) HR1.out ga i (.float .f64 z.2) (by omega) (by omega))
    have hst:=fun u : World=>run_store_float (P:=Tryz.prog) (w:=u) (a:=⟨gb,i,none⟩) (m:=.plain) .f64 z.1
    have hst2:=fun u : World=>run_store_float (P:=Tryz.prog) (w:=u) (a:=⟨ga,i,none⟩) (m:=.plain) .f64 z.2
    have HBN:=Hd ((HB.out.setCell (p:=⟨gb,i,none⟩) (by omega) (.float .f64 z.1)).setCell (p:=⟨ga,i,none⟩) (by omega) (.float .f64 z.2))
    have hLn : L.length = n:=by rw [HLM.out,List.length_map,HLL.out]
    have HIN : Hid (∀ j < i + 1,(o.set i z.1)[j]? = L[j]?):=Hd (fun j hj=>by
     have hol : o.length = L.length:=by rw [HR.out.len,hLn]
     by_cases e : j = i
     ·subst e; exact set_right_self k4 hol
     ·exact set_right k4 hol (HI.out j (by omega)))
    clear hz k4 hv0 hv1 hLn HR1 HR1' HR1'' HB HR HR'
    go_wp2_with fail
    exact ⟨⟨i + 1,_,_,by go_num,hlt,HIN,HR2,HR2',HBN⟩,by simp [intOf]; omega⟩
   ·obtain rfl : n = i:=by omega
    have HOL : Hid (o = L):=Hd (by
     apply List.ext_getElem?
     intro k
     by_cases hk : k < n
     ·exact HI.out k hk
     ·rw [List.getElem?_eq_none (by rw [HR.out.len]; omega),List.getElem?_eq_none (by rw [HLM.out,List.length_map,HLL.out]; omega)])
    go_wp2_with fail
    go_ret2
    exact ⟨_,_,rfl,by rw [<- HOL.out]; exact HR.out,HB.out⟩
end
section
open Go.RowKit
def okL (l : List Int) : Prop:=∀ x ∈ l,-9007199254740992 <= x /\ x <= 9007199254740992
def mxL (l : List Int) : Int:=l.foldl (fun s x=>max (max s x) (-x)) 0
theorem mxL_take (l : List Int) (i : Nat) (x : Int) (h : l[i]? = some x) : mxL (l.take (i + 1)) = max (max (mxL (l.take i)) x) (-x):=by
 unfold mxL
 rw [List.take_add_one,h]
 simp [List.foldl_append]
theorem mxL_le : ∀ (l : List Int) (s B : Int),0 <= s -> s <= B -> (∀ x ∈ l,-B <= x /\ x <= B) -> 0 <= l.foldl (fun s x=>max (max s x) (-x)) s /\ l.foldl (fun s x=>max (max s x) (-x)) s <= B
 | [],s,B,h0,h1,_=>⟨h0,h1⟩
 | y :: l,s,B,h0,h1,h2=>by
   have hy:=h2 y (List.mem_cons_self ..)
   exact mxL_le l (max (max s y) (-y)) B (by omega) (by omega) (fun x hx=>h2 x (List.mem_cons_of_mem _ hx))
def FltPost (w : World) (n : Nat) (l : List Int) (e : Ending) (w' : World) : Prop :=
 (okL l /\ ∃ g,e = .returned (.tuple #[.slice (some ⟨g,0,none⟩) n n,.float .f64 (floatOfInt .f64 (mxL l)),.bool true]) /\ FRow w' w.heap.size g n (l.map (fun x=>floatOfInt .f64 x)) /\ Below w.heap.size w w') \/
 (¬ okL l /\ e = .returned (.tuple #[.slice none 0 0,.float .f64 0,.bool false]) /\ Below w.heap.size w w')
set_option maxRecDepth 100000 in
set_option maxHeartbeats 2000000 in
theorem rfloats_any (A : Option Addr) (n c : Nat) (l : List Int) (w : World) (hn1 : 1 <= n) (hn2 : n <= 16384) (hu : UL w A n c l) :
  Calls Tryz.prog 87 #[.slice A n c] w (FltPost w n l):=by
 obtain ⟨i0,hi0,hz0,hz1,hz2⟩:=info_parts f64_info
 have HU:=Hd hu
 have HLL:=Hd hu.1
 obtain ⟨L,hL⟩ : ∃ L : List Nat,L = l.map (fun x=>floatOfInt .f64 x):=⟨_,rfl⟩
 have HLM:=Hd hL
 clear hu hL
 go_enter Tryz.func87,Tryz.ntmps87
 go_wp2_with (refine wpList_make_full _ rfl (.tmp 10) (.tmp 10) 120 rfl w.heap.size 76 i0 _ 1 Tryz.underlying120 hi0 hz0 hz1 .i64 .i64 _ _ n rfl rfl (by omega) (by omega) (by rw [hz2]; omega) (by simp only [maxLen]; omega) (Nat.le_refl _) ?_; intro w1 hown1 hg1; have HB1:=Hd ((Below.refl w.heap.size w).grown hg1 (Nat.le_refl _) (fun k hk=>by cases hk)); have ROW:=Hd (FRow.made hown1); clear hown1 hg1)
 go_loopw [14,6] (fun iv sv wr=>∃ (i : Nat) (s : Int) (o : List Nat),iv = .int .i64 i /\ sv = .int .i64 s /\ i <= n /\ (0 <= s /\ s <= 9007199254740992) /\ Hid (s = mxL (l.take i)) /\ Hid (okL (l.take i)) /\ Hid (∀ j < i,o[j]? = L[j]?) /\ Hid (FRow wr w.heap.size w.heap.size n o) /\ Hid (Below w.heap.size w wr)) (fun iv _ _=>n - (intOf iv).toNat)
 case atStart=>exact ⟨0,0,List.replicate n 0,rfl,rfl,Nat.zero_le _,⟨by omega,by omega⟩,Hd rfl,Hd (fun x hx=>by simp at hx),Hd (fun j hj=>absurd hj (Nat.not_lt_zero _)),ROW,HB1⟩
 case round =>
  clear ROW HB1
  obtain ⟨i,s,o,rfl,rfl,hi,⟨hs0,hs1⟩,HS,HO,HI,HR,HB⟩:=hrel
  by_cases hlt : i < n
  ·obtain ⟨x,hx⟩ : ∃ x,l[i]? = some x:=⟨_,List.getElem?_eq_getElem (by rw [HLL.out]; exact hlt)⟩
   obtain ⟨ad,rfl,_,d1⟩:=(HU.out.below HB.out).2.2.2 i x hx
   by_cases hok : -9007199254740992 <= x /\ x <= 9007199254740992
   ·obtain ⟨k1,k2⟩:=hok
    have t1 : decide (x < -9007199254740992) = false:=decide_eq_false (by omega)
    have t2 : decide (9007199254740992 < x) = false:=decide_eq_false (by omega)
    obtain ⟨y,hy⟩ : ∃ y,y = floatOfInt .f64 x:=⟨_,rfl⟩
    have k4 : L[i]? = some y:=by rw [HLM.out,List.getElem?_map,hx,hy]; rfl
    obtain ⟨v0,hv0⟩ : ∃ v0,o[i]? = some v0:=⟨_,List.getElem?_eq_getElem (by have:=HR.out.len; omega)⟩
    have hcell:=HR.out.cell i v0 hv0
    have hfr:=HR.out.free i
    have hLn : L.length = n:=by rw [HLM.out,List.length_map,HLL.out]
    have HIN : Hid (∀ j < i + 1,(o.set i y)[j]? = L[j]?):=Hd (fun j hj=>by
     have hol : o.length = L.length:=by rw [HR.out.len,hLn]
     by_cases e : j = i
     ·subst e; exact set_right_self k4 hol
     ·exact set_right k4 hol (HI.out j (by omega)))
    have hst:=fun u : World=>run_store_float (P:=Tryz.prog) (w:=u) (a:=⟨w.heap.size,i,none⟩) (m:=.plain) .f64 y
    have HRN:=Hd (HR.out.set i y)
    have HBN:=Hd (HB.out.setCell (p:=⟨w.heap.size,i,none⟩) (Nat.le_refl _) (.float .f64 y))
    have HSN : Hid (max (max s x) (-x) = mxL (l.take (i + 1))):=Hd (by rw [mxL_take l i x hx,HS.out])
    have HON : Hid (okL (l.take (i + 1))):=Hd (fun z hz=>by
     rw [List.take_add_one,hx] at hz
     simp only [Option.toList_some,List.mem_append,List.mem_singleton] at hz
     rcases hz with hz | rfl
     ·exact HO.out z hz
     ·exact ⟨k1,k2⟩)
    obtain ⟨s',hs'⟩ : ∃ s',s' = max (max s x) (-x):=⟨_,rfl⟩
    have hw : IntKind.i64.wrap (-x) = -x:=by rw [IntKind.wrap_i64]; omega
    have hb0 : 0 <= s':=by omega
    have hb1 : s' <= 9007199254740992:=by omega
    rw [<- hs'] at HSN
    replace hs':=hs'.symm
    replace hy:=hy.symm
    clear hx k4 hv0 hLn
    go_wp2_with fail
    exact ⟨⟨i + 1,s',_,by go_num,by first | rfl | (congr 1; rw [<- hs']; by_cases q1 : s < x <;> by_cases q2 : x < -x <;> by_cases q3 : s < -x <;> simp only [q1,q2,q3,if_true,if_false] <;> omega),hlt,⟨hb0,hb1⟩,HSN,HON,HIN,HRN,HBN⟩,by simp [intOf]; omega⟩
   ·have HNO : Hid (¬ okL l):=Hd (fun h=>hok (h x (List.mem_of_getElem? hx)))
    by_cases hc : x < -9007199254740992
    ·have t1 : decide (x < -9007199254740992) = true:=decide_eq_true hc
     clear hx hok
     go_wp2_with fail
     go_ret3
     exact .inr ⟨HNO.out,rfl,HB.out⟩
    ·have t1 : decide (x < -9007199254740992) = false:=decide_eq_false hc
     have t2 : decide (9007199254740992 < x) = true:=decide_eq_true (by omega)
     clear hx hok
     go_wp2_with fail
     go_ret3
     exact .inr ⟨HNO.out,rfl,HB.out⟩
  ·obtain rfl : n = i:=by omega
   have HOL : Hid (o = L):=Hd (by
    apply List.ext_getElem?
    intro k
    by_cases hk : k < n
    ·exact HI.out k hk
    ·rw [List.getElem?_eq_none (by rw [HR.out.len]; omega),List.getElem?_eq_none (by rw [HLM.out,List.length_map,HLL.out]; omega)])
   have e1 : l.take n = l:=List.take_of_length_le (by rw [HLL.out]; exact Nat.le_refl _)
   rw [e1] at HS HO
   clear e1
   go_wp2_with fail
   go_ret3
   exact .inl ⟨HO.out,_,by rw [<- HS.out]; rfl,by rw [<- HLM.out,<- HOL.out]; exact HR.out,HB.out⟩
end
end Go.Proofs.YtnpanpkahbcecaaGreatDoor

/-
Walks: is, awake of Plain's laws.
-/
import Derived.Test.YtnpanpkahbcecaaGreatDoorP41
import Derived.Lib.BitFns
import Derived.Lib.Hide
set_option linter.unusedVariables false
set_option linter.unusedSimpArgs false
namespace Go.Proofs.YtnpanpkahbcecaaGreatDoor
section
open Go.RowKit
end
section
open Go.RowKit
open Fl in
theorem int_mono {m m' : Int} (h0 : 0 <= m) (h : m <= m') (h1 : m' <= 9007199254740992) : floatOfInt .f64 m <= floatOfInt .f64 m':=by
 obtain ⟨s1,v1⟩:=int_sz m h0 (by omega)
 obtain ⟨s2,v2⟩:=int_sz m' (by omega) h1
 have h2 : vl (floatOfInt .f64 m) <= vl (floatOfInt .f64 m'):=by rw [v1,v2]; exact Int.mul_le_mul_of_nonneg_right h (by omega)
 have h3:=vl_le.1 h2
 rw [s1.facts.2.2.2.2,s2.facts.2.2.2.2] at h3
 exact Int.ofNat_le.1 h3
theorem mx_le {a : List Int} {M : Int} (h0 : 0 <= M) (h : ∀ x ∈ a,-M <= x /\ x <= M) : mxL a <= M:=(mxL_le a 0 M (by omega) (by omega) h).2
open Fl in
theorem ltL_small {K : Nat} {a b : List Int} {Ma Mb : Int} (hK : K <= 14) (oa : okL a) (ob : okL b) (a1 : mxL a <= Ma) (a2 : Ma <= 9007199254740992) (b1 : mxL b <= Mb) (b2 : Mb <= 9007199254740992)
  (h : (FloatKind.f64.format.order (bf K (floatOfInt .f64 Ma) (floatOfInt .f64 Mb)) 4598175219545276416 == some Ordering.lt) = true) : ltL K a b = true:=by
 have a0:=(mx_range oa).1
 have b0:=(mx_range ob).1
 have sa:=mx_sz oa
 have sb:=mx_sz ob
 have sA:=(int_sz Ma (by omega) a2).1
 have sB:=(int_sz Mb (by omega) b2).1
 have h1:=(closed_any hK sa sb).2
 have h2:=(closed_any hK sA sB).2
 have hk:=RingIs.mono hK hK sa sA sb sB h1 h2 (Int.le_refl _) (Int.le_refl _) (int_mono a0 a1 a2) (int_mono b0 b1 b2)
 have f1 : rg (bf K (floatOfInt .f64 (mxL a)) (floatOfInt .f64 (mxL b))) <= I:=by have:=(h1.fin hK sa sb).2.1; omega
 have f2 : rg (bf K (floatOfInt .f64 Ma) (floatOfInt .f64 Mb)) <= I:=by have:=(h2.fin hK sA sB).2.1; omega
 have o1:=order_key _ 4598175219545276416 f1 (by decide)
 have o2:=order_key _ 4598175219545276416 f2 (by decide)
 rw [compare_int] at o1 o2
 have h3:=eq_of_beq h
 have o3 : FloatKind.f64.format.order (bf K (floatOfInt .f64 Ma) (floatOfInt .f64 Mb)) 4598175219545276416 = some (if key (bf K (floatOfInt .f64 Ma) (floatOfInt .f64 Mb)) < key 4598175219545276416 then Ordering.lt else if key (bf K (floatOfInt .f64 Ma) (floatOfInt .f64 Mb)) = key 4598175219545276416 then Ordering.eq else Ordering.gt):=o2
 rw [o3] at h3
 have h5 : key (bf K (floatOfInt .f64 Ma) (floatOfInt .f64 Mb)) < key 4598175219545276416:=by
  by_cases q : key (bf K (floatOfInt .f64 Ma) (floatOfInt .f64 Mb)) < key 4598175219545276416
  ·exact q
  ·rw [if_neg q] at h3
   split at h3 <;> cases h3
 unfold ltL bfL
 refine beq_iff_eq.2 (o1.trans ?_)
 rw [if_pos (Int.lt_of_le_of_lt hk h5)]
end
section
open Go.RowKit Fl
theorem bitLen_in : ∀ (k x : Nat),x < 2 ^ k -> k <= 63 -> x < 2 ^ Lib.bitLen x /\ Lib.bitLen x <= k /\ (0 < x -> 2 ^ (Lib.bitLen x - 1) <= x)
 | 0,x,h,_=>by
   obtain rfl : x = 0:=by rw [Nat.pow_zero] at h; omega
   exact ⟨by decide,by decide,fun h=>absurd h (by decide)⟩
 | k + 1,x,h,hk=>by
   by_cases h0 : x = 0
   ·subst h0
    have e : Lib.bitLen 0 = 0:=by decide
    rw [e]
    exact ⟨by decide,Nat.zero_le _,fun h=>absurd h (by decide)⟩
   ·have h64 : x < 2 ^ 64:=Nat.lt_of_lt_of_le h (Nat.pow_le_pow_right (by decide) (by omega))
    have ih:=bitLen_in k (x / 2) (by rw [Nat.pow_succ] at h; omega) (by omega)
    rw [Lib.bitLen_half x h0 h64,Nat.add_comm 1,Nat.pow_succ,Nat.add_sub_cancel]
    obtain ⟨i1,i2,i3⟩:=ih
    refine ⟨by omega,by omega,fun _=>?_⟩
    by_cases h1 : x / 2 = 0
    ·have e : Lib.bitLen 0 = 0:=by decide
     rw [h1,e]
     show 1 <= x
     omega
    ·have i4:=i3 (by omega)
     have hb : 1 <= Lib.bitLen (x / 2):=by
      rcases Nat.eq_zero_or_pos (Lib.bitLen (x / 2)) with e | e
      ·rw [e,Nat.pow_zero] at i1; omega
      ·exact e
     have e2 : 2 ^ Lib.bitLen (x / 2) = 2 * 2 ^ (Lib.bitLen (x / 2) - 1):=by rw [<- Nat.pow_succ']; congr 1; omega
     omega
def ordP (n : Nat) : Nat:=Lib.bitLen (n - 1)
theorem ordP_spec {n : Nat} (h1 : 1 <= n) (h2 : n <= 16384) : ordP n <= 14 /\ n <= 2 ^ ordP n /\ (1 <= ordP n -> 2 ^ (ordP n - 1) < n):=by
 have h:=bitLen_in 14 (n - 1) (by have : (2 : Nat) ^ 14 = 16384:=by decide
                                  omega) (by decide)
 unfold ordP
 obtain ⟨a,b,c⟩:=h
 refine ⟨b,by omega,fun hk=>?_⟩
 by_cases h0 : n - 1 = 0
 ·have e : Lib.bitLen 0 = 0:=by decide
  rw [h0,e] at hk
  omega
 ·have:=c (by omega)
  omega
theorem fold_zero (k : Nat) : ∀ s : Int,0 <= s -> (List.replicate k (0 : Int)).foldl (fun s x=>max (max s x) (-x)) s = s:=by
 induction k with
 | zero=>intro s _; rfl
 | succ k ih =>
   intro s hs
   rw [List.replicate_succ,List.foldl_cons,show max (max s 0) (-0) = s by omega]
   exact ih s hs
theorem fold_pos : ∀ (l : List Int) (s : Int),0 <= s -> 0 <= l.foldl (fun s x=>max (max s x) (-x)) s
 | [],s,h=>h
 | x :: l,s,h=>by
   rw [List.foldl_cons]
   exact fold_pos l _ (by omega)
theorem mxL_firsts {a : List Int} {N : Nat} (h : a.length <= N) : mxL (firsts a N) = mxL a:=by
 unfold mxL firsts
 rw [List.take_of_length_le h,List.foldl_append,fold_zero _ _ (fold_pos a 0 (by omega))]
theorem okL_firsts {a : List Int} (h : okL a) (N : Nat) : okL (firsts a N):=fun x hx=>by
 unfold firsts at hx
 rcases List.mem_append.1 hx with h1 | h1
 ·exact h x (List.mem_of_mem_take h1)
 ·have:=(List.mem_replicate.1 h1).2; omega
theorem ltL_firsts {a b : List Int} {K N : Nat} (ha : a.length <= N) (hb : b.length <= N) : ltL K (firsts a N) (firsts b N) = ltL K a b:=by
 unfold ltL bfL
 rw [mxL_firsts ha,mxL_firsts hb]
def nilT (T : Int) : Ending:=.returned (.tuple #[.slice none 0 0,.int .i64 T])
def OwnT (w w' : World) (e : Ending) (l : List Int) : Prop:=∃ v,e = .returned (.tuple #[v,.int .i64 0]) /\ w'.ownsRow w.heap.size 2 1 v l.length (l.map (Value.int .i64)) /\ Below w.heap.size w w'
def TmsPost (a b : List Int) (w : World) (e : Ending) (w' : World) : Prop :=
 (16384 < a.length + b.length /\ e = nilT 3 /\ Below w.heap.size w w') \/
 (a.length + b.length <= 16384 /\ ((a = [] \/ b = []) /\ e = nilT 0 /\ Below w.heap.size w w' \/ a ≠ [] /\ b ≠ [] /\
  (¬ (okL a /\ okL b) /\ e = nilT 6 /\ Below w.heap.size w w' \/ okL a /\ okL b /\
   (ltL (ordP (a.length + b.length - 1)) a b = false /\ e = nilT 8 /\ Below w.heap.size w w' \/ ltL (ordP (a.length + b.length - 1)) a b = true /\ OwnT w w' e (pcL a b)))))
def SlwPost (a b : List Int) (w : World) (e : Ending) (w' : World) : Prop :=
 (16384 < a.length + b.length /\ e = nilT 3 /\ Below w.heap.size w w') \/
 (a.length + b.length <= 16384 /\ ((a = [] \/ b = []) /\ e = nilT 0 /\ Below w.heap.size w w' \/ a ≠ [] /\ b ≠ [] /\
  (¬ L64b (pcL a b) /\ e = nilT 6 /\ Below w.heap.size w w' \/ L64b (pcL a b) /\ OwnT w w' e (pcL a b))))
end
section
open Go.RowKit
def OvR (R : List (Option Addr × Nat × Nat × List Int)) (h : Nat) (w : World) : Prop:=∀ (j : Nat) r,R[j]? = some r -> w.cell? ⟨h,j,none⟩ = some (.slice r.1 r.2.1 r.2.2.1) /\ UL w r.1 r.2.1 r.2.2.1 r.2.2.2
def OvPost (R : List (Option Addr × Nat × Nat × List Int)) (w : World) (e : Ending) (w' : World) : Prop:=((∀ r ∈ R,okL r.2.2.2) /\ e = .returned (.bool false) \/ ¬ (∀ r ∈ R,okL r.2.2.2) /\ e = .returned (.bool true)) /\ w = w'
set_option maxRecDepth 100000 in
set_option maxHeartbeats 4000000 in
theorem over_any (R : List (Option Addr × Nat × Nat × List Int)) (h c : Nat) (w : World) (hm : R.length <= 10) (hn : ∀ r ∈ R,r.2.1 <= 20000000000000) (HR : OvR R h w) :
  Calls Tryz.prog 55 #[.slice (some ⟨h,0,none⟩) R.length c] w (OvPost R w):=by
 have H0:=Hd HR
 have HN:=Hd hn
 obtain ⟨m,hm2⟩ : ∃ m,m = R.length:=⟨_,rfl⟩
 have HM:=Hd hm2
 rw [<- hm2] at hm ⊢
 obtain ⟨PR,hPR⟩ : ∃ PR : Prop,PR = (∀ r ∈ R,okL r.2.2.2):=⟨_,rfl⟩
 have HPR:=Hd hPR
 have e0 : OvPost R w = fun e w'=>(PR /\ e = .returned (.bool false) \/ ¬ PR /\ e = .returned (.bool true)) /\ w = w':=by rw [hPR]; rfl
 rw [e0]
 clear HR hn hm2 hPR e0
 go_enter Tryz.func55,Tryz.ntmps55
 go_wp2_with fail
 go_loopw [9] (fun kv wr=>∃ (k : Nat),kv = .int .i64 k /\ k <= m /\ Hid (∀ (j : Nat) r,j < k -> R[j]? = some r -> okL r.2.2.2) /\ Hid (w = wr)) (fun kv _=>m - (intOf kv).toNat)
 case atStart=>exact ⟨0,rfl,Nat.zero_le _,Hd (fun j r hj=>absurd hj (Nat.not_lt_zero _)),Hd rfl⟩
 case round =>
  obtain ⟨k,rfl,hk,HI,HW⟩:=hrel
  have hww:=HW.out
  subst hww
  clear HW
  by_cases hlt : k < m
  ·obtain ⟨r,hr⟩ : ∃ r,R[k]? = some r:=⟨_,List.getElem?_eq_getElem (by rw [<- HM.out]; exact hlt)⟩
   obtain ⟨hc,hu⟩:=H0.out k r hr
   have hnn:=HN.out _ (List.mem_of_getElem? hr)
   obtain ⟨A,n,cc,l⟩:=r
   simp only at hc hu hnn
   have HU:=Hd hu
   have HLL:=Hd hu.1
   have HR:=Hd hr
   clear hu hr
   go_wp2_with fail
   go_loopw [15] (fun iv wr=>∃ (i : Nat),iv = .int .i64 i /\ i <= n /\ Hid (okL (l.take i)) /\ Hid (w = wr)) (fun iv _=>n - (intOf iv).toNat)
   case atStart=>exact ⟨0,rfl,Nat.zero_le _,Hd (fun x hx=>by simp at hx),Hd rfl⟩
   case round =>
    obtain ⟨i,rfl,hi,HO,HW⟩:=hrel
    have hww:=HW.out
    subst hww
    clear HW
    by_cases hi2 : i < n
    ·obtain ⟨x,hx⟩ : ∃ x,l[i]? = some x:=⟨_,List.getElem?_eq_getElem (by rw [HLL.out]; exact hi2)⟩
     obtain ⟨ad,rfl,_,d1⟩:=HU.out.2.2.2 i x hx
     by_cases hok : -9007199254740992 <= x /\ x <= 9007199254740992
     ·obtain ⟨k1,k2⟩:=hok
      have t1 : decide (9007199254740992 < x) = false:=decide_eq_false (by omega)
      have t2 : decide (x < -9007199254740992) = false:=decide_eq_false (by omega)
      have HON : Hid (okL (l.take (i + 1))):=Hd (fun z hz=>by
       rw [List.take_add_one,hx] at hz
       simp only [Option.toList_some,List.mem_append,List.mem_singleton] at hz
       rcases hz with hz | rfl
       ·exact HO.out z hz
       ·exact ⟨k1,k2⟩)
      clear hx
      go_wp2_with fail
      exact ⟨⟨i + 1,by go_num,hi2,HON,Hd trivial⟩,by simp [intOf]; omega⟩
     ·have HNO : Hid (¬ PR):=Hd (fun h=>hok ((HPR.out ▸ h : ∀ r ∈ R,okL r.2.2.2) _ (List.mem_of_getElem? HR.out) x (List.mem_of_getElem? hx)))
      by_cases hc2 : 9007199254740992 < x
      ·have t1 : decide (9007199254740992 < x) = true:=decide_eq_true hc2
       clear hx hok
       go_wp2_with fail
       go_ret
       exact ⟨.inr ⟨HNO.out,rfl⟩,rfl⟩
      ·have t1 : decide (9007199254740992 < x) = false:=decide_eq_false hc2
       have t2 : decide (x < -9007199254740992) = true:=decide_eq_true (by omega)
       clear hx hok
       go_wp2_with fail
       go_ret
       exact ⟨.inr ⟨HNO.out,rfl⟩,rfl⟩
    ·obtain rfl : n = i:=by omega
     have HIN : Hid (∀ (j : Nat) r,j < k + 1 -> R[j]? = some r -> okL r.2.2.2):=Hd (fun j r hj hjr=>by
      by_cases e : j = k
      ·subst e
       rw [HR.out] at hjr
       obtain rfl:=Option.some.inj hjr
       have:=HO.out
       rw [List.take_of_length_le (by rw [HLL.out]; exact Nat.le_refl _)] at this
       exact this
      ·exact HI.out j r (by omega) hjr)
     go_wp2_with fail
     exact ⟨⟨k + 1,by go_num,hlt,HIN,Hd trivial⟩,by simp [intOf]; omega⟩
  ·obtain rfl : m = k:=by omega
   have HALL : Hid PR:=Hd (HPR.out ▸ fun r hr=>by
    obtain ⟨j,hj⟩:=List.getElem?_of_mem hr
    exact HI.out j r (by rw [HM.out]; exact (List.getElem?_eq_some_iff.1 hj).1) hj)
   go_wp2_with fail
   go_ret
   exact ⟨.inl ⟨HALL.out,rfl⟩,rfl⟩
end
section
open Go.RowKit
theorem len_any (x : Int) (w : World) (h0 : 0 <= x) (h1 : x <= 18446744073709551615) :
  Calls Tryz.prog 56 #[.int .u64 x] w fun e w'=>e = .returned (.int .i64 (Lib.bitLen x.toNat)) /\ w = w':=by
 have HL:=Hd (len64_bits x w h0 h1)
 have u1 : IntKind.u64.wrap x = x:=by rw [IntKind.wrap_u64]; omega
 obtain ⟨r,hr⟩ : ∃ r : Int,r = (Lib.bitLen x.toNat : Int):=⟨_,rfl⟩
 rw [<- hr] at HL ⊢
 clear hr
 go_enter Tryz.func56,Tryz.ntmps56
 go_wp2_with fail
 refine HL.out.mono ?_
 rintro e w' ⟨rfl,rfl⟩
 go_wp2_with fail
 go_ret
 exact ⟨rfl,rfl⟩
theorem over_two (A B : Option Addr) (n c n' c' : Nat) (a b : List Int) (w : World) (hn : n <= 20000000000000) (hn' : n' <= 20000000000000) (ha : UL w A n c a) (hb : UL w B n' c' b) :
  Calls Tryz.prog 55 #[.slice (some ⟨w.heap.size,0,none⟩) 2 2] (w.alloc (.cells #[.slice A n c,.slice B n' c'] 22)) fun e w'=>((okL a /\ okL b) /\ e = .returned (.bool false) \/ ¬ (okL a /\ okL b) /\ e = .returned (.bool true)) /\ (w.alloc (.cells #[.slice A n c,.slice B n' c'] 22)) = w':=by
 have hb' : Below w.heap.size w (w.alloc (.cells #[.slice A n c,.slice B n' c'] 22)):=(Below.refl _ _).alloc (Nat.le_refl _) _
 have hc : ∀ j,(w.alloc (.cells #[.slice A n c,.slice B n' c'] 22)).cell? ⟨w.heap.size,j,none⟩ = (#[Value.slice A n c,.slice B n' c'])[j]?:=fun j=>by
  have h:=cell_new w #[Value.slice A n c,.slice B n' c'] 22 j
  have e : (⟨w.heap.size,0,none⟩ : Addr).add j = ⟨w.heap.size,j,none⟩:=by unfold Addr.add; split <;> simp_all
  rw [e] at h
  exact h
 refine (over_any [(A,n,c,a),(B,n',c',b)] w.heap.size 2 _ (by simp) ?_ ?_).mono ?_
 ·intro r hr
  simp at hr
  rcases hr with rfl | rfl
  ·exact hn
  ·exact hn'
 ·intro j r hr
  rcases j with _ | _ | j <;> simp at hr
  ·subst hr; exact ⟨by rw [hc 0]; rfl,ha.below hb'⟩
  ·subst hr; exact ⟨by rw [hc 1]; rfl,hb.below hb'⟩
 ·rintro e w' ⟨h,rfl⟩
  refine ⟨?_,rfl⟩
  simpa using h
set_option maxRecDepth 100000 in
set_option maxHeartbeats 4000000 in
theorem ptimes_any (P k : Nat) (A B : Option Addr) (n c n' c' : Nat) (a b : List Int) (w : World) (hn : n <= 20000000000000) (hn' : n' <= 20000000000000) (ha : UL w A n c a) (hb : UL w B n' c' b) (hR : RWd P w) (hwh : Wheels P k) (hk : n + n' <= 16384 -> n ≠ 0 -> n' ≠ 0 -> ordP (n + n' - 1) <= k) :
  Calls Tryz.prog 20 #[.slice A n c,.slice B n' c'] w (TmsPost a b w):=by
 obtain ⟨i0,hi0,hz0,hz1,hz2⟩:=info_parts i64_info
 have la:=ha.1
 have lb:=hb.1
 have HPOST : Hid (∀ e w',TmsPost a b w e w' ↔ TmsPost a b w e w'):=Hd (fun _ _=>Iff.rfl)
 have u1 : IntKind.i64.wrap ((n : Int) + (n' : Int)) = (n : Int) + (n' : Int):=by rw [IntKind.wrap_i64]; omega
 have v1 : wrap64 ((n : Int) + (n' : Int)) = (n : Int) + (n' : Int):=by unfold wrap64; omega
 by_cases h1 : 16384 < n + n'
 ·have h2 : decide ((16384 : Int) < (n : Int) + (n' : Int)) = true:=decide_eq_true (by omega)
  have HT : Hid (∀ e,e = nilT 3 -> TmsPost a b w e w):=Hd (fun e he=>.inl ⟨by omega,he,Below.refl _ _⟩)
  clear ha hb hR hwh hk HPOST la lb h1
  go_enter Tryz.func20,Tryz.ntmps20
  go_wp2_with fail
  go_ret2
  exact HT.out _ rfl
 ·have h2 : decide ((16384 : Int) < (n : Int) + (n' : Int)) = false:=decide_eq_false (by omega)
  by_cases h0 : n = 0 \/ n' = 0
  ·have HT : Hid (∀ e,e = nilT 0 -> TmsPost a b w e w):=Hd (fun e he=>.inr ⟨by omega,.inl ⟨by
    rcases h0 with h0 | h0
    ·exact .inl (List.eq_nil_of_length_eq_zero (by omega))
    ·exact .inr (List.eq_nil_of_length_eq_zero (by omega)),he,Below.refl _ _⟩⟩)
   clear ha hb hR hwh hk HPOST la lb
   by_cases hz : n = 0
   ·have q1 : ((n : Int) == 0) = true:=by simp; omega
    go_enter Tryz.func20,Tryz.ntmps20
    go_wp2_with fail
    go_ret2
    exact HT.out _ rfl
   ·have q1 : ((n : Int) == 0) = false:=by simp; omega
    have q2 : ((n' : Int) == 0) = true:=by simp; omega
    go_enter Tryz.func20,Tryz.ntmps20
    go_wp2_with fail
    go_ret2
    exact HT.out _ rfl
  ·have q1 : ((n : Int) == 0) = false:=by simp; omega
   have q2 : ((n' : Int) == 0) = false:=by simp; omega
   have HNE : Hid (a ≠ [] /\ b ≠ []):=Hd ⟨fun e=>by rw [e] at la; simp at la; omega,fun e=>by rw [e] at lb; simp at lb; omega⟩
   have HLAB : Hid (a.length = n /\ b.length = n'):=Hd ⟨la,lb⟩
   have HA:=Hd ha
   have HB:=Hd hb
   have HRW:=Hd hR
   have HWH:=Hd hwh
   have HOV:=Hd (over_two A B n c n' c' a b w hn hn' ha hb)
   have hb0:=(Below.refl w.heap.size w).alloc (Nat.le_refl _) (.cells #[.slice A n c,.slice B n' c'] 22)
   have HB0:=Hd hb0
   obtain ⟨L,hL⟩ : ∃ L,L = n + n' - 1:=⟨_,rfl⟩
   obtain ⟨M,hM⟩ : ∃ M,M = L - 1:=⟨_,rfl⟩
   obtain ⟨o1,o2,o3⟩:=ordP_spec (n:=L) (by omega) (by omega)
   have HKK:=Hd (hk (by omega) (by omega) (by omega))
   have hlen : Lib.bitLen M = ordP L:=by rw [hM]; rfl
   obtain ⟨K,hK⟩ : ∃ K,K = ordP L:=⟨_,rfl⟩
   obtain ⟨N,hN⟩ : ∃ N,N = 2 ^ K:=⟨_,rfl⟩
   obtain ⟨sh1,sh2⟩:=shl_one K (by omega)
   have HKN : Hid (K = ordP (a.length + b.length - 1) /\ N = 2 ^ K /\ K <= k /\ K <= 14):=Hd ⟨by rw [la,lb,<- hL]; exact hK,hN,by rw [hK,hL]; exact HKK.out,by omega⟩
   rw [<- hK,<- hN] at o2
   rw [<- hK] at hlen o1
   rw [<- hN] at sh1 sh2
   have hN1 : N <= 16384:=by rw [hN]; exact Nat.pow_le_pow_right (n:=2) (by decide) o1
   have HLEN:=Hd (fun u : World=>len_any (M : Int) u (by omega) (by omega))
   rw [show ((M : Int)).toNat = M by omega,hlen] at HLEN
   have u2 : IntKind.i64.wrap ((n : Int) + (n' : Int) - 1) = (L : Int):=by rw [IntKind.wrap_i64]; omega
   have v2 : wrap64 ((n : Int) + (n' : Int) - 1) = (L : Int):=by unfold wrap64; omega
   have u3 : IntKind.i64.wrap ((L : Int) - 1) = (M : Int):=by rw [IntKind.wrap_i64]; omega
   have v3 : wrap64 ((L : Int) - 1) = (M : Int):=by unfold wrap64; omega
   have u4 : IntKind.u64.wrap (M : Int) = (M : Int):=by rw [IntKind.wrap_u64]; omega
   have hnL : n <= L:=by omega
   have hnL' : n' <= L:=by omega
   have HLL : Hid (L = a.length + b.length - 1):=Hd (by rw [la,lb]; exact hL)
   have hL1 : 1 <= L:=by omega
   have hL2 : L <= 16383:=by omega
   have HNN : Hid (n + n' = L + 1):=Hd (by omega)
   clear ha hb hR hwh hk hb0 HPOST hK hN o3 hlen HKK hM hL
   go_enter Tryz.func20,Tryz.ntmps20
   go_wp2_with fail
   refine HOV.out.mono ?_
   rintro e w1 ⟨hov,rfl⟩
   obtain ⟨w1,hw1⟩ : ∃ v,v = w.alloc (.cells #[.slice A n c,.slice B n' c'] 22):=⟨_,rfl⟩
   rw [<- hw1] at HB0
   rw [<- hw1]
   clear hw1 HOV
   rcases hov with ⟨hok,rfl⟩ | ⟨hok,rfl⟩
   ·have HOK:=Hd hok
    clear hok
    have hmk:=fun u : World=>run_makeL u N hN1
    go_wp2_with fail
    refine (HLEN.out _).mono ?_
    rintro e w' ⟨rfl,rfl⟩
    have h1:=LRow.alloc w1 w.heap.size N HB0.out.size (by simp only [maxLen]; omega)
    have hb1:=(Below.refl w1.heap.size w1).alloc (Nat.le_refl _) (.cells (madeCells #[.int .i64 0] N) 2)
    have h2':=LRow.alloc (w1.alloc (.cells (madeCells #[.int .i64 0] N) 2)) w.heap.size N (Nat.le_trans HB0.out.size hb1.size) (by simp only [maxLen]; omega)
    have hb2:=(Below.refl (w1.alloc (.cells (madeCells #[.int .i64 0] N) 2)).heap.size (w1.alloc (.cells (madeCells #[.int .i64 0] N) 2))).alloc (Nat.le_refl _) (.cells (madeCells #[.int .i64 0] N) 2)
    rw [show (w1.alloc (.cells (madeCells #[.int .i64 0] N) 2)).heap.size = w1.heap.size + 1 by simp] at h2'
    have h1' : LRow ((w1.alloc (.cells (madeCells #[.int .i64 0] N) 2)).alloc (.cells (madeCells #[.int .i64 0] N) 2)) w.heap.size w1.heap.size N (List.replicate N 0):=RowV.below h1 hb2
    have HR1 : Hid (LRow ((w1.alloc (.cells (madeCells #[.int .i64 0] N) 2)).alloc (.cells (madeCells #[.int .i64 0] N) 2)).drew w.heap.size w1.heap.size N (List.replicate N 0)):=Hd h1'
    have HR2 : Hid (LRow ((w1.alloc (.cells (madeCells #[.int .i64 0] N) 2)).alloc (.cells (madeCells #[.int .i64 0] N) 2)).drew w.heap.size (w1.heap.size + 1) N (List.replicate N 0)):=Hd h2'
    have HB2:=Hd (below_drew (HB0.out.trans ((hb1.trans (hb2.mono hb1.size)).mono HB0.out.size)))
    clear h1 h1' hb1 h2' hb2
    go_wp2_with fail
    go_region
    obtain ⟨w2,hw2⟩ : ∃ w2,w2 = ((w1.alloc (.cells (madeCells #[.int .i64 0] N) 2)).alloc (.cells (madeCells #[.int .i64 0] N) 2)).drew:=⟨_,rfl⟩
    rw [<- hw2] at HB2 HR1 HR2
    rw [<- hw2]
    obtain ⟨ga,hga⟩ : ∃ ga,ga = w1.heap.size:=⟨_,rfl⟩
    obtain ⟨gb,hgb⟩ : ∃ gb,gb = w1.heap.size + 1:=⟨_,rfl⟩
    rw [<- hgb] at HR2
    rw [<- hga] at HR1
    rw [<- hgb,<- hga]
    have hne : ga ≠ gb:=by omega
    have HGG : Hid (w.heap.size <= ga /\ w.heap.size <= gb):=Hd (by have:=HB0.out.size; omega)
    have R1 : Hid (LRow w2 w.heap.size ga N (List.replicate N 0)):=HR1
    have R2 : Hid (LRow w2 w.heap.size gb N (List.replicate N 0)):=HR2
    clear hw2 hga hgb HR1 HR2 hmk
    rotate_left
    obtain ⟨w2,hw2⟩ : ∃ w2,w2 = ((w1.alloc (.cells (madeCells #[.int .i64 0] N) 2)).alloc (.cells (madeCells #[.int .i64 0] N) 2)).drew:=⟨_,rfl⟩
    rw [<- hw2] at HB2 HR1 HR2
    rw [<- hw2]
    obtain ⟨gb,hgb⟩ : ∃ gb,gb = w1.heap.size:=⟨_,rfl⟩
    obtain ⟨ga,hga⟩ : ∃ ga,ga = w1.heap.size + 1:=⟨_,rfl⟩
    rw [<- hga] at HR2
    rw [<- hgb] at HR1
    rw [<- hga,<- hgb]
    have hne : ga ≠ gb:=by omega
    have HGG : Hid (w.heap.size <= ga /\ w.heap.size <= gb):=Hd (by have:=HB0.out.size; omega)
    have R1 : Hid (LRow w2 w.heap.size ga N (List.replicate N 0)):=HR2
    have R2 : Hid (LRow w2 w.heap.size gb N (List.replicate N 0)):=HR1
    clear hw2 hgb hga HR1 HR2 hmk
    all_goals
     have hba:=HGG.out.1
     have hbb:=HGG.out.2
     have hca:=R1.out.heap
     have HCB:=Hd R2.out.heap
     have hla : ((a.take N).map (Value.int .i64)).length = Nat.min n N:=by rw [List.length_map,List.length_take,HA.out.1]; exact Nat.min_comm _ _
     have hsa:=(HA.out.below HB2.out).src N ga
     have hfa : 0 + ((a.take N).map (Value.int .i64)).length <= ((List.replicate N (0 : Int)).map (Value.int .i64)).length:=by simp; omega
     have hoa : ∀ v ∈ (a.take N).map (Value.int .i64),v.oneCell' = true:=fun v hv=>by obtain ⟨z,_,rfl⟩:=List.mem_map.1 hv; rfl
     have HFA:=Hd (firsts_splice a N)
     have HFB:=Hd (firsts_splice b N)
     have HFZ0 : Hid (0 + ((b.take N).map (Value.int .i64)).length <= ((List.replicate N (0 : Int)).map (Value.int .i64)).length):=Hd (by simp; omega)
     obtain ⟨Y,hY⟩ : ∃ Y,Y = (List.replicate N (0 : Int)).map (Value.int .i64):=⟨_,rfl⟩
     rw [<- hY] at hca HCB hfa HFA HFB HFZ0
     obtain ⟨X,hX⟩ : ∃ X,X = (a.take N).map (Value.int .i64):=⟨_,rfl⟩
     rw [<- hX] at hla hsa hfa hoa HFA
     obtain ⟨Z,hZ⟩ : ∃ Z,Z = (b.take N).map (Value.int .i64):=⟨_,rfl⟩
     have HLZ : Hid (Z.length = Nat.min n' N):=Hd (by rw [hZ,List.length_map,List.length_take,HB.out.1]; exact Nat.min_comm _ _)
     have HOZ : Hid (∀ v ∈ Z,v.oneCell' = true):=Hd (fun v hv=>by rw [hZ] at hv; obtain ⟨z,_,rfl⟩:=List.mem_map.1 hv; rfl)
     have HSZ : Hid (∀ u,Below w.heap.size w u -> (0 < Z.length -> (some ⟨gb,0,none⟩ : Option Addr) = some ⟨gb,0,none⟩ /\ ∃ ad,B = some ad /\ ∀ j v,Z[j]? = some v -> u.cell? (ad.add j) = some v)):=Hd (fun u hu=>by rw [hZ]; exact (HB.out.below hu).src N gb)
     rw [<- hZ] at HFB HFZ0
     have hsz1 : (Tryz.prog.info? 2).map (·.size) = some 1:=by kernel_rfl
     have HCY:=Hd (fun (u : World) (hu : Below w.heap.size w u) (r1 : LRow u w.heap.size ga N (firsts a N)) (r2 : LRow u w.heap.size gb N (firsts b N))=>cyclic_full P k (some ⟨ga,0,none⟩) (some ⟨gb,0,none⟩) N N N N (firsts a N) (firsts b N) u (by omega) r1.u r2.u (HRW.out.below hu) HWH.out (fun K' hK'=>by have:=pow_inj (K:=K) (K':=K') (by rw [<- hK',HKN.out.2.1]); have:=HKN.out.2.2.1; omega))
     clear hY hX hZ
     go_wp2_with (first
      | (refine wpList_copy_more (o:=⟨some 50,_,_,_,_,_⟩) rfl (.tmp 48) (.tmp 49) 22 22 rfl 2 Tryz.underlying22 hsz1 (some ⟨ga,0,none⟩) A N N n c rfl rfl ga 0 Y _ hca X hla hsa hfa hoa w.heap.size w HB2.out hba ?_; intro w3 H3 K3 b3; have B3:=Hd b3; have hcb:=(K3.out gb (Ne.symm hne)).trans HCB.out; have hlz:=HLZ.out; have hoz:=HOZ.out; have hfz:=HFZ0.out; have hsb:=HSZ.out w3 b3; have HKA:=Hd (fun (w4 : World) (h4 : ∀ k,k ≠ gb -> w4.heap[k]? = w3.heap[k]?)=>(h4 ga hne).trans H3.out); clear hla hsa hfa hoa K3 b3 H3)
      | (refine wpList_copy_more (o:=⟨some 53,_,_,_,_,_⟩) rfl (.tmp 51) (.tmp 52) 22 22 rfl 2 Tryz.underlying22 hsz1 (some ⟨gb,0,none⟩) B N N n' c' rfl rfl gb 0 Y _ hcb Z hlz hsb hfz hoz w.heap.size w B3.out hbb ?_; intro w4 H4 K4 b4; have B4:=Hd b4; have ha4:=Hd (HKA.out w4 K4.out); clear hlz hsb hfz hoz K4 b4))
     have e1:=ha4.out
     have e2:=H4.out
     rw [HFA.out] at e1
     rw [HFB.out] at e2
     have CC:=Hd (HCY.out w4 B4.out (LRow.ofHeap hba (firsts_len a N) (by simp only [maxLen]; omega) e1) (LRow.ofHeap hbb (firsts_len b N) (by simp only [maxLen]; omega) e2))
     clear e1 e2 HCY ha4 H4 B3 HKA HSZ HOZ HLZ HFZ0 HFA HFB HCB R1 R2 hca hcb
     refine CC.out.mono ?_
     intro e w5 h5
     rcases h5 with ⟨q,_⟩ | ⟨_,q,_⟩ | ⟨_,_,K',_,hN',_,h5⟩
     ·exact absurd ⟨K,HKN.out.2.2.2,HKN.out.2.1,rfl⟩ q
     ·exact absurd ⟨okL_firsts HOK.out.1 N,okL_firsts HOK.out.2 N⟩ q
     ·have e1 : K' = K:=pow_inj (by rw [<- hN',HKN.out.2.1])
      rw [e1,ltL_firsts (by rw [HLAB.out.1]; omega) (by rw [HLAB.out.2]; omega)] at h5
      clear e1 hN' CC
      rcases h5 with ⟨q,rfl,b5⟩ | ⟨q,g,rfl,r5,b5⟩
      ·have B5:=Hd (B4.out.trans (b5.mono B4.out.size))
       have Q:=Hd q
       clear b5 q
       go_wp2_with fail
       go_ret2
       exact .inr ⟨by rw [HLAB.out.1,HLAB.out.2]; have:=HNN.out; omega,.inr ⟨HNE.out.1,HNE.out.2,.inr ⟨HOK.out.1,HOK.out.2,.inl ⟨by rw [<- HKN.out.1]; exact Q.out,rfl,B5.out⟩⟩⟩⟩
      ·have B5:=Hd (B4.out.trans (b5.mono B4.out.size))
       have Q:=Hd q
       have HPC : Hid (((List.range N).map (cvI (firsts a N) (firsts b N) N)).take L = pcL a b):=Hd (by
        rw [pcL_tab HNE.out.1 HNE.out.2,<- HLL.out,<- List.map_take,List.take_range,Nat.min_eq_left o2]
        unfold tabL
        refine List.map_congr_left (fun m hm=>?_)
        have hmL:=List.mem_range.1 hm
        rw [cv_firsts (by rw [HLAB.out.1]; omega) (by rw [HLAB.out.2]; omega) (by omega)]
        exact cv_pc (by rw [HLAB.out.1,HLAB.out.2]; have:=HNN.out; omega) (by omega))
       obtain ⟨CL,hCL⟩ : ∃ CL,CL = (List.range N).map (cvI (firsts a N) (firsts b N) N):=⟨_,rfl⟩
       rw [<- hCL] at r5 HPC
       have HL : Hid (((CL.take L).map (Value.int .i64)).length = L * 1):=Hd (by rw [List.length_map,List.length_take,LRow.len r5]; omega)
       have HC : Hid (∀ j u,((CL.take L).map (Value.int .i64))[j]? = some u -> w5.cell? ((⟨g,0,none⟩ : Addr).add j) = some u):=Hd (fun j u hj=>by
        rw [List.getElem?_map] at hj
        obtain ⟨x,hx,rfl⟩:=Option.map_eq_some_iff.1 hj
        rw [List.getElem?_take] at hx
        split at hx
        ·have e : (⟨g,0,none⟩ : Addr).add j = ⟨g,j,none⟩:=by unfold Addr.add; split <;> simp_all
         rw [e]
         exact RowV.cell r5 j _ (by rw [List.getElem?_map,hx]; rfl)
        ·cases hx)
       have H1 : Hid (∀ u ∈ (CL.take L).map (Value.int .i64),u.oneCell' = true):=Hd (fun u hu=>by obtain ⟨x,_,rfl⟩:=List.mem_map.1 hu; rfl)
       rw [HPC.out] at HL HC H1
       obtain ⟨lv,hlv⟩ : ∃ lv,lv = (pcL a b).map (Value.int .i64):=⟨_,rfl⟩
       rw [<- hlv] at HL HC H1
       have HNIL : Hid (w5.ownsRow w5.heap.size 2 1 (.slice none 0 0) 0 []):=Hd ⟨by simp,.inl ⟨rfl,rfl⟩⟩
       clear b5 q r5 hCL
       go_wp2_with (at_builtin; refine wpList_append_own _ rfl (.const (.slice none 0 0)) (.tmp 65) _ rfl w5.heap.size 2 i0 _ 1 8 Tryz.underlying22 hi0 hz0 hz1 hz2 rfl (Nat.le_refl 1) (.slice none 0 0) 0 [] rfl HNIL.out ⟨g,0,none⟩ L N lv rfl HL.out HC.out H1.out (by simp only [maxLen]; omega) (by omega) (Nat.le_refl _) ?_; intro v' w6 hown hg _)
       rw [Nat.zero_add,List.nil_append] at hown
       have HO:=Hd hown
       have HB6:=Hd (B5.out.trans (((Below.refl w5.heap.size w5).grown hg (Nat.le_refl _) (fun k hk=>by cases hk)).mono B5.out.size))
       clear hown hg
       go_wp2_with fail
       go_ret2
       have h6 : w6.ownsRow w.heap.size 2 1 v' (pcL a b).length ((pcL a b).map (Value.int .i64)):=by
        have hl6 : (pcL a b).length = L:=by rw [pcL_tab HNE.out.1 HNE.out.2,tabL_len,HLL.out]
        rw [hl6,<- hlv]
        obtain ⟨h1,h2⟩:=HO.out
        refine ⟨h1,?_⟩
        rcases h2 with h2 | ⟨g',cap',cur',k1,k2,k3⟩
        ·exact .inl h2
        ·exact .inr ⟨g',cap',cur',k1,Nat.le_trans B5.out.size k2,k3⟩
       exact .inr ⟨by rw [HLAB.out.1,HLAB.out.2]; have:=HNN.out; omega,.inr ⟨HNE.out.1,HNE.out.2,.inr ⟨HOK.out.1,HOK.out.2,.inr ⟨by rw [<- HKN.out.1]; exact Q.out,v',rfl,h6,HB6.out⟩⟩⟩⟩
   ·have HOK:=Hd hok
    clear hok
    go_wp2_with fail
    go_ret2
    exact .inr ⟨by rw [HLAB.out.1,HLAB.out.2]; have:=HNN.out; omega,.inr ⟨HNE.out.1,HNE.out.2,.inl ⟨HOK.out,rfl,HB0.out⟩⟩⟩
end
section
open Go.RowKit Fl
theorem LRow.lowB {w w' : World} {base g n B : Nat} {l : List Int} (h : LRow w base g n l) (hb : Below B w w') (hg : g < B) : LRow w' base g n l:=by
 refine ⟨h.1,?_⟩
 rcases h.2 with ⟨h',_⟩ | ⟨g',cap',cur,h',hb',hg',rest⟩
 ·cases h'
 ·have e : g = g':=by
   injection h' with e1
   injection e1 with e1
   injection e1 with e1
  subst e
  exact .inr ⟨g,cap',cur,h',hb',by rw [hb.block g hg]; exact hg',rest⟩
theorem Own.storeL {w0 w : World} {G i : Nat} {x y : Int} {l : List (Nat × Int)} (h : Own w0 w l) (hG : w0.heap.size <= G) (hu : w.cell? ⟨G,i,none⟩ = some (.int .i64 y)) (hne : ∀ p ∈ l,p.1 ≠ G) : Own w0 (w.setCell ⟨G,i,none⟩ (.int .i64 x)) l:=by
 obtain ⟨h1,h2,h3⟩:=h
 exact ⟨h1.setCell (p:=⟨G,i,none⟩) hG _,h2,fun p hp=>⟨(h3 p hp).1.store (p:=⟨G,i,none⟩) (fun e=>hne p hp e.symm) hu (fun x h=>by cases h) _,(h3 p hp).2⟩⟩
theorem small_BL {x : Nat} (h : x <= 16385 * (9223372036854775808 * 9223372036854775808)) : x < BL:=by
 rw [BL_pow]
 obtain ⟨M,hM⟩ : ∃ M : Nat,M = 1920:=⟨_,rfl⟩
 rw [<- hM]
 have h1 : 16385 * (9223372036854775808 * 9223372036854775808) <= 2 ^ 141:=by decide
 have h2 : (2 : Nat) ^ 141 < 2 ^ M:=Nat.pow_lt_pow_right (by decide) (by omega)
 exact Nat.lt_of_le_of_lt (Nat.le_trans h h1) h2
theorem pc_from {a b : List Int} {i j0 : Nat} (h : j0 + b.length <= i + 1) (h2 : j0 <= i + 1) : sumI j0 (fun j=>a.getD j 0 * b.getD (i - j) 0) = 0:=by
 rw [sI_congr (g:=fun _=>0) (fun j hj=>by rw [getD_past (l:=b) (by omega),Int.mul_zero]),sI_zero]
theorem pc_upto {a b : List Int} {i j : Nat} (hj : j <= i + 1) (h : i < j \/ a.length <= j) : sumI j (fun j=>a.getD j 0 * b.getD (i - j) 0) = pcI a b i:=by
 unfold pcI
 rw [show i + 1 = j + (i + 1 - j) by omega,sI_split]
 rw [sI_congr (n:=i + 1 - j) (g:=fun _=>0) (fun k hk=>by
  rcases h with h | h
  ·omega
  ·rw [getD_past (l:=a) (by omega),Int.zero_mul]),sI_zero,Int.add_zero]
theorem pc_part {a b : List Int} (la : L64b a) (lb : L64b b) (i n : Nat) (hn : n <= 16384) : (sumI n (fun j=>a.getD j 0 * b.getD (i - j) 0)).natAbs <= 16384 * (9223372036854775808 * 9223372036854775808):=by
 have g : ∀ {l : List Int},L64b l -> ∀ m,(l.getD m 0).natAbs <= 9223372036854775808:=fun {l} hl m=>by
  rw [List.getD_eq_getElem?_getD]
  cases e : l[m]? with
  | none=>simp
  | some x=>have:=hl x (List.mem_of_getElem? e); show x.natAbs <= _; omega
 have : ∀ n,(sumI n (fun j=>a.getD j 0 * b.getD (i - j) 0)).natAbs <= n * (9223372036854775808 * 9223372036854775808):=fun n=>by
  induction n with
  | zero=>simp [sumI]
  | succ n ih =>
    have h2 : (a.getD n 0 * b.getD (i - n) 0).natAbs <= 9223372036854775808 * 9223372036854775808:=by rw [Int.natAbs_mul]; exact Nat.mul_le_mul (g la _) (g lb _)
    simp only [sumI]
    rw [Nat.succ_mul]
    omega
 exact Nat.le_trans (this n) (Nat.mul_le_mul_right _ hn)
set_option maxRecDepth 100000 in
set_option maxHeartbeats 4000000 in
theorem pslowly_any (A B : Option Addr) (n c n' c' : Nat) (a b : List Int) (w : World) (hn : n <= 20000000000000) (hn' : n' <= 20000000000000) (ha : UL w A n c a) (hb : UL w B n' c' b) (wa : L64b a) (wb : L64b b) :
  Calls Tryz.prog 17 #[.slice A n c,.slice B n' c'] w (SlwPost a b w):=by
 obtain ⟨i0,hi0,hz0,hz1,hz2⟩:=info_parts i64_info
 have la:=ha.1
 have lb:=hb.1
 have u1 : IntKind.i64.wrap ((n : Int) + (n' : Int)) = (n : Int) + (n' : Int):=by rw [IntKind.wrap_i64]; omega
 have v1 : wrap64 ((n : Int) + (n' : Int)) = (n : Int) + (n' : Int):=by unfold wrap64; omega
 by_cases h1 : 16384 < n + n'
 ·have h2 : decide ((16384 : Int) < (n : Int) + (n' : Int)) = true:=decide_eq_true (by omega)
  have HT : Hid (∀ e,e = nilT 3 -> SlwPost a b w e w):=Hd (fun e he=>.inl ⟨by omega,he,Below.refl _ _⟩)
  clear ha hb la lb h1 wa wb
  go_enter Tryz.func17,Tryz.ntmps17
  go_wp2_with fail
  go_ret2
  exact HT.out _ rfl
 ·have h2 : decide ((16384 : Int) < (n : Int) + (n' : Int)) = false:=decide_eq_false (by omega)
  by_cases h0 : n = 0 \/ n' = 0
  ·have HT : Hid (∀ e,e = nilT 0 -> SlwPost a b w e w):=Hd (fun e he=>.inr ⟨by omega,.inl ⟨by
    rcases h0 with h0 | h0
    ·exact .inl (List.eq_nil_of_length_eq_zero (by omega))
    ·exact .inr (List.eq_nil_of_length_eq_zero (by omega)),he,Below.refl _ _⟩⟩)
   clear ha hb la lb wa wb
   by_cases hz : n = 0
   ·have q1 : ((n : Int) == 0) = true:=by simp; omega
    go_enter Tryz.func17,Tryz.ntmps17
    go_wp2_with fail
    go_ret2
    exact HT.out _ rfl
   ·have q1 : ((n : Int) == 0) = false:=by simp; omega
    have q2 : ((n' : Int) == 0) = true:=by simp; omega
    go_enter Tryz.func17,Tryz.ntmps17
    go_wp2_with fail
    go_ret2
    exact HT.out _ rfl
  ·have q1 : ((n : Int) == 0) = false:=by simp; omega
   have q2 : ((n' : Int) == 0) = false:=by simp; omega
   have HNE : Hid (a ≠ [] /\ b ≠ []):=Hd ⟨fun e=>by rw [e] at la; simp at la; omega,fun e=>by rw [e] at lb; simp at lb; omega⟩
   have HLAB : Hid (a.length = n /\ b.length = n'):=Hd ⟨la,lb⟩
   have HA:=Hd ha
   have HB:=Hd hb
   have HWA:=Hd wa
   have HWB:=Hd wb
   obtain ⟨L,hL⟩ : ∃ L,L = n + n' - 1:=⟨_,rfl⟩
   have u2 : IntKind.i64.wrap ((n : Int) + (n' : Int) - 1) = (L : Int):=by rw [IntKind.wrap_i64]; omega
   have v2 : wrap64 ((n : Int) + (n' : Int) - 1) = (L : Int):=by unfold wrap64; omega
   have HNN : Hid (n + n' = L + 1):=Hd (by omega)
   have hL1 : 1 <= L:=by omega
   have hL2 : L <= 16383:=by omega
   have hnL : n <= L:=by omega
   have hnL' : n' <= L:=by omega
   have hn1 : 1 <= n:=by omega
   have hn1' : 1 <= n':=by omega
   have HPL : Hid (pcL a b = tabL L (pcI a b)):=Hd (by rw [pcL_tab HNE.out.1 HNE.out.2,la,lb,hL])
   clear ha hb wa wb hL
   go_enter Tryz.func17,Tryz.ntmps17
   go_wp2_with (refine wpList_make_full _ rfl (.tmp 33) (.tmp 33) 22 rfl w.heap.size 2 i0 _ 1 Tryz.underlying22 hi0 hz0 hz1 .i64 .i64 _ _ L rfl rfl (by omega) (by omega) (by rw [hz2]; omega) (by simp only [maxLen]; omega) (Nat.le_refl _) ?_; intro w1 hown1 hg1; have HB1:=Hd ((Below.refl w.heap.size w).grown hg1 (Nat.le_refl _) (fun k hk=>by cases hk)); have ROW:=Hd (LRow.made hown1); clear hown1 hg1)
   obtain ⟨G,hG⟩ : ∃ G,G = w.heap.size:=⟨_,rfl⟩
   have ROW1 : Hid (LRow w1 w.heap.size G L (List.replicate L 0)):=Hd (by rw [hG]; exact ROW.out)
   have hGb : w.heap.size <= G:=by omega
   rw [<- hG]
   have O0 : Own w w1 []:=Own.nil HB1.out
   have O1:=O0.new 68
   obtain ⟨x1,hx1⟩ : ∃ x,x = w1.alloc (.cells #[.bool false,.slice none 0 0] 68):=⟨_,rfl⟩
   rw [<- hx1] at O1
   have b1 : Below w1.heap.size w1 x1:=by rw [hx1]; exact (Below.refl _ _).alloc (Nat.le_refl _) _
   have z1 : x1.heap.size = w1.heap.size + 1:=by rw [hx1]; simp
   have O2:=O1.new 68
   obtain ⟨x2,hx2⟩ : ∃ x,x = x1.alloc (.cells #[.bool false,.slice none 0 0] 68):=⟨_,rfl⟩
   rw [<- hx2] at O2
   have b2 : Below x1.heap.size x1 x2:=by rw [hx2]; exact (Below.refl _ _).alloc (Nat.le_refl _) _
   have z2 : x2.heap.size = w1.heap.size + 1 + 1:=by rw [hx2]; simp [z1]
   have O3:=O2.new 68
   obtain ⟨x3,hx3⟩ : ∃ x,x = x2.alloc (.cells #[.bool false,.slice none 0 0] 68):=⟨_,rfl⟩
   rw [<- hx3] at O3
   have b3 : Below x2.heap.size x2 x3:=by rw [hx3]; exact (Below.refl _ _).alloc (Nat.le_refl _) _
   rw [z1,z2] at O3
   have hGl : G < w1.heap.size:=(RowV.lt ROW1.out).2
   have ROW3 : Hid (LRow x3 w.heap.size G L (List.replicate L 0)):=Hd (RowV.below (RowV.below (RowV.below ROW1.out b1) b2) b3)
   have OW3:=Hd O3
   clear O0 O1 O2 O3 b1 b2 b3 z1 z2 ROW ROW1 hG
   go_wp2_with fail
   rw [<- hx1,<- hx2,<- hx3]
   clear hx1 hx2 hx3
   obtain ⟨gs,hgs⟩ : ∃ g,g = w1.heap.size:=⟨_,rfl⟩
   obtain ⟨gp,hgp⟩ : ∃ g,g = w1.heap.size + 1:=⟨_,rfl⟩
   obtain ⟨gy,hgy⟩ : ∃ g,g = w1.heap.size + 1 + 1:=⟨_,rfl⟩
   have hle : G < gs /\ G < gp /\ G < gy:=by omega
   rw [<- hgy,<- hgp,<- hgs] at OW3
   rw [<- hgy,<- hgp,<- hgs]
   clear hgs hgp hgy HB1 hGl
   go_loopw [40] (fun iv wr=>∃ (i : Nat) (o : List Int) (s p y : Int),iv = .int .i64 i /\ i <= L /\ Hid (∀ m < i,o[m]? = some (pcI a b m)) /\ Hid (∀ m < i,i64B (pcI a b m) = true) /\ Hid (LRow wr w.heap.size G L o) /\ Hid (Own w wr [(gy,y),(gp,p),(gs,s)])) (fun iv _=>L - (intOf iv).toNat)
   case atStart=>exact ⟨0,_,0,0,0,rfl,Nat.zero_le _,Hd (fun m hm=>absurd hm (Nat.not_lt_zero _)),Hd (fun m hm=>absurd hm (Nat.not_lt_zero _)),ROW3,OW3⟩
   case round =>
    clear ROW3 OW3
    obtain ⟨i,o,s,p,y,rfl,hi,HO,HI,HR,HW⟩:=hrel
    by_cases hlt : i < L
    ·have hbs:=HW.out.bi (g:=gs) (z:=s) (by simp)
     have C1:=Hd (bset64_any gs s 0 wr (by omega) (by omega) hbs)
     clear hbs
     go_wp2_with fail
     refine C1.out.mono ?_
     rintro e w2 ⟨rfl,k1,k2⟩
     have HR2:=Hd (HR.out.lowB (k2.below (G + 1) (by have:=(RowV.lt HR.out).2; omega) (fun g hg=>by rw [List.mem_singleton.1 hg]; omega)) (Nat.lt_succ_self _))
     have HW2 : Hid (Own w w2 [(gy,y),(gp,p),(gs,0)]):=Hd (Own.upd [(gy,y),(gp,p)] HW.out k1 k2)
     clear k1 k2 C1 HR HW
     have y1 : IntKind.i64.wrap ((i : Int) - (n' : Int)) = (i : Int) - (n' : Int):=by rw [IntKind.wrap_i64]; omega
     have y2 : IntKind.i64.wrap ((i : Int) - (n' : Int) + 1) = (i : Int) - (n' : Int) + 1:=by rw [IntKind.wrap_i64]; omega
     have y3 : wrap64 ((i : Int) - (n' : Int)) = (i : Int) - (n' : Int):=by unfold wrap64; omega
     have y4 : wrap64 ((i : Int) - (n' : Int) + 1) = (i : Int) - (n' : Int) + 1:=by unfold wrap64; omega
     go_upto_region 12 with fail
     obtain ⟨j0,hj0⟩ : ∃ j0 : Nat,j0 = i + 1 - n':=⟨_,rfl⟩
     have hmax : max (0 : Int) ((i : Int) - (n' : Int) + 1) = (j0 : Int):=by omega
     rw [hmax]
     have HJ0 : Hid (sumI j0 (fun j=>a.getD j 0 * b.getD (i - j) 0) = 0):=Hd (by
      by_cases hz : j0 = 0
      ·rw [hz]; rfl
      ·exact pc_from (by rw [HLAB.out.2]; omega) (by omega))
     have HJI : Hid (i < j0 + n'):=Hd (by omega)
     have hja : j0 <= i + 1:=by omega
     have hjb : j0 <= n:=by have:=HNN.out; omega
     clear hmax hj0 y1 y2 y3 y4
     go_loopw [11] (fun jv wr=>∃ (j : Nat) (p y : Int),jv = .int .i64 j /\ j <= i + 1 /\ j <= n /\ Hid (i < j + n') /\ Hid (LRow wr w.heap.size G L o) /\ Hid (Own w wr [(gy,y),(gp,p),(gs,sumI j (fun j=>a.getD j 0 * b.getD (i - j) 0))])) (fun jv _=>n - (intOf jv).toNat)
     case atStart=>exact ⟨j0,p,y,rfl,hja,hjb,HJI,HR2,Hd (by rw [HJ0.out]; exact HW2.out)⟩
     case round =>
      clear HR2 HW2 HJ0 hja hjb HJI
      obtain ⟨j,p,y,rfl,hj1,hj2,HJN,HR2,HW2⟩:=hrel
      have hb2:=HW2.out.1
      have HSB:=Hd (pc_part (a:=a) (b:=b) HWA.out HWB.out i j (by omega))
      have HSN : Hid (sumI (j + 1) (fun j=>a.getD j 0 * b.getD (i - j) 0) = sumI j (fun j=>a.getD j 0 * b.getD (i - j) 0) + a.getD j 0 * b.getD (i - j) 0):=Hd rfl
      have HUP:=Hd (pc_upto (a:=a) (b:=b) (i:=i) (j:=j) hj1)
      obtain ⟨S,hS⟩ : ∃ S,S = sumI j (fun j=>a.getD j 0 * b.getD (i - j) 0):=⟨_,rfl⟩
      rw [<- hS] at HW2 HSB HSN HUP
      by_cases hc : j <= i /\ j < n
      ·obtain ⟨hc1,hc2⟩:=hc
       have q3 : decide ((j : Int) <= (i : Int)) = true:=decide_eq_true (by omega)
       have q4 : decide ((j : Int) < (n : Int)) = true:=decide_eq_true (by omega)
       obtain ⟨r,hr⟩ : ∃ r,r = i - j:=⟨_,rfl⟩
       have hrn : r < n':=by have:=HJN.out; omega
       have hx:=get_of HLAB.out.1 hc2
       have hy:=get_of HLAB.out.2 hrn
       rw [<- hr] at HSN
       obtain ⟨ad,hA,hab,_⟩:=HA.out.2.2.2 j _ hx
       obtain ⟨bd,hB,hbb,_⟩:=HB.out.2.2.2 r _ hy
       subst hA
       subst hB
       have KS : Hid (∀ v,Below w.heap.size w v -> (v.cell? (ad.add j) = some (.int .i64 (a.getD j 0)) /\ v.cell? (bd.add r) = some (.int .i64 (b.getD r 0)))):=Hd (fun v hv=>by
        obtain ⟨ad',e1,_,k1⟩:=(HA.out.below hv).2.2.2 j _ hx
        obtain ⟨bd',e2,_,k2⟩:=(HB.out.below hv).2.2.2 r _ hy
        injection e1 with e1
        injection e2 with e2
        subst e1
        subst e2
        exact ⟨k1,k2⟩)
       have HXB : Hid (-9223372036854775808 <= a.getD j 0 /\ a.getD j 0 < 9223372036854775808):=Hd (HWA.out _ (List.mem_of_getElem? hx))
       have HYB : Hid (-9223372036854775808 <= b.getD r 0 /\ b.getD r 0 < 9223372036854775808):=Hd (HWB.out _ (List.mem_of_getElem? hy))
       obtain ⟨X,hX⟩ : ∃ X,X = a.getD j 0:=⟨_,rfl⟩
       obtain ⟨Y,hY⟩ : ∃ Y,Y = b.getD r 0:=⟨_,rfl⟩
       rw [<- hX,<- hY] at KS HSN
       rw [<- hX] at HXB
       rw [<- hY] at HYB
       have HB1 : Hid (X.natAbs * Y.natAbs < BL):=Hd (small_BL (Nat.le_trans (Nat.mul_le_mul (show X.natAbs <= 9223372036854775808 by have:=HXB.out; omega) (show Y.natAbs <= 9223372036854775808 by have:=HYB.out; omega)) (by decide)))
       have HB2 : Hid (S.natAbs + (X * Y).natAbs < BL):=Hd (small_BL (by
        have h1:=Nat.mul_le_mul (show X.natAbs <= 9223372036854775808 by have:=HXB.out; omega) (show Y.natAbs <= 9223372036854775808 by have:=HYB.out; omega)
        rw [Int.natAbs_mul]
        have h2:=HSB.out
        omega))
       have z1 : IntKind.i64.wrap ((i : Int) - (j : Int)) = (r : Int):=by rw [IntKind.wrap_i64]; omega
       have z2 : wrap64 ((i : Int) - (j : Int)) = (r : Int):=by unfold wrap64; omega
       have hrn2 : (r : Int) < (n' : Int):=by omega
       have HR3 : Hid (LRow wr.drew w.heap.size G L o):=Hd HR2.out
       have HW3:=Hd (HW2.out.below (below_drew (Below.refl wr.heap.size wr)))
       have HKS0:=Hd (KS.out _ HW3.out.1)
       clear hr hX hY hS hx hy hab hbb HR2 HW2 HUP HSB hb2
       go_wp2_with fail
       refine wp_region_perm (fun v=>v.cell? (ad.add j) = some (.int .i64 X) /\ v.cell? (bd.add r) = some (.int .i64 Y)) [(true,0),(true,1),(true,2),(true,3),(true,4),(true,5),(true,6),(true,7),(true,9),(true,10),(true,11),(true,12),(true,13),(true,14),(true,15),(false,8),(false,16),(false,17)] 18 (by kernel_rfl) (by kernel_rfl) (fun _ _ _ _ _ h=>h) ?_ ?_
       ·exact HKS0.out
       simp only [List.take_succ_cons,List.take_zero]
       iterate 15
        refine wpHP_take ?_ rfl (by rfl) ?_ ?_
        rotate_left
        ·rintro v ⟨_,_⟩; go_simp; try (first | with_reducible rfl)
        simp only [Act.put,List.setIfInBounds_toArray,List.set_cons_zero,List.set_cons_succ]
       clear HKS0
       refine wpHP_call rfl (by rfl) (fun K hK=>?_)
       have HK1:=Hd hK
       clear hK
       go_simp
       refine (bset64_any gp p X wr.drew (by have:=HXB.out; omega) (by have:=HXB.out; omega) (HW3.out.bi (g:=gp) (z:=p) (by simp))).mono ?_
       rintro e w3 ⟨rfl,k1,k2⟩
       have HR4:=Hd (HR3.out.lowB (k2.below (G + 1) (by have:=(RowV.lt HR3.out).2; omega) (fun g hg=>by rw [List.mem_singleton.1 hg]; omega)) (Nat.lt_succ_self _))
       have HW4 : Hid (Own w w3 [(gy,y),(gp,X),(gs,S)]):=Hd (Own.upd [(gy,y)] HW3.out k1 k2)
       clear k1 k2 HR3 HW3
       refine HK1.out _ _ (KS.out _ HW4.out.1) ?_
       clear HK1
       try simp only [Act.put,List.setIfInBounds_toArray,List.set_cons_zero,List.set_cons_succ]
       refine wpHP_call rfl (by rfl) (fun K hK=>?_)
       have HK1:=Hd hK
       clear hK
       go_simp
       refine (bset64_any gy y Y w3 (by have:=HYB.out; omega) (by have:=HYB.out; omega) (HW4.out.bi (g:=gy) (z:=y) (by simp))).mono ?_
       rintro e w4 ⟨rfl,k1,k2⟩
       have HR5:=Hd (HR4.out.lowB (k2.below (G + 1) (by have:=(RowV.lt HR4.out).2; omega) (fun g hg=>by rw [List.mem_singleton.1 hg]; omega)) (Nat.lt_succ_self _))
       have HW5 : Hid (Own w w4 [(gy,Y),(gp,X),(gs,S)]):=Hd (Own.upd [] HW4.out k1 k2)
       clear k1 k2 HR4 HW4
       refine HK1.out _ _ (KS.out _ HW5.out.1) ?_
       clear HK1
       try simp only [Act.put,List.setIfInBounds_toArray,List.set_cons_zero,List.set_cons_succ]
       refine wpHP_call rfl (by rfl) (fun K hK=>?_)
       have HK1:=Hd hK
       clear hK
       go_simp
       refine (bmul_any gp gp gy X X Y w4 (HW5.out.bi (g:=gp) (z:=X) (by simp)) (HW5.out.bi (g:=gp) (z:=X) (by simp)) (HW5.out.bi (g:=gy) (z:=Y) (by simp)) HB1.out).mono ?_
       rintro e w5 ⟨rfl,k1,k2⟩
       have HR6:=Hd (HR5.out.lowB (k2.below (G + 1) (by have:=(RowV.lt HR5.out).2; omega) (fun g hg=>by rw [List.mem_singleton.1 hg]; omega)) (Nat.lt_succ_self _))
       have HW6 : Hid (Own w w5 [(gy,Y),(gp,X * Y),(gs,S)]):=Hd (Own.upd [(gy,Y)] HW5.out k1 k2)
       clear k1 k2 HR5 HW5
       refine HK1.out _ _ (KS.out _ HW6.out.1) ?_
       clear HK1
       try simp only [Act.put,List.setIfInBounds_toArray,List.set_cons_zero,List.set_cons_succ]
       refine wpHP_nil ?_
       simp only [QT,List.drop_succ_cons,List.drop_zero,Act.put,List.setIfInBounds_toArray,List.set_cons_zero,List.set_cons_succ]
       have C4:=Hd (badd_any gs gs gp S S (X * Y) w5 (HW6.out.bi (g:=gs) (z:=S) (by simp)) (HW6.out.bi (g:=gs) (z:=S) (by simp)) (HW6.out.bi (g:=gp) (z:=X * Y) (by simp)) HB2.out)
       clear z1 z2
       go_wp2_with fail
       refine C4.out.mono ?_
       rintro e w6 ⟨rfl,k1,k2⟩
       have HR7:=Hd (HR6.out.lowB (k2.below (G + 1) (by have:=(RowV.lt HR6.out).2; omega) (fun g hg=>by rw [List.mem_singleton.1 hg]; omega)) (Nat.lt_succ_self _))
       have HW7 : Hid (Own w w6 [(gy,Y),(gp,X * Y),(gs,S + X * Y)]):=Hd (Own.upd [(gy,Y),(gp,X * Y)] HW6.out k1 k2)
       clear k1 k2 HR6 HW6 C4
       go_wp2_with fail
       exact ⟨⟨j + 1,_,_,by go_num,by omega,hc2,Hd (by have:=HJN.out; omega),HR7,Hd (by rw [HSN.out]; exact HW7.out)⟩,by simp [intOf]; omega⟩
      ·have hsum : S = pcI a b i:=by rw [hS] at HUP ⊢; exact HUP.out (by rw [HLAB.out.1]; omega)
       have hcond : (j <= i /\ ¬ j < n) \/ ¬ j <= i:=by omega
       rw [hsum] at HW2
       clear hc HSB HSN HUP hS hsum hb2 HJN
       obtain ⟨V,hV⟩ : ∃ V,V = pcI a b i:=⟨_,rfl⟩
       rw [<- hV] at HW2
       have HV:=Hd hV
       clear hV
       have HBE:=Hd HW2.out.1
       have C5:=Hd (bisInt64_any gs V wr (HW2.out.bi (g:=gs) (z:=V) (by simp)))
       cases hB : i64B V with
       | false =>
         rw [hB] at C5
         have HNL : Hid (¬ L64b (pcL a b)):=Hd (fun h=>by
          have h1 : pcI a b i ∈ pcL a b:=by rw [HPL.out]; exact List.mem_map.2 ⟨i,List.mem_range.2 hlt,rfl⟩
          have h2:=h _ h1
          rw [<- HV.out] at h2
          unfold i64B at hB
          exact absurd h2 (of_decide_eq_false hB))
         clear hB HR2 HW2 HV HO HI
         rcases hcond with ⟨p1,p2⟩ | p1
         ·have q3 : decide ((j : Int) <= (i : Int)) = true:=decide_eq_true (by omega)
          have q4 : decide ((j : Int) < (n : Int)) = false:=decide_eq_false (by omega)
          go_wp2_with fail
          refine C5.out.mono ?_
          rintro e w3 ⟨rfl,b3⟩
          have HB3:=Hd (HBE.out.trans (b3.mono HBE.out.size))
          clear b3 C5 HBE
          go_wp2_with fail
          go_ret2
          exact .inr ⟨by rw [HLAB.out.1,HLAB.out.2]; have:=HNN.out; omega,.inr ⟨HNE.out.1,HNE.out.2,.inl ⟨HNL.out,rfl,HB3.out⟩⟩⟩
         ·have q3 : decide ((j : Int) <= (i : Int)) = false:=decide_eq_false (by omega)
          go_wp2_with fail
          refine C5.out.mono ?_
          rintro e w3 ⟨rfl,b3⟩
          have HB3:=Hd (HBE.out.trans (b3.mono HBE.out.size))
          clear b3 C5 HBE
          go_wp2_with fail
          go_ret2
          exact .inr ⟨by rw [HLAB.out.1,HLAB.out.2]; have:=HNN.out; omega,.inr ⟨HNE.out.1,HNE.out.2,.inl ⟨HNL.out,rfl,HB3.out⟩⟩⟩
       | true =>
         rw [hB] at C5
         have HBT:=Hd hB
         clear hB HBE
         rcases hcond with ⟨p1,p2⟩ | p1
         ·have q3 : decide ((j : Int) <= (i : Int)) = true:=decide_eq_true (by omega)
          have q4 : decide ((j : Int) < (n : Int)) = false:=decide_eq_false (by omega)
          go_wp2_with fail
          refine C5.out.mono ?_
          rintro e w3 ⟨rfl,b3⟩
          have HR3 : Hid (LRow w3 w.heap.size G L o):=Hd (RowV.below HR2.out b3)
          have HW3:=Hd (HW2.out.below b3)
          clear b3 C5 HR2 HW2
          have C6:=Hd (bint64_any gs V w3 (HW3.out.bi (g:=gs) (z:=V) (by simp)) HBT.out)
          go_wp2_with fail
          refine C6.out.mono ?_
          rintro e w4 ⟨rfl,b4⟩
          have HR4 : Hid (LRow w4 w.heap.size G L o):=Hd (RowV.below HR3.out b4)
          have HW4:=Hd (HW3.out.below b4)
          clear b4 C6 HR3 HW3
          obtain ⟨z,hz⟩ : ∃ z,o[i]? = some z:=⟨_,List.getElem?_eq_getElem (by rw [LRow.len HR4.out]; exact hlt)⟩
          have d1:=RowV.cell HR4.out i (.int .i64 z) (by rw [List.getElem?_map,hz]; rfl)
          have f1:=RowV.free HR4.out i
          have HR5:=Hd (LRow.set HR4.out i V)
          have HW5:=Hd (HW4.out.storeL (x:=V) hGb d1 (fun p hp=>by
           simp at hp
           rcases hp with rfl | rfl | rfl
           ·show gy ≠ G; omega
           ·show gp ≠ G; omega
           ·show gs ≠ G; omega))
          have HO5 : Hid (∀ m < i + 1,(o.set i V)[m]? = some (pcI a b m)):=Hd (fun m hm=>by
           by_cases e : m = i
           ·rw [e,List.getElem?_set_self (by rw [LRow.len HR4.out]; exact hlt),HV.out]
           ·rw [List.getElem?_set_ne (fun h=>e h.symm)]; exact HO.out m (by omega))
          have HI5 : Hid (∀ m < i + 1,i64B (pcI a b m) = true):=Hd (fun m hm=>by
           by_cases e : m = i
           ·rw [e,<- HV.out]; exact HBT.out
           ·exact HI.out m (by omega))
          clear hz HR4 HW4 HO HI
          go_wp2_with fail
          exact ⟨⟨i + 1,_,_,_,_,by go_num,hlt,HO5,HI5,HR5,HW5⟩,by simp [intOf]; omega⟩
         ·have q3 : decide ((j : Int) <= (i : Int)) = false:=decide_eq_false (by omega)
          go_wp2_with fail
          refine C5.out.mono ?_
          rintro e w3 ⟨rfl,b3⟩
          have HR3 : Hid (LRow w3 w.heap.size G L o):=Hd (RowV.below HR2.out b3)
          have HW3:=Hd (HW2.out.below b3)
          clear b3 C5 HR2 HW2
          have C6:=Hd (bint64_any gs V w3 (HW3.out.bi (g:=gs) (z:=V) (by simp)) HBT.out)
          go_wp2_with fail
          refine C6.out.mono ?_
          rintro e w4 ⟨rfl,b4⟩
          have HR4 : Hid (LRow w4 w.heap.size G L o):=Hd (RowV.below HR3.out b4)
          have HW4:=Hd (HW3.out.below b4)
          clear b4 C6 HR3 HW3
          obtain ⟨z,hz⟩ : ∃ z,o[i]? = some z:=⟨_,List.getElem?_eq_getElem (by rw [LRow.len HR4.out]; exact hlt)⟩
          have d1:=RowV.cell HR4.out i (.int .i64 z) (by rw [List.getElem?_map,hz]; rfl)
          have f1:=RowV.free HR4.out i
          have HR5:=Hd (LRow.set HR4.out i V)
          have HW5:=Hd (HW4.out.storeL (x:=V) hGb d1 (fun p hp=>by
           simp at hp
           rcases hp with rfl | rfl | rfl
           ·show gy ≠ G; omega
           ·show gp ≠ G; omega
           ·show gs ≠ G; omega))
          have HO5 : Hid (∀ m < i + 1,(o.set i V)[m]? = some (pcI a b m)):=Hd (fun m hm=>by
           by_cases e : m = i
           ·rw [e,List.getElem?_set_self (by rw [LRow.len HR4.out]; exact hlt),HV.out]
           ·rw [List.getElem?_set_ne (fun h=>e h.symm)]; exact HO.out m (by omega))
          have HI5 : Hid (∀ m < i + 1,i64B (pcI a b m) = true):=Hd (fun m hm=>by
           by_cases e : m = i
           ·rw [e,<- HV.out]; exact HBT.out
           ·exact HI.out m (by omega))
          clear hz HR4 HW4 HO HI
          go_wp2_with fail
          exact ⟨⟨i + 1,_,_,_,_,by go_num,hlt,HO5,HI5,HR5,HW5⟩,by simp [intOf]; omega⟩
    ·obtain rfl : L = i:=by omega
     have ho : o = pcL a b:=by
      rw [HPL.out]
      exact all_eq HR.out.len (tabL_len _ _) (fun m hm=>by rw [HO.out m hm,tabL_at _ hm])
     have HLB : Hid (L64b (pcL a b)):=Hd (fun x hx=>by
      rw [HPL.out] at hx
      unfold tabL at hx
      obtain ⟨m,hm,rfl⟩:=List.mem_map.1 hx
      have:=of_decide_eq_true (HI.out m (List.mem_range.1 hm))
      exact this)
     have HOW : Hid (wr.ownsRow w.heap.size 2 1 (.slice (some ⟨G,0,none⟩) L L) (pcL a b).length ((pcL a b).map (Value.int .i64))):=Hd (by
      rw [<- ho,HR.out.len]
      exact HR.out)
     have HBE:=Hd HW.out.1
     clear ho HR HW HO HI
     go_wp2_with fail
     go_ret2
     exact .inr ⟨by rw [HLAB.out.1,HLAB.out.2]; have:=HNN.out; omega,.inr ⟨HNE.out.1,HNE.out.2,.inr ⟨HLB.out,_,rfl,HOW.out,HBE.out⟩⟩⟩
end
section
open Go.RowKit
theorem OwnT.ul {w w' : World} {e : Ending} {l : List Int} (h : OwnT w w' e l) : ∃ A c,e = .returned (.tuple #[.slice A l.length c,.int .i64 0]) /\ UL w' A l.length c l /\ Below w.heap.size w w':=by
 obtain ⟨v,h1,h2,h3⟩:=h
 obtain ⟨A,c,rfl,h4⟩:=UL.of_own h2
 exact ⟨A,c,h1,h4,h3⟩
theorem tms_told {a b : List Int} {w w' : World} {e : Ending} (h : TmsPost a b w e w') (h1 : a.length + b.length <= 16384) (h2 : a ≠ []) (h3 : b ≠ []) (h4 : okL a) (h5 : okL b) (h6 : ltL (ordP (a.length + b.length - 1)) a b = true) : OwnT w w' e (pcL a b):=by
 rcases h with ⟨q,_⟩ | ⟨_,⟨q,_⟩ | ⟨_,_,⟨q,_⟩ | ⟨_,_,⟨q,_⟩ | ⟨_,q⟩⟩⟩⟩
 ·omega
 ·exact absurd q (fun q=>q.elim h2 h3)
 ·exact absurd ⟨h4,h5⟩ q
 ·rw [h6] at q; cases q
 ·exact q
theorem slw_told {a b : List Int} {w w' : World} {e : Ending} (h : SlwPost a b w e w') (h1 : a.length + b.length <= 16384) (h2 : a ≠ []) (h3 : b ≠ []) (h4 : L64b (pcL a b)) : OwnT w w' e (pcL a b):=by
 rcases h with ⟨q,_⟩ | ⟨_,⟨q,_⟩ | ⟨_,_,⟨q,_⟩ | ⟨_,q⟩⟩⟩
 ·omega
 ·exact absurd q (fun q=>q.elim h2 h3)
 ·exact absurd h4 q
 ·exact q
theorem is_same (A B : Option Addr) (n c c' : Nat) (T : Int) (l : List Int) (w : World) (hn : n <= 1000000000) (ha : UL w A n c l) (hb : UL w B n c' l) :
  Calls Tryz.prog 19 #[.slice A n c,.int .i64 T,.slice B n c',.int .i64 T] w fun e w'=>e = .returned (.bool true) /\ Below w.heap.size w w':=by
 have HS:=Hd (same_longs A n c B c' l w hn ha hb)
 have hT : (T == T) = true:=by simp
 clear ha hb
 go_enter Tryz.func19,Tryz.ntmps19
 go_wp2_with fail
 refine HS.out.mono ?_
 rintro e w' ⟨rfl,h⟩
 have HB:=Hd h
 clear h
 go_wp2_with fail
 go_ret
 exact ⟨rfl,HB.out⟩
theorem aw_pl : pcL [1,2,3] [4,5] = [4,13,22,15]:=by decide
theorem aw_sl : pcL [4611686018427387904,4611686018427387904] [1,-1] = [4611686018427387904,0,-4611686018427387904]:=by decide
set_option maxRecDepth 100000 in
set_option maxHeartbeats 4000000 in
theorem pawake_any (w : World) (hR : RWd An.PI w) : Calls Tryz.prog 16 #[] w fun e w'=>e = .returned (.bool true) /\ Below w.heap.size w w':=by
 have HR:=Hd hR
 clear hR
 go_enter Tryz.func16,Tryz.ntmps16
 go_wp2_with fail
 obtain ⟨u1,u2,b1⟩:=two_rows w [1,2,3] [4,5] 2
 have C1:=Hd (ptimes_any An.PI 10 _ _ 3 3 2 2 _ _ _ (by omega) (by omega) u1 u2 (HR.out.below b1) wheels10 (fun _ _ _=>by decide))
 have B1:=Hd b1
 clear u1 u2 b1
 refine C1.out.mono ?_
 intro e w1 h1
 obtain ⟨A1,c1,rfl,r1,b2⟩:=(tms_told h1 (by decide) (by decide) (by decide) (ok_small _ (by decide)) (ok_small _ (by decide)) (by decide +kernel)).ul
 rw [aw_pl] at r1
 have R1:=Hd r1
 have B2:=Hd (B1.out.trans (b2.mono B1.out.size))
 have hl1 : (pcL [1,2,3] [4,5]).length = 4:=by rw [aw_pl]; rfl
 rw [hl1]
 clear r1 b2 h1 hl1 C1 B1
 go_wp2_with fail
 obtain ⟨u1,u2,b1⟩:=two_rows w1 [4611686018427387904,4611686018427387904] [1,-1] 2
 have B1:=Hd (B2.out.trans (b1.mono B2.out.size))
 have C1:=Hd (pslowly_any _ _ 2 2 2 2 _ _ _ (by omega) (by omega) u1 u2 (l64_small _ (by decide)) (l64_small _ (by decide)))
 have R1':=Hd (R1.out.below b1)
 clear u1 u2 b1 B2 R1
 refine C1.out.mono ?_
 intro e w2 h1
 obtain ⟨A2,c2,rfl,r2,b2⟩:=(slw_told h1 (by decide) (by decide) (by decide) (by rw [aw_sl]; exact l64_small _ (by decide))).ul
 rw [aw_sl] at r2
 have hl1 : (pcL [4611686018427387904,4611686018427387904] [1,-1]).length = 3:=by rw [aw_sl]; rfl
 rw [hl1]
 have R1:=Hd (R1'.out.below b2)
 have R2:=Hd r2
 have B2:=Hd (B1.out.trans (b2.mono B1.out.size))
 clear r2 b2 h1 hl1 C1 B1 R1'
 go_wp2_with fail
 have b1:=(Below.refl w2.heap.size w2).alloc (Nat.le_refl _) (.cells (([4,13,22,15] : List Int).map (Value.int .i64)).toArray 2)
 have C1:=Hd (is_same _ _ 4 _ 4 0 [4,13,22,15] _ (by decide) (R1.out.below b1) (UL_new w2 [4,13,22,15] 2))
 have B1:=Hd (B2.out.trans (b1.mono B2.out.size))
 have R2':=Hd (R2.out.below b1)
 clear b1 B2 R1 R2
 refine C1.out.mono ?_
 rintro e w3 ⟨rfl,b2⟩
 have R2:=Hd (R2'.out.below b2)
 have B2:=Hd (B1.out.trans (b2.mono B1.out.size))
 clear b2 C1 B1 R2'
 go_wp2_with fail
 have b1:=(Below.refl w3.heap.size w3).alloc (Nat.le_refl _) (.cells (([4611686018427387904,0,-4611686018427387904] : List Int).map (Value.int .i64)).toArray 2)
 have C1:=Hd (is_same _ _ 3 _ 3 0 [4611686018427387904,0,-4611686018427387904] _ (by decide) (R2.out.below b1) (UL_new w3 [4611686018427387904,0,-4611686018427387904] 2))
 have B1:=Hd (B2.out.trans (b1.mono B2.out.size))
 clear b1 B2 R2
 refine C1.out.mono ?_
 rintro e w4 ⟨rfl,b2⟩
 have B2:=Hd (B1.out.trans (b2.mono B1.out.size))
 clear b2 C1 B1
 go_wp2_with fail
 go_ret
 exact ⟨rfl,B2.out⟩
end
end Go.Proofs.YtnpanpkahbcecaaGreatDoor

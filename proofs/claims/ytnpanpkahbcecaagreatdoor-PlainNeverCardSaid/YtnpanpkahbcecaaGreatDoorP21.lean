/-
Walk: angle's series.
-/
import Derived.Test.YtnpanpkahbcecaaGreatDoorP20
import Derived.Lib.Hide
set_option linter.unusedVariables false
set_option linter.unusedSimpArgs false
namespace Go.Proofs.YtnpanpkahbcecaaGreatDoor
section
namespace An
@[irreducible] def LIM : Nat:=2 ^ 1800
def arcL (sq : Nat) : Nat -> Nat -> Nat -> Int -> Option Int
 | 0,_,_,_=>none
 | f + 1,k,part,sum =>
   if part = 0 then some sum
   else
    let s:=if k % 4 = 1 then sum + ((part / k : Nat) : Int) else sum - ((part / k : Nat) : Int)
    if s.natAbs < LIM then arcL sq f (k + 2) (part / sq) s else none
def arcM (n bits : Nat) : Option Int:=arcL (n * n) 200 1 (2 ^ bits / n) 0
def piM (bits : Nat) : Option Int :=
 match arcM 5 bits,arcM 239 bits with
 | some a,some b=>if a.natAbs < 2 ^ 1000 /\ b.natAbs < 2 ^ 1000 then some ((a * 4 - b) * 4) else none
 | _,_=>none
def serL (bits sq : Nat) : Nat -> Nat -> Nat -> Int -> Option Int
 | 0,_,_,_=>none
 | f + 1,k,term,sum =>
   if term = 0 then some sum
   else if LIM <= term * sq then none
   else
    let t:=term * sq / 2 ^ bits / ((k + 1) * (k + 2))
    let s:=if (k + 2) / 2 % 2 = 1 then sum - (t : Int) else sum + (t : Int)
    if s.natAbs < LIM then serL bits sq f (k + 2) t s else none
def seriesM (x bits : Nat) (sine : Bool) : Option Int :=
 if LIM <= x * x then none
 else if sine then serL bits (x * x / 2 ^ bits) 200 1 x (x : Int) else serL bits (x * x / 2 ^ bits) 200 0 (2 ^ bits) ((2 ^ bits : Nat) : Int)
structure Val where
 neg : Bool
 whole : Bool
 sine : Bool
 n : Nat
 step : Nat
 of : Nat
def reducedM (order step : Nat) (sine : Bool) : Val :=
 let n:=2 ^ order
 let at0:=step % n * 4
 let at1:=if sine then (at0 + 3 * n) % (4 * n) else at0
 let at2:=if at1 > 2 * n then 4 * n - at1 else at1
 let neg:=decide (at2 > n)
 let at3:=if at2 > n then 2 * n - at2 else at2
 if at3 = 0 then ⟨neg,true,false,1,0,0⟩
 else if at3 = n then ⟨false,true,false,0,0,0⟩
 else if 2 * at3 > n then ⟨neg,false,true,0,n - at3,4 * n⟩
 else ⟨neg,false,false,0,at3,4 * n⟩
def floorM (P : Nat) (v : Val) : Option Nat :=
 match seriesM (P * (2 * v.step) / v.of) 164 v.sine with
 | some s =>
   if 16777216 <= s /\ s < 2 ^ 1000 /\ (s - 16777216) / 18446744073709551616 = (s + 16777216) / 18446744073709551616 then some ((s - 16777216) / 18446744073709551616).toNat else none
 | none=>none
def ctzM : Nat -> Nat -> Nat
 | 0,_=>0
 | f + 1,m=>if m % 2 = 1 then 0 else ctzM f (m / 2) + 1
def flN (m : Nat) (e : Int) (len : Nat) : Nat :=
 let last:=(len : Int) + e - 55
 let c:=if last <= e then m * 2 ^ (e - last).toNat else m / 2 ^ (last - e).toNat
 let n:=if e < last /\ c * 2 ^ (last - e).toNat ≠ m then c ||| 1 else c
 let whole:=n / 4
 let w:=if n % 4 = 3 \/ (n % 4 = 2 /\ whole % 2 = 1) then whole + 1 else whole
 (last + 1076).toNat * 4503599627370496 + w
def wordM (neg : Bool) (u : Nat) (e : Int) : Option Nat :=
 let k:=ctzM 200 u
 let m:=u / 2 ^ k
 if u ≠ 0 /\ u < 2 ^ 190 /\ k < 200 /\ m * 2 ^ k = u /\ m % 2 = 1 then
  some (flN m (e + k) (Nat.log2 m + 1) + if neg then 9223372036854775808 else 0)
 else none
def nearM (P : Nat) (v : Val) : Option Nat :=
 if v.whole then
  if v.n = 0 then some 0 else some (if v.neg then 13830554455654793216 else 4607182418800017408)
 else match floorM P v with
  | some f =>
    match wordM v.neg f (-100),wordM v.neg (f + 1) (-100) with
    | some a,some b=>if a = b then some a else none
    | _,_=>none
  | none=>none
def rootM (P order step : Nat) : Option (Nat × Nat) :=
 match nearM P (reducedM order step false),nearM P (reducedM order step true) with
 | some a,some b=>some (a,b)
 | _,_=>none
def PI : Nat:=((piM 164).getD 0).toNat
end An
end
section
open Go.RowKit
theorem BL_pow : BL = 2 ^ 1920:=by
 have e : 64 * 30 = 1920:=by decide
 rw [BL_eq,show (18446744073709551616 : Nat) = 2 ^ 64 by decide,<- Nat.pow_mul,e]
theorem LIM_BL {a b : Nat} (ha : a < An.LIM) (hb : b < 2 ^ 1000) : a + b + 1 < BL:=by
 rw [BL_pow]
 have h4 : An.LIM = 2 ^ 1800:=by unfold An.LIM; rfl
 rw [h4] at ha
 clear h4
 obtain ⟨K,hK⟩ : ∃ K : Nat,K = 1000:=⟨_,rfl⟩
 obtain ⟨L,hL⟩ : ∃ L : Nat,L = 1800:=⟨_,rfl⟩
 obtain ⟨M,hM⟩ : ∃ M : Nat,M = 1920:=⟨_,rfl⟩
 rw [<- hK] at hb
 rw [<- hL] at ha
 rw [<- hM]
 have h1 : (2 : Nat) ^ K <= 2 ^ L:=Nat.pow_le_pow_right (by decide) (by omega)
 have h2 : (2 : Nat) ^ (L + 1) = 2 * 2 ^ L:=by rw [Nat.pow_succ,Nat.mul_comm]
 have h3 : (2 : Nat) ^ (L + 1) < 2 ^ M:=Nat.pow_lt_pow_right (by decide) (by omega)
 omega
def Own (w0 wr : World) (l : List (Nat × Int)) : Prop:=Below w0.heap.size w0 wr /\ (l.map Prod.fst).Nodup /\ ∀ p ∈ l,BI wr p.1 p.2 /\ w0.heap.size <= p.1
theorem Own.nil {w0 wr : World} (h : Below w0.heap.size w0 wr) : Own w0 wr []:=⟨h,by simp,fun p hp=>by cases hp⟩
theorem Own.bi {w0 wr : World} {l : List (Nat × Int)} (h : Own w0 wr l) {g : Nat} {z : Int} (hm : (g,z) ∈ l) : BI wr g z:=(h.2.2 _ hm).1
theorem BI.lt' {w : World} {g : Nat} {z : Int} (h : BI w g z) : g < w.heap.size:=by obtain ⟨_,_,_,_,_,_,h⟩:=h; exact h
theorem Own.below {w0 wr w' : World} {l : List (Nat × Int)} (h : Own w0 wr l) (hb : Below wr.heap.size wr w') : Own w0 w' l :=
 ⟨h.1.trans (hb.mono h.1.size),h.2.1,fun p hp=>⟨(h.2.2 p hp).1.below hb,(h.2.2 p hp).2⟩⟩
theorem Own.add {w0 wr w' : World} {l : List (Nat × Int)} (h : Own w0 wr l) {g : Nat} {z : Int} (hb : BI w' g z) (hg : wr.heap.size <= g) (hw : Below wr.heap.size wr w') : Own w0 w' ((g,z) :: l):=by
 have h2:=h.below hw
 refine ⟨h2.1,?_,fun p hp=>?_⟩
 ·rw [List.map_cons,List.nodup_cons]
  refine ⟨fun hm=>?_,h2.2.1⟩
  obtain ⟨p,hp,e⟩:=List.mem_map.1 hm
  have:=(h.2.2 p hp).1.lt'
  rw [e] at this
  exact absurd this (by show ¬ g < wr.heap.size; omega)
 ·rcases List.mem_cons.1 hp with rfl | hp
  ·exact ⟨hb,Nat.le_trans h.1.size hg⟩
  ·exact h2.2.2 p hp
theorem Own.new {w0 wr : World} {l : List (Nat × Int)} (h : Own w0 wr l) (t : TypeId) : Own w0 (wr.alloc (.cells #[.bool false,.slice none 0 0] t)) ((wr.heap.size,0) :: l) :=
 h.add (BI.new wr t).1 (Nat.le_refl _) (BI.new wr t).2
theorem Own.upd {w0 wr w' : World} (l1 : List (Nat × Int)) {l2 : List (Nat × Int)} {g : Nat} {z z' : Int} (h : Own w0 wr (l1 ++ (g,z) :: l2)) (hb : BI w' g z') (ht : Tr [g] wr w') : Own w0 w' (l1 ++ (g,z') :: l2):=by
 obtain ⟨h1,h2,h3⟩:=h
 have hg:=(h3 (g,z) (by simp)).2
 refine ⟨h1.trans (ht.below _ h1.size (fun k hk=>by rw [List.mem_singleton.1 hk]; exact hg)),by simpa using h2,fun p hp=>?_⟩
 have hnd : ∀ p ∈ l1 ++ l2,p.1 ≠ g:=fun p hp e=>by
  rw [List.map_append,List.map_cons,List.nodup_append] at h2
  obtain ⟨_,n2,n3⟩:=h2
  rw [List.nodup_cons] at n2
  rcases List.mem_append.1 hp with hp | hp
  ·exact n3 p.1 (List.mem_map.2 ⟨p,hp,rfl⟩) g (by simp) e
  ·exact n2.1 (List.mem_map.2 ⟨p,hp,e⟩)
 have keep : ∀ p ∈ l1 ++ l2,BI w' p.1 p.2 /\ w0.heap.size <= p.1:=fun p hp=>by
  have hm : p ∈ l1 ++ (g,z) :: l2:=by
   rcases List.mem_append.1 hp with hp | hp
   ·exact List.mem_append.2 (.inl hp)
   ·exact List.mem_append.2 (.inr (List.mem_cons.2 (.inr hp)))
  exact ⟨ht.bi p.1 p.2 (fun hm=>hnd p hp (List.mem_singleton.1 hm)) (h3 p hm).1,(h3 p hm).2⟩
 rcases List.mem_append.1 hp with hp | hp
 ·exact keep p (List.mem_append.2 (.inl hp))
 ·rcases List.mem_cons.1 hp with rfl | hp
  ·exact ⟨hb,hg⟩
  ·exact keep p (List.mem_append.2 (.inr hp))
theorem Own.sub {w0 wr : World} {l l' : List (Nat × Int)} (h : Own w0 wr l) (hs : l'.Sublist l) : Own w0 wr l' :=
 ⟨h.1,h.2.1.sublist (hs.map _),fun p hp=>h.2.2 p (hs.subset hp)⟩
theorem Own.post {w0 wr : World} {l : List (Nat × Int)} (h : Own w0 wr l) {g : Nat} {z : Int} (hm : (g,z) ∈ l) : BI wr g z /\ w0.heap.size <= g /\ Below w0.heap.size w0 wr:=⟨(h.2.2 _ hm).1,(h.2.2 _ hm).2,h.1⟩
theorem point_any (n : Int) (N : Nat) (w : World) (h1 : -9223372036854775808 <= n) (h2 : n <= 9223372036854775807) (hN : N <= 1000) :
  Calls Tryz.prog 233 #[.int .i64 n,.int .u64 N] w (PPost (2 ^ N * n) w):=by
 have ho:=(Own.nil (Below.refl w.heap.size w)).new 68
 have HO:=Hd ho
 have HN:=Hd (fun v=>bnew_any n v h1 h2)
 have HB : Hid (2 ^ N * n.natAbs < BL):=Hd (by
  have a0 : n.natAbs <= 2 ^ 64:=by omega
  obtain ⟨K,hK⟩ : ∃ K : Nat,K = 1000:=⟨_,rfl⟩
  rw [<- hK] at hN
  have a1 : 2 ^ N <= 2 ^ K:=Nat.pow_le_pow_right (by decide) hN
  have a2:=Nat.mul_le_mul a1 a0
  rw [<- Nat.pow_add] at a2
  refine Nat.lt_of_le_of_lt a2 ?_
  have e:=BL_pow
  obtain ⟨M,hM⟩ : ∃ M : Nat,M = 1920:=⟨_,rfl⟩
  rw [<- hM] at e
  rw [e]
  exact Nat.pow_lt_pow_right (by decide) (by omega))
 clear ho h1 h2
 go_enter Tryz.func233,Tryz.ntmps233
 go_wp2_with fail
 refine (HN.out _).mono ?_
 rintro e w1 ⟨g,rfl,hb,hg,hw⟩
 have HO2:=Hd (HO.out.add hb hg hw)
 clear hb hg hw HO
 have HL:=Hd (blsh_any w.heap.size g 0 n N w1 (HO2.out.bi (by simp)) (HO2.out.bi (by simp)) (by omega) HB.out)
 go_wp2_with fail
 refine HL.out.mono ?_
 rintro e w2 ⟨rfl,hb,ht⟩
 have HO3:=Hd (HO2.out.upd [(g,n)] hb ht)
 clear hb ht
 go_wp2
 go_ret
 obtain ⟨a1,a2,a3⟩:=HO3.out.post (g:=w.heap.size) (z:=2 ^ N * n) (by simp)
 exact ⟨_,rfl,a1,a2,a3⟩
end
section
open Go.RowKit
namespace An
theorem arcL_zero {sq f k : Nat} {sum S : Int} (h : arcL sq f k 0 sum = some S) : sum = S:=by
 cases f with
 | zero=>simp [arcL] at h
 | succ f=>simpa [arcL] using h
theorem arcL_next {sq f k part : Nat} {sum S : Int} (h : arcL sq f k part sum = some S) (h0 : part ≠ 0) :
  ∃ f',f = f' + 1 /\ (if k % 4 = 1 then sum + ((part / k : Nat) : Int) else sum - ((part / k : Nat) : Int)).natAbs < LIM /\ arcL sq f' (k + 2) (part / sq) (if k % 4 = 1 then sum + ((part / k : Nat) : Int) else sum - ((part / k : Nat) : Int)) = some S:=by
 cases f with
 | zero=>simp [arcL] at h
 | succ f =>
   refine ⟨f,rfl,?_⟩
   unfold arcL at h
   rw [if_neg h0] at h
   simp only at h
   by_cases hl : (if k % 4 = 1 then sum + ((part / k : Nat) : Int) else sum - ((part / k : Nat) : Int)).natAbs < LIM
   ·rw [if_pos hl] at h; exact ⟨hl,h⟩
   ·rw [if_neg hl] at h; cases h
end An
theorem tdiv_nat2 (a b : Nat) : Int.tdiv (a : Int) (b : Int) = ((a / b : Nat) : Int):=by rw [Int.ofNat_tdiv]
theorem LIM_pos : (0 : Nat) < An.LIM:=by
 have h4 : An.LIM = 2 ^ 1800:=by unfold An.LIM; rfl
 generalize 1800 = K at h4
 rw [h4]
 exact Nat.two_pow_pos K
set_option maxRecDepth 100000 in
set_option maxHeartbeats 4000000 in
theorem arc_any (n N : Nat) (S : Int) (w : World) (hn : 1 <= n) (hn2 : n <= 1000) (hN : N <= 900) (h : An.arcM n N = some S) :
  Calls Tryz.prog 243 #[.int .i64 n,.int .u64 N] w (PPost S w):=by
 have hM : An.arcL (n * n) 200 1 (2 ^ N / n) 0 = some S:=h
 have HM:=Hd hM
 obtain ⟨sq,hsq⟩ : ∃ sq,sq = n * n:=⟨_,rfl⟩
 have hsq1 : 1 <= sq /\ sq <= 1000000:=by
  rw [hsq]; exact ⟨Nat.mul_pos hn hn,Nat.mul_le_mul hn2 hn2⟩
 have w1 : IntKind.i64.wrap ((n : Int) * (n : Int)) = (sq : Int):=by rw [hsq,Int.natCast_mul,IntKind.wrap_i64]; have : ((n : Int) * n) = (sq : Int):=by rw [hsq,Int.natCast_mul]
                                                                     omega
 have w1' : (n : Int) * (n : Int) = (sq : Int):=by rw [hsq,Int.natCast_mul]
 obtain ⟨P0,hP0⟩ : ∃ P,P = 2 ^ N / n:=⟨_,rfl⟩
 have HP0 : Hid (P0 < 2 ^ 1000):=Hd (by
  obtain ⟨K,hK⟩ : ∃ K : Nat,K = 1000:=⟨_,rfl⟩
  rw [<- hK,hP0]
  exact Nat.lt_of_le_of_lt (Nat.div_le_self _ _) (Nat.pow_lt_pow_right (by decide) (by omega)))
 have HE0 : Hid ((2 ^ N * 1 : Int).tdiv (n : Int) = (P0 : Int)):=Hd (by
  rw [Int.mul_one,show (2 : Int) ^ N = ((2 ^ N : Nat) : Int) by simp,tdiv_nat2,hP0])
 rw [<- hsq,<- hP0] at HM
 have HO0:=Hd ((Own.nil (Below.refl w.heap.size w)).new 68)
 clear h hM hsq hP0
 go_enter Tryz.func243,Tryz.ntmps243
 go_wp2_with fail
 refine (point_any 1 N _ (by decide) (by decide) (by omega)).mono ?_
 rintro e w2 ⟨gp,rfl,hb,hg,hw⟩
 have HO1:=Hd (HO0.out.add hb hg hw)
 clear hb hg hw HO0
 go_wp2_with fail
 refine (bnew_any (n : Int) _ (by omega) (by omega)).mono ?_
 rintro e w3 ⟨gn,rfl,hb,hg,hw⟩
 have HO2:=Hd (HO1.out.add hb hg hw)
 clear hb hg hw HO1
 go_wp2_with fail
 refine (bquo_any gp gp gn (2 ^ N * 1) (2 ^ N * 1) (n : Int) w3 (HO2.out.bi (by simp)) (HO2.out.bi (by simp)) (HO2.out.bi (by simp)) (by omega) (by omega)).mono ?_
 rintro e w4 ⟨rfl,hb,ht⟩
 rw [HE0.out] at hb
 have HO3:=Hd ((HO2.out.upd [(gn,(n : Int))] hb ht).sub (List.sublist_cons_self _ _))
 clear hb ht HO2 HE0
 go_wp2_with fail
 refine (bnew_any (sq : Int) _ (by omega) (by omega)).mono ?_
 rintro e w5 ⟨gq,rfl,hb,hg,hw⟩
 have HO4 : Hid (Own w w5 [(gq,(sq : Int)),(gp,(P0 : Int)),(w.heap.size,0)]):=Hd (HO3.out.add hb hg hw)
 clear hb hg hw HO3 w1 w1'
 go_wp2_with fail
 go_loopw [8] (fun kv wr=>∃ (f k part : Nat) (sum : Int),kv = .int .i64 k /\ k + 2 * f = 401 /\ 1 <= k /\ Hid (An.arcL sq f k part sum = some S) /\ Hid (part < 2 ^ 1000 /\ sum.natAbs < An.LIM) /\ Hid (Own w wr [(gq,(sq : Int)),(gp,(part : Int)),(w.heap.size,sum)])) (fun kv _=>(401 - intOf kv).toNat)
 case atStart=>exact ⟨200,1,P0,0,rfl,rfl,Nat.le_refl _,HM,Hd ⟨HP0.out,LIM_pos⟩,HO4⟩
 case round =>
  clear HO4 HM HP0
  obtain ⟨f,k,part,sum,rfl,hf,hk1,HM,HPS,HO⟩:=hrel
  obtain ⟨wo,rfl⟩ : ∃ wo : World,wo = wr:=⟨_,rfl⟩
  by_cases h0 : part = 0
  ·subst h0
   have HE:=Hd (An.arcL_zero HM.out)
   go_wp2_with fail
   refine (bsign_any gp ((0 : Nat) : Int) _ (HO.out.bi (by simp))).mono ?_
   rintro e w6 ⟨rfl,rfl⟩
   have hs0 : ((((0 : Nat) : Int)).sign != 0) = false:=rfl
   go_wp2_with fail
   go_ret
   obtain ⟨a1,a2,a3⟩:=HO.out.post (g:=w.heap.size) (z:=sum) (by simp)
   exact ⟨_,rfl,by rw [<- HE.out]; exact a1,a2,a3⟩
  ·obtain ⟨f',hf',hlim,hnext⟩:=An.arcL_next HM.out h0
   have hs0 : (((part : Int)).sign != 0) = true:=by
    have : (part : Int).sign = 1:=Int.sign_eq_one_of_pos (by omega)
    rw [this]; rfl
   have HSG:=Hd (fun v (h : BI v gp (part : Int))=>bsign_any gp (part : Int) v h)
   obtain ⟨sg,hsg⟩ : ∃ sg,sg = (part : Int).sign:=⟨_,rfl⟩
   rw [<- hsg] at hs0 HSG
   obtain ⟨term,hterm⟩ : ∃ t,t = part / k:=⟨_,rfl⟩
   obtain ⟨p2,hp2⟩ : ∃ t,t = part / sq:=⟨_,rfl⟩
   rw [<- hterm] at hlim hnext
   rw [<- hp2] at hnext
   have HT1 : Hid ((part : Int).tdiv (k : Int) = (term : Int)):=Hd (by rw [tdiv_nat2,hterm])
   have HT2 : Hid ((part : Int).tdiv (sq : Int) = (p2 : Int)):=Hd (by rw [tdiv_nat2,hp2])
   have HTB : Hid (term < 2 ^ 1000 /\ p2 < 2 ^ 1000):=Hd ⟨by rw [hterm]; exact Nat.lt_of_le_of_lt (Nat.div_le_self _ _) HPS.out.1,by rw [hp2]; exact Nat.lt_of_le_of_lt (Nat.div_le_self _ _) HPS.out.1⟩
   have HSB : Hid (sum.natAbs + term < BL):=Hd (by have:=LIM_BL HPS.out.2 HTB.out.1; omega)
   have HNX:=Hd hnext
   have HLM:=Hd hlim
   have q1 : (k : Int).tmod 4 = ((k % 4 : Nat) : Int):=by rw [Int.tmod_eq_emod_of_nonneg (by omega)]; omega
   have q1' : (k : Int) % 4 = ((k % 4 : Nat) : Int):=by omega
   obtain ⟨r,hr⟩ : ∃ r,r = k % 4:=⟨_,rfl⟩
   rw [<- hr] at q1 q1'
   have HR:=Hd hr
   have hk4 : k <= 401:=by omega
   have q2 : IntKind.i64.wrap ((k : Int) + 2) = (k : Int) + 2:=by rw [IntKind.wrap_i64]; omega
   have HF:=Hd (show k + 2 + 2 * f' = 401 by omega)
   have HON:=Hd (HO.out.new 68)
   clear hf' hlim hnext hsg hterm hp2 h0 hf hr
   go_wp2_with fail
   refine (HSG.out _ (HO.out.bi (by simp))).mono ?_
   rintro e w6 ⟨rfl,rfl⟩
   go_wp2_with fail
   refine (bnew_any (k : Int) _ (by omega) (by omega)).mono ?_
   rintro e w7 ⟨gk,rfl,hb,hg,hw⟩
   have HO2:=Hd (HON.out.add hb hg hw)
   clear hb hg hw HON HSG
   go_wp2_with fail
   refine (bquo_any wo.heap.size gp gk 0 (part : Int) (k : Int) w7 (HO2.out.bi (by simp)) (HO2.out.bi (by simp)) (HO2.out.bi (by simp)) (by omega) (by omega)).mono ?_
   rintro e w8 ⟨rfl,hb,ht⟩
   rw [HT1.out] at hb
   have HO3 : Hid (Own w w8 [(wo.heap.size,(term : Int)),(gq,(sq : Int)),(gp,(part : Int)),(w.heap.size,sum)]):=Hd ((HO2.out.upd [(gk,(k : Int))] hb ht).sub (List.sublist_cons_self _ _))
   clear hb ht HO2
   by_cases hr1 : r = 1
   ·subst hr1
    go_wp2_with fail
    refine (badd_any w.heap.size w.heap.size wo.heap.size sum sum (term : Int) w8 (HO3.out.bi (by simp)) (HO3.out.bi (by simp)) (HO3.out.bi (by simp)) (by rw [Int.natAbs_natCast]; exact HSB.out)).mono ?_
    rintro e w9 ⟨rfl,hb,ht⟩
    have HO4 : Hid (Own w w9 [(gq,(sq : Int)),(gp,(part : Int)),(w.heap.size,sum + (term : Int))]):=Hd ((HO3.out.upd [(wo.heap.size,(term : Int)),(gq,(sq : Int)),(gp,(part : Int))] hb ht).sub (List.sublist_cons_self _ _))
    clear hb ht HO3
    go_wp2_with fail
    refine (bquo_any gp gp gq (part : Int) (part : Int) (sq : Int) w9 (HO4.out.bi (by simp)) (HO4.out.bi (by simp)) (HO4.out.bi (by simp)) (by omega) (by omega)).mono ?_
    rintro e w10 ⟨rfl,hb,ht⟩
    rw [HT2.out] at hb
    have HO5 : Hid (Own w w10 [(gq,(sq : Int)),(gp,(p2 : Int)),(w.heap.size,sum + (term : Int))]):=Hd (HO4.out.upd [(gq,(sq : Int))] hb ht)
    have hl:=HLM.out
    have hn:=HNX.out
    rw [if_pos HR.out.symm] at hl hn
    have HL2:=Hd hl
    have HN2:=Hd hn
    clear hb ht HO4 hl hn
    go_wp2_with fail
    exact ⟨⟨f',k + 2,p2,_,by go_num,HF.out,by omega,HN2,Hd ⟨HTB.out.2,HL2.out⟩,HO5⟩,by have:=HF.out; simp only [intOf]; omega⟩
   ·have hrb : ((r : Int) == 1) = false:=by simp; omega
    go_wp2_with fail
    refine (bsub_any w.heap.size w.heap.size wo.heap.size sum sum (term : Int) w8 (HO3.out.bi (by simp)) (HO3.out.bi (by simp)) (HO3.out.bi (by simp)) (by rw [Int.natAbs_natCast]; exact HSB.out)).mono ?_
    rintro e w9 ⟨rfl,hb,ht⟩
    have HO4 : Hid (Own w w9 [(gq,(sq : Int)),(gp,(part : Int)),(w.heap.size,sum - (term : Int))]):=Hd ((HO3.out.upd [(wo.heap.size,(term : Int)),(gq,(sq : Int)),(gp,(part : Int))] hb ht).sub (List.sublist_cons_self _ _))
    clear hb ht HO3
    go_wp2_with fail
    refine (bquo_any gp gp gq (part : Int) (part : Int) (sq : Int) w9 (HO4.out.bi (by simp)) (HO4.out.bi (by simp)) (HO4.out.bi (by simp)) (by omega) (by omega)).mono ?_
    rintro e w10 ⟨rfl,hb,ht⟩
    rw [HT2.out] at hb
    have HO5 : Hid (Own w w10 [(gq,(sq : Int)),(gp,(p2 : Int)),(w.heap.size,sum - (term : Int))]):=Hd (HO4.out.upd [(gq,(sq : Int))] hb ht)
    have hl:=HLM.out
    have hn:=HNX.out
    rw [if_neg (by rw [<- HR.out]; exact hr1)] at hl hn
    have HL2:=Hd hl
    have HN2:=Hd hn
    clear hb ht HO4 hl hn
    go_wp2_with fail
    exact ⟨⟨f',k + 2,p2,_,by go_num,HF.out,by omega,HN2,Hd ⟨HTB.out.2,HL2.out⟩,HO5⟩,by have:=HF.out; simp only [intOf]; omega⟩
theorem pi_any (N : Nat) (S : Int) (w : World) (hN : N <= 900) (h : An.piM N = some S) :
  Calls Tryz.prog 230 #[.int .u64 N] w (PPost S w):=by
 obtain ⟨a,b,ha,hb,hab,hS⟩ : ∃ a b,An.arcM 5 N = some a /\ An.arcM 239 N = some b /\ (a.natAbs < 2 ^ 1000 /\ b.natAbs < 2 ^ 1000) /\ (a * 4 - b) * 4 = S:=by
  unfold An.piM at h
  cases ha : An.arcM 5 N with
  | none=>rw [ha] at h; cases h
  | some a =>
    cases hb : An.arcM 239 N with
    | none=>rw [ha,hb] at h; cases h
    | some b =>
      rw [ha,hb] at h
      simp only at h
      by_cases hc : a.natAbs < 2 ^ 1000 /\ b.natAbs < 2 ^ 1000
      ·rw [if_pos hc] at h; exact ⟨a,b,rfl,rfl,hc,Option.some.inj h⟩
      ·rw [if_neg hc] at h; cases h
 have H5:=Hd (fun v=>arc_any 5 N a v (by decide) (by decide) hN ha)
 have H239:=Hd (fun v=>arc_any 239 N b v (by decide) (by decide) hN hb)
 have HBD : Hid (16 * a.natAbs + 4 * b.natAbs < BL):=Hd (by
  have e:=BL_pow
  obtain ⟨M,hM⟩ : ∃ M : Nat,M = 1920:=⟨_,rfl⟩
  obtain ⟨K,hK⟩ : ∃ K : Nat,K = 1000:=⟨_,rfl⟩
  rw [<- hM] at e
  rw [<- hK] at hab
  have h1 : 2 ^ (K + 5) = 32 * 2 ^ K:=by rw [Nat.pow_add,Nat.mul_comm]
  have h2 : (2 : Nat) ^ (K + 5) < 2 ^ M:=Nat.pow_lt_pow_right (by decide) (by omega)
  rw [e]
  omega)
 have HS:=Hd hS
 clear ha hb hab hS h
 go_enter Tryz.func230,Tryz.ntmps230
 go_wp2_with fail
 refine (H5.out _).mono ?_
 rintro e w1 ⟨g,rfl,hb,hg,hw⟩
 have HO1:=Hd ((Own.nil (Below.refl w.heap.size w)).add hb hg hw)
 clear hb hg hw H5
 go_wp2_with fail
 refine (blsh_any g g a a 2 w1 (HO1.out.bi (by simp)) (HO1.out.bi (by simp)) (by decide) (by have:=HBD.out; omega)).mono ?_
 rintro e w2 ⟨rfl,hb,ht⟩
 have HO2 : Hid (Own w w2 [(g,2 ^ 2 * a)]):=Hd (HO1.out.upd [] hb ht)
 clear hb ht HO1
 go_wp2_with fail
 refine (H239.out _).mono ?_
 rintro e w3 ⟨g2,rfl,hb,hg,hw⟩
 have HO3:=Hd (HO2.out.add hb hg hw)
 clear hb hg hw H239 HO2
 go_wp2_with fail
 refine (bsub_any g g g2 (2 ^ 2 * a) (2 ^ 2 * a) b w3 (HO3.out.bi (by simp)) (HO3.out.bi (by simp)) (HO3.out.bi (by simp)) (by have:=HBD.out; omega)).mono ?_
 rintro e w4 ⟨rfl,hb,ht⟩
 have HO4 : Hid (Own w w4 [(g2,b),(g,2 ^ 2 * a - b)]):=Hd (HO3.out.upd [(g2,b)] hb ht)
 clear hb ht HO3
 go_wp2_with fail
 refine (blsh_any g g (2 ^ 2 * a - b) (2 ^ 2 * a - b) 2 w4 (HO4.out.bi (by simp)) (HO4.out.bi (by simp)) (by decide) (by have:=HBD.out; omega)).mono ?_
 rintro e w5 ⟨rfl,hb,ht⟩
 have HO5 : Hid (Own w w5 [(g2,b),(g,2 ^ 2 * (2 ^ 2 * a - b))]):=Hd (HO4.out.upd [(g2,b)] hb ht)
 clear hb ht HO4
 go_wp2
 go_ret
 obtain ⟨a1,a2,a3⟩:=HO5.out.post (g:=g) (z:=2 ^ 2 * (2 ^ 2 * a - b)) (by simp)
 exact ⟨_,rfl,by rw [show S = 2 ^ 2 * (2 ^ 2 * a - b) by have:=HS.out; omega]; exact a1,a2,a3⟩
end
section
open Go.RowKit
theorem LIM_BL2 {a b : Nat} (ha : a < An.LIM) (hb : b < An.LIM) : a + b + 1 < BL:=by
 rw [BL_pow]
 have h4 : An.LIM = 2 ^ 1800:=by unfold An.LIM; rfl
 rw [h4] at ha hb
 clear h4
 obtain ⟨L,hL⟩ : ∃ L : Nat,L = 1800:=⟨_,rfl⟩
 obtain ⟨M,hM⟩ : ∃ M : Nat,M = 1920:=⟨_,rfl⟩
 rw [<- hL] at ha hb
 rw [<- hM]
 have h2 : (2 : Nat) ^ (L + 1) = 2 * 2 ^ L:=by rw [Nat.pow_succ,Nat.mul_comm]
 have h3 : (2 : Nat) ^ (L + 1) < 2 ^ M:=Nat.pow_lt_pow_right (by decide) (by omega)
 omega
namespace An
theorem serL_zero {bits sq f k : Nat} {sum S : Int} (h : serL bits sq f k 0 sum = some S) : sum = S:=by
 cases f with
 | zero=>simp [serL] at h
 | succ f=>simpa [serL] using h
theorem serL_next {bits sq f k term : Nat} {sum S : Int} (h : serL bits sq f k term sum = some S) (h0 : term ≠ 0) :
  ∃ f' t,f = f' + 1 /\ term * sq < LIM /\ t = term * sq / 2 ^ bits / ((k + 1) * (k + 2)) /\ (if (k + 2) / 2 % 2 = 1 then sum - (t : Int) else sum + (t : Int)).natAbs < LIM /\ serL bits sq f' (k + 2) t (if (k + 2) / 2 % 2 = 1 then sum - (t : Int) else sum + (t : Int)) = some S:=by
 cases f with
 | zero=>simp [serL] at h
 | succ f =>
   refine ⟨f,term * sq / 2 ^ bits / ((k + 1) * (k + 2)),rfl,?_⟩
   unfold serL at h
   rw [if_neg h0] at h
   by_cases hq : LIM <= term * sq
   ·rw [if_pos hq] at h; cases h
   ·rw [if_neg hq] at h
    simp only at h
    refine ⟨by omega,rfl,?_⟩
    by_cases hl : (if (k + 2) / 2 % 2 = 1 then sum - ((term * sq / 2 ^ bits / ((k + 1) * (k + 2)) : Nat) : Int) else sum + ((term * sq / 2 ^ bits / ((k + 1) * (k + 2)) : Nat) : Int)).natAbs < LIM
    ·rw [if_pos hl] at h; exact ⟨hl,h⟩
    ·rw [if_neg hl] at h; cases h
end An
theorem rsh_nat (a N : Nat) : (a : Int) / 2 ^ N = ((a / 2 ^ N : Nat) : Int):=(rsh_pos a N).symm
set_option maxRecDepth 100000 in
set_option maxHeartbeats 4000000 in
theorem series_any (gx X N : Nat) (sine : Bool) (S : Int) (w : World) (hx : BI w gx (X : Int)) (hN : N <= 900) (hX : X < An.LIM) (h : An.seriesM X N sine = some S) :
  Calls Tryz.prog 232 #[.pointer (some ⟨gx,0,none⟩),.int .u64 N,.bool sine] w (PPost S w):=by
 have hXX : X * X < An.LIM:=by
  unfold An.seriesM at h
  by_cases hc : An.LIM <= X * X
  ·rw [if_pos hc] at h; cases h
  ·omega
 obtain ⟨sq,hsq⟩ : ∃ sq,sq = X * X / 2 ^ N:=⟨_,rfl⟩
 obtain ⟨k0,t0,hk0,hm,ht0⟩ : ∃ k0 t0 : Nat,k0 = (if sine then 1 else 0) /\ An.serL N sq 200 k0 t0 (t0 : Int) = some S /\ t0 = (if sine then X else 2 ^ N):=by
  unfold An.seriesM at h
  rw [if_neg (by omega)] at h
  cases sine
  ·exact ⟨0,2 ^ N,rfl,by rw [hsq]; exact h,rfl⟩
  ·exact ⟨1,X,rfl,by rw [hsq]; exact h,rfl⟩
 have HM:=Hd hm
 have HXX:=Hd hXX
 have HT0 : Hid (t0 < An.LIM):=Hd (by
  rw [ht0]; cases sine
  ·have h4 : An.LIM = 2 ^ 1800:=by unfold An.LIM; rfl
   obtain ⟨K,hK⟩ : ∃ K : Nat,K = 1800:=⟨_,rfl⟩
   rw [<- hK] at h4
   rw [h4]
   exact Nat.pow_lt_pow_right (by decide) (by omega)
  ·exact hX)
 have HXB:=Hd hx
 have HT0E : Hid (t0 = (if sine then X else 2 ^ N)):=Hd ht0
 have HSQ:=Hd hsq
 have hk01 : k0 <= 1:=by rw [hk0]; cases sine <;> decide
 clear h hXX hsq hm ht0 hX hx
 have hrest : ∀ (w1 : World) (gt : Nat),Own w w1 [(gt,(t0 : Int))] -> True:=fun _ _ _=>trivial
 clear hrest
 cases sine
 ·have hk : k0 = 0:=hk0
  have HTE : Hid (2 ^ N * 1 = (t0 : Int)):=Hd (by rw [HT0E.out]; simp)
  subst hk
  clear HT0E hk0 hk01
  go_enter Tryz.func232,Tryz.ntmps232
  go_wp2_with fail
  refine (point_any 1 N _ (by decide) (by decide) (by omega)).mono ?_
  rintro e w1 ⟨gt,rfl,hb,hg,hw⟩
  rw [HTE.out] at hb
  have HO1:=Hd ((Own.nil (Below.refl w.heap.size w)).add hb hg hw)
  clear hb hg hw HTE
  have HO2:=Hd (HO1.out.new 68)
  have HX2:=Hd (HXB.out.below HO2.out.1)
  go_wp2_with fail
  refine (bmul_any w1.heap.size gx gx 0 (X : Int) (X : Int) _ (HO2.out.bi (by simp)) HX2.out HX2.out (by rw [Int.natAbs_natCast]; have:=LIM_BL2 HXX.out LIM_pos; omega)).mono ?_
  rintro e w2 ⟨rfl,hb,ht⟩
  have HO3 : Hid (Own w w2 [(w1.heap.size,((X * X : Nat) : Int)),(gt,(t0 : Int))]):=Hd (HO2.out.upd [] (by rw [Int.natCast_mul]; exact hb) ht)
  clear hb ht HO1 HO2 HX2
  go_wp2_with fail
  refine (brsh_any w1.heap.size w1.heap.size ((X * X : Nat) : Int) ((X * X : Nat) : Int) N w2 (HO3.out.bi (by simp)) (HO3.out.bi (by simp)) (by omega) (by rw [Int.natAbs_natCast]; have:=LIM_BL2 HXX.out LIM_pos; omega)).mono ?_
  rintro e w3 ⟨rfl,hb,ht⟩
  rw [rsh_nat,<- HSQ.out] at hb
  have HO4 : Hid (Own w w3 [(w1.heap.size,(sq : Int)),(gt,(t0 : Int))]):=Hd (HO3.out.upd [] hb ht)
  clear hb ht HO3
  obtain ⟨gq,hgq⟩ : ∃ gq,gq = w1.heap.size:=⟨_,rfl⟩
  rw [<- hgq] at HO4 ⊢
  clear hgq
  have HO5:=Hd (HO4.out.new 68)
  go_wp2_with fail
  refine (bset_any w3.heap.size gt 0 (t0 : Int) _ (HO5.out.bi (by simp)) (HO5.out.bi (by simp))).mono ?_
  rintro e w4 ⟨rfl,hb,ht⟩
  have HO6 : Hid (Own w w4 [(w3.heap.size,(t0 : Int)),(gq,(sq : Int)),(gt,(t0 : Int))]):=Hd (HO5.out.upd [] hb ht)
  clear hb ht HO4 HO5
  obtain ⟨gs,hgs⟩ : ∃ gs,gs = w3.heap.size:=⟨_,rfl⟩
  rw [<- hgs] at HO6 ⊢
  clear hgs
  go_wp2_with fail
  go_loopw [8] (fun kv wr=>∃ (f k term : Nat) (sum : Int),kv = .int .i64 k /\ k + 2 * f <= 401 /\ Hid (An.serL N sq f k term sum = some S) /\ Hid (sum.natAbs < An.LIM) /\ Hid (Own w wr [(gs,sum),(gq,(sq : Int)),(gt,(term : Int))])) (fun kv _=>(402 - intOf kv).toNat)
  case atStart=>exact ⟨200,_,t0,t0,rfl,by decide,HM,Hd (by rw [Int.natAbs_natCast]; exact HT0.out),HO6⟩
  case round =>
   clear HO6 HM HT0 HXB HSQ HXX
   obtain ⟨f,k,term,sum,rfl,hf,HM,HPS,HO⟩:=hrel
   obtain ⟨wo,rfl⟩ : ∃ wo : World,wo = wr:=⟨_,rfl⟩
   by_cases h0 : term = 0
   ·subst h0
    have HE:=Hd (An.serL_zero HM.out)
    go_wp2_with fail
    refine (bsign_any gt ((0 : Nat) : Int) _ (HO.out.bi (by simp))).mono ?_
    rintro e w6 ⟨rfl,rfl⟩
    have hs0 : ((((0 : Nat) : Int)).sign != 0) = false:=rfl
    go_wp2_with fail
    go_ret
    obtain ⟨a1,a2,a3⟩:=HO.out.post (g:=gs) (z:=sum) (by simp)
    exact ⟨_,rfl,by rw [<- HE.out]; exact a1,a2,a3⟩
   ·obtain ⟨f',t2,hf',hmul,ht2,hlim,hnext⟩:=An.serL_next HM.out h0
    have hs0 : (((term : Int)).sign != 0) = true:=by
     have : (term : Int).sign = 1:=Int.sign_eq_one_of_pos (by omega)
     rw [this]; rfl
    have HSG:=Hd (fun v (h : BI v gt (term : Int))=>bsign_any gt (term : Int) v h)
    obtain ⟨sg,hsg⟩ : ∃ sg,sg = (term : Int).sign:=⟨_,rfl⟩
    rw [<- hsg] at hs0 HSG
    obtain ⟨m,hm⟩ : ∃ m,m = term * sq:=⟨_,rfl⟩
    obtain ⟨r,hr⟩ : ∃ r,r = m / 2 ^ N:=⟨_,rfl⟩
    obtain ⟨dk,hdk⟩ : ∃ dk,dk = (k + 1) * (k + 2):=⟨_,rfl⟩
    rw [<- hm] at hmul ht2
    rw [<- hr,<- hdk] at ht2
    have hkb : k <= 401:=by omega
    have hdk1 : 1 <= dk /\ dk <= 402 * 403:=by rw [hdk]; exact ⟨Nat.mul_pos (by omega) (by omega),Nat.mul_le_mul (by omega) (by omega)⟩
    have HM1 : Hid ((term : Int) * (sq : Int) = (m : Int)):=Hd (by rw [hm,Int.natCast_mul])
    have HR1 : Hid ((m : Int) / 2 ^ N = (r : Int)):=Hd (by rw [rsh_nat,hr])
    have HQ1 : Hid ((r : Int).tdiv (dk : Int) = (t2 : Int)):=Hd (by rw [tdiv_nat2,ht2])
    have HMB : Hid (m < An.LIM):=Hd hmul
    have HTB : Hid (t2 < An.LIM):=Hd (by rw [ht2]; exact Nat.lt_of_le_of_lt (Nat.div_le_self _ _) (by rw [hr]; exact Nat.lt_of_le_of_lt (Nat.div_le_self _ _) hmul))
    have HSB : Hid (sum.natAbs + t2 < BL):=Hd (by have:=LIM_BL2 HPS.out HTB.out; omega)
    have HNX:=Hd hnext
    have HLM:=Hd hlim
    have w1' : IntKind.i64.wrap ((k : Int) + 1) = (k : Int) + 1:=by rw [IntKind.wrap_i64]; omega
    have w2' : IntKind.i64.wrap ((k : Int) + 2) = (k : Int) + 2:=by rw [IntKind.wrap_i64]; omega
    have e3 : ((k : Int) + 1) * ((k : Int) + 2) = (dk : Int):=by rw [hdk,Int.natCast_mul]; simp
    have w3' : IntKind.i64.wrap (((k : Int) + 1) * ((k : Int) + 2)) = (dk : Int):=by rw [e3,IntKind.wrap_i64]; omega
    obtain ⟨q,hq⟩ : ∃ q,q = (k + 2) / 2:=⟨_,rfl⟩
    obtain ⟨o,ho⟩ : ∃ o,o = q % 2:=⟨_,rfl⟩
    have w4 : Int.tdiv ((k : Int) + 2) 2 = (q : Int):=by rw [Int.tdiv_eq_ediv_of_nonneg (by omega)]; omega
    have w4' : ((k : Int) + 2) / 2 = (q : Int):=by omega
    have w4w : IntKind.i64.wrap (q : Int) = (q : Int):=by rw [IntKind.wrap_i64]; omega
    have w5' : Int.tmod (q : Int) 2 = (o : Int):=by rw [Int.tmod_eq_emod_of_nonneg (by omega)]; omega
    have w5'' : (q : Int) % 2 = (o : Int):=by omega
    have HOO : Hid ((k + 2) / 2 % 2 = o):=Hd (by rw [<- hq,<- ho])
    have HF:=Hd (show k + 2 + 2 * f' <= 401 by omega)
    clear hf' hmul ht2 hlim hnext hsg hm hr hdk h0 hf hq ho e3
    go_wp2_with fail
    refine (HSG.out _ (HO.out.bi (by simp))).mono ?_
    rintro e w6 ⟨rfl,rfl⟩
    clear HSG
    go_wp2_with fail
    refine (bmul_any gt gt gq (term : Int) (term : Int) (sq : Int) wo (HO.out.bi (by simp)) (HO.out.bi (by simp)) (HO.out.bi (by simp)) (by have h:=LIM_BL2 HMB.out LIM_pos; have e:=HM1.out; rw [<- Int.natAbs_mul,e,Int.natAbs_natCast]; omega)).mono ?_
    rintro e w7 ⟨rfl,hb,ht⟩
    rw [HM1.out] at hb
    have HO2 : Hid (Own w w7 [(gs,sum),(gq,(sq : Int)),(gt,(m : Int))]):=Hd (HO.out.upd [(gs,sum),(gq,(sq : Int))] hb ht)
    clear hb ht HO
    go_wp2_with fail
    refine (brsh_any gt gt (m : Int) (m : Int) N w7 (HO2.out.bi (by simp)) (HO2.out.bi (by simp)) (by omega) (by rw [Int.natAbs_natCast]; have:=LIM_BL2 HMB.out LIM_pos; omega)).mono ?_
    rintro e w8 ⟨rfl,hb,ht⟩
    rw [HR1.out] at hb
    have HO3 : Hid (Own w w8 [(gs,sum),(gq,(sq : Int)),(gt,(r : Int))]):=Hd (HO2.out.upd [(gs,sum),(gq,(sq : Int))] hb ht)
    clear hb ht HO2
    go_wp2_with fail
    refine (bnew_any (dk : Int) _ (by omega) (by omega)).mono ?_
    rintro e w9 ⟨gk,rfl,hb,hg,hw⟩
    have HO4:=Hd (HO3.out.add hb hg hw)
    clear hb hg hw HO3
    go_wp2_with fail
    refine (bquo_any gt gt gk (r : Int) (r : Int) (dk : Int) w9 (HO4.out.bi (by simp)) (HO4.out.bi (by simp)) (HO4.out.bi (by simp)) (by omega) (by omega)).mono ?_
    rintro e w10 ⟨rfl,hb,ht⟩
    rw [HQ1.out] at hb
    have HO5 : Hid (Own w w10 [(gs,sum),(gq,(sq : Int)),(gt,(t2 : Int))]):=Hd ((HO4.out.upd [(gk,(dk : Int)),(gs,sum),(gq,(sq : Int))] hb ht).sub (List.sublist_cons_self _ _))
    clear hb ht HO4
    by_cases ho1 : o = 1
    ·subst ho1
     go_wp2_with fail
     refine (bsub_any gs gs gt sum sum (t2 : Int) w10 (HO5.out.bi (by simp)) (HO5.out.bi (by simp)) (HO5.out.bi (by simp)) (by rw [Int.natAbs_natCast]; exact HSB.out)).mono ?_
     rintro e w11 ⟨rfl,hb,ht⟩
     have HO6 : Hid (Own w w11 [(gs,sum - (t2 : Int)),(gq,(sq : Int)),(gt,(t2 : Int))]):=Hd (HO5.out.upd [] hb ht)
     have hl:=HLM.out
     have hn:=HNX.out
     rw [if_pos HOO.out] at hl hn
     have HL2:=Hd hl
     have HN2:=Hd hn
     clear hb ht HO5 hl hn
     go_wp2_with fail
     exact ⟨⟨f',k + 2,t2,_,by go_num,HF.out,HN2,HL2,HO6⟩,by have:=HF.out; simp only [intOf]; omega⟩
    ·have hob : ((o : Int) == 1) = false:=by simp; omega
     go_wp2_with fail
     refine (badd_any gs gs gt sum sum (t2 : Int) w10 (HO5.out.bi (by simp)) (HO5.out.bi (by simp)) (HO5.out.bi (by simp)) (by rw [Int.natAbs_natCast]; exact HSB.out)).mono ?_
     rintro e w11 ⟨rfl,hb,ht⟩
     have HO6 : Hid (Own w w11 [(gs,sum + (t2 : Int)),(gq,(sq : Int)),(gt,(t2 : Int))]):=Hd (HO5.out.upd [] hb ht)
     have hl:=HLM.out
     have hn:=HNX.out
     rw [if_neg (by rw [HOO.out]; exact ho1)] at hl hn
     have HL2:=Hd hl
     have HN2:=Hd hn
     clear hb ht HO5 hl hn
     go_wp2_with fail
     exact ⟨⟨f',k + 2,t2,_,by go_num,HF.out,HN2,HL2,HO6⟩,by have:=HF.out; simp only [intOf]; omega⟩
 ·have hk : k0 = 1:=hk0
  have hte : t0 = X:=HT0E.out
  subst hk
  subst hte
  clear HT0E hk0 hk01
  have HON:=Hd ((Own.nil (Below.refl w.heap.size w)).new 68)
  go_enter Tryz.func232,Tryz.ntmps232
  go_wp2_with fail
  refine (point_any 1 N _ (by decide) (by decide) (by omega)).mono ?_
  rintro e wp ⟨gz,rfl,hb,hg,hw⟩
  have HOP:=Hd ((Own.nil (Below.refl w.heap.size w)).add hb hg hw)
  clear hb hg hw HON
  have HOQ:=Hd (HOP.out.new 68)
  have HXQ:=Hd (HXB.out.below HOQ.out.1)
  go_wp2_with fail
  refine (bset_any wp.heap.size gx 0 (t0 : Int) _ (HOQ.out.bi (by simp)) HXQ.out).mono ?_
  rintro e w1 ⟨rfl,hb,ht⟩
  have HO1 : Hid (Own w w1 [(wp.heap.size,(t0 : Int))]):=Hd ((HOQ.out.upd [] hb ht).sub (by simp))
  clear hb ht HOP HOQ HXQ
  obtain ⟨gt,hgt⟩ : ∃ gt,gt = wp.heap.size:=⟨_,rfl⟩
  rw [<- hgt] at HO1 ⊢
  clear hgt
  have HO2:=Hd (HO1.out.new 68)
  have HX2:=Hd (HXB.out.below HO2.out.1)
  go_wp2_with fail
  refine (bmul_any w1.heap.size gx gx 0 (t0 : Int) (t0 : Int) _ (HO2.out.bi (by simp)) HX2.out HX2.out (by rw [Int.natAbs_natCast]; have:=LIM_BL2 HXX.out LIM_pos; omega)).mono ?_
  rintro e w2 ⟨rfl,hb,ht⟩
  have HO3 : Hid (Own w w2 [(w1.heap.size,((t0 * t0 : Nat) : Int)),(gt,(t0 : Int))]):=Hd (HO2.out.upd [] (by rw [Int.natCast_mul]; exact hb) ht)
  clear hb ht HO1 HO2 HX2
  go_wp2_with fail
  refine (brsh_any w1.heap.size w1.heap.size ((t0 * t0 : Nat) : Int) ((t0 * t0 : Nat) : Int) N w2 (HO3.out.bi (by simp)) (HO3.out.bi (by simp)) (by omega) (by rw [Int.natAbs_natCast]; have:=LIM_BL2 HXX.out LIM_pos; omega)).mono ?_
  rintro e w3 ⟨rfl,hb,ht⟩
  rw [rsh_nat,<- HSQ.out] at hb
  have HO4 : Hid (Own w w3 [(w1.heap.size,(sq : Int)),(gt,(t0 : Int))]):=Hd (HO3.out.upd [] hb ht)
  clear hb ht HO3
  obtain ⟨gq,hgq⟩ : ∃ gq,gq = w1.heap.size:=⟨_,rfl⟩
  rw [<- hgq] at HO4 ⊢
  clear hgq
  have HO5:=Hd (HO4.out.new 68)
  go_wp2_with fail
  refine (bset_any w3.heap.size gt 0 (t0 : Int) _ (HO5.out.bi (by simp)) (HO5.out.bi (by simp))).mono ?_
  rintro e w4 ⟨rfl,hb,ht⟩
  have HO6 : Hid (Own w w4 [(w3.heap.size,(t0 : Int)),(gq,(sq : Int)),(gt,(t0 : Int))]):=Hd (HO5.out.upd [] hb ht)
  clear hb ht HO4 HO5
  obtain ⟨gs,hgs⟩ : ∃ gs,gs = w3.heap.size:=⟨_,rfl⟩
  rw [<- hgs] at HO6 ⊢
  clear hgs
  go_wp2_with fail
  go_loopw [8] (fun kv wr=>∃ (f k term : Nat) (sum : Int),kv = .int .i64 k /\ k + 2 * f <= 401 /\ Hid (An.serL N sq f k term sum = some S) /\ Hid (sum.natAbs < An.LIM) /\ Hid (Own w wr [(gs,sum),(gq,(sq : Int)),(gt,(term : Int))])) (fun kv _=>(402 - intOf kv).toNat)
  case atStart=>exact ⟨200,_,t0,t0,rfl,by decide,HM,Hd (by rw [Int.natAbs_natCast]; exact HT0.out),HO6⟩
  case round =>
   clear HO6 HM HT0 HXB HSQ HXX
   obtain ⟨f,k,term,sum,rfl,hf,HM,HPS,HO⟩:=hrel
   obtain ⟨wo,rfl⟩ : ∃ wo : World,wo = wr:=⟨_,rfl⟩
   by_cases h0 : term = 0
   ·subst h0
    have HE:=Hd (An.serL_zero HM.out)
    go_wp2_with fail
    refine (bsign_any gt ((0 : Nat) : Int) _ (HO.out.bi (by simp))).mono ?_
    rintro e w6 ⟨rfl,rfl⟩
    have hs0 : ((((0 : Nat) : Int)).sign != 0) = false:=rfl
    go_wp2_with fail
    go_ret
    obtain ⟨a1,a2,a3⟩:=HO.out.post (g:=gs) (z:=sum) (by simp)
    exact ⟨_,rfl,by rw [<- HE.out]; exact a1,a2,a3⟩
   ·obtain ⟨f',t2,hf',hmul,ht2,hlim,hnext⟩:=An.serL_next HM.out h0
    have hs0 : (((term : Int)).sign != 0) = true:=by
     have : (term : Int).sign = 1:=Int.sign_eq_one_of_pos (by omega)
     rw [this]; rfl
    have HSG:=Hd (fun v (h : BI v gt (term : Int))=>bsign_any gt (term : Int) v h)
    obtain ⟨sg,hsg⟩ : ∃ sg,sg = (term : Int).sign:=⟨_,rfl⟩
    rw [<- hsg] at hs0 HSG
    obtain ⟨m,hm⟩ : ∃ m,m = term * sq:=⟨_,rfl⟩
    obtain ⟨r,hr⟩ : ∃ r,r = m / 2 ^ N:=⟨_,rfl⟩
    obtain ⟨dk,hdk⟩ : ∃ dk,dk = (k + 1) * (k + 2):=⟨_,rfl⟩
    rw [<- hm] at hmul ht2
    rw [<- hr,<- hdk] at ht2
    have hkb : k <= 401:=by omega
    have hdk1 : 1 <= dk /\ dk <= 402 * 403:=by rw [hdk]; exact ⟨Nat.mul_pos (by omega) (by omega),Nat.mul_le_mul (by omega) (by omega)⟩
    have HM1 : Hid ((term : Int) * (sq : Int) = (m : Int)):=Hd (by rw [hm,Int.natCast_mul])
    have HR1 : Hid ((m : Int) / 2 ^ N = (r : Int)):=Hd (by rw [rsh_nat,hr])
    have HQ1 : Hid ((r : Int).tdiv (dk : Int) = (t2 : Int)):=Hd (by rw [tdiv_nat2,ht2])
    have HMB : Hid (m < An.LIM):=Hd hmul
    have HTB : Hid (t2 < An.LIM):=Hd (by rw [ht2]; exact Nat.lt_of_le_of_lt (Nat.div_le_self _ _) (by rw [hr]; exact Nat.lt_of_le_of_lt (Nat.div_le_self _ _) hmul))
    have HSB : Hid (sum.natAbs + t2 < BL):=Hd (by have:=LIM_BL2 HPS.out HTB.out; omega)
    have HNX:=Hd hnext
    have HLM:=Hd hlim
    have w1' : IntKind.i64.wrap ((k : Int) + 1) = (k : Int) + 1:=by rw [IntKind.wrap_i64]; omega
    have w2' : IntKind.i64.wrap ((k : Int) + 2) = (k : Int) + 2:=by rw [IntKind.wrap_i64]; omega
    have e3 : ((k : Int) + 1) * ((k : Int) + 2) = (dk : Int):=by rw [hdk,Int.natCast_mul]; simp
    have w3' : IntKind.i64.wrap (((k : Int) + 1) * ((k : Int) + 2)) = (dk : Int):=by rw [e3,IntKind.wrap_i64]; omega
    obtain ⟨q,hq⟩ : ∃ q,q = (k + 2) / 2:=⟨_,rfl⟩
    obtain ⟨o,ho⟩ : ∃ o,o = q % 2:=⟨_,rfl⟩
    have w4 : Int.tdiv ((k : Int) + 2) 2 = (q : Int):=by rw [Int.tdiv_eq_ediv_of_nonneg (by omega)]; omega
    have w4' : ((k : Int) + 2) / 2 = (q : Int):=by omega
    have w4w : IntKind.i64.wrap (q : Int) = (q : Int):=by rw [IntKind.wrap_i64]; omega
    have w5' : Int.tmod (q : Int) 2 = (o : Int):=by rw [Int.tmod_eq_emod_of_nonneg (by omega)]; omega
    have w5'' : (q : Int) % 2 = (o : Int):=by omega
    have HOO : Hid ((k + 2) / 2 % 2 = o):=Hd (by rw [<- hq,<- ho])
    have HF:=Hd (show k + 2 + 2 * f' <= 401 by omega)
    clear hf' hmul ht2 hlim hnext hsg hm hr hdk h0 hf hq ho e3
    go_wp2_with fail
    refine (HSG.out _ (HO.out.bi (by simp))).mono ?_
    rintro e w6 ⟨rfl,rfl⟩
    clear HSG
    go_wp2_with fail
    refine (bmul_any gt gt gq (term : Int) (term : Int) (sq : Int) wo (HO.out.bi (by simp)) (HO.out.bi (by simp)) (HO.out.bi (by simp)) (by have h:=LIM_BL2 HMB.out LIM_pos; have e:=HM1.out; rw [<- Int.natAbs_mul,e,Int.natAbs_natCast]; omega)).mono ?_
    rintro e w7 ⟨rfl,hb,ht⟩
    rw [HM1.out] at hb
    have HO2 : Hid (Own w w7 [(gs,sum),(gq,(sq : Int)),(gt,(m : Int))]):=Hd (HO.out.upd [(gs,sum),(gq,(sq : Int))] hb ht)
    clear hb ht HO
    go_wp2_with fail
    refine (brsh_any gt gt (m : Int) (m : Int) N w7 (HO2.out.bi (by simp)) (HO2.out.bi (by simp)) (by omega) (by rw [Int.natAbs_natCast]; have:=LIM_BL2 HMB.out LIM_pos; omega)).mono ?_
    rintro e w8 ⟨rfl,hb,ht⟩
    rw [HR1.out] at hb
    have HO3 : Hid (Own w w8 [(gs,sum),(gq,(sq : Int)),(gt,(r : Int))]):=Hd (HO2.out.upd [(gs,sum),(gq,(sq : Int))] hb ht)
    clear hb ht HO2
    go_wp2_with fail
    refine (bnew_any (dk : Int) _ (by omega) (by omega)).mono ?_
    rintro e w9 ⟨gk,rfl,hb,hg,hw⟩
    have HO4:=Hd (HO3.out.add hb hg hw)
    clear hb hg hw HO3
    go_wp2_with fail
    refine (bquo_any gt gt gk (r : Int) (r : Int) (dk : Int) w9 (HO4.out.bi (by simp)) (HO4.out.bi (by simp)) (HO4.out.bi (by simp)) (by omega) (by omega)).mono ?_
    rintro e w10 ⟨rfl,hb,ht⟩
    rw [HQ1.out] at hb
    have HO5 : Hid (Own w w10 [(gs,sum),(gq,(sq : Int)),(gt,(t2 : Int))]):=Hd ((HO4.out.upd [(gk,(dk : Int)),(gs,sum),(gq,(sq : Int))] hb ht).sub (List.sublist_cons_self _ _))
    clear hb ht HO4
    by_cases ho1 : o = 1
    ·subst ho1
     go_wp2_with fail
     refine (bsub_any gs gs gt sum sum (t2 : Int) w10 (HO5.out.bi (by simp)) (HO5.out.bi (by simp)) (HO5.out.bi (by simp)) (by rw [Int.natAbs_natCast]; exact HSB.out)).mono ?_
     rintro e w11 ⟨rfl,hb,ht⟩
     have HO6 : Hid (Own w w11 [(gs,sum - (t2 : Int)),(gq,(sq : Int)),(gt,(t2 : Int))]):=Hd (HO5.out.upd [] hb ht)
     have hl:=HLM.out
     have hn:=HNX.out
     rw [if_pos HOO.out] at hl hn
     have HL2:=Hd hl
     have HN2:=Hd hn
     clear hb ht HO5 hl hn
     go_wp2_with fail
     exact ⟨⟨f',k + 2,t2,_,by go_num,HF.out,HN2,HL2,HO6⟩,by have:=HF.out; simp only [intOf]; omega⟩
    ·have hob : ((o : Int) == 1) = false:=by simp; omega
     go_wp2_with fail
     refine (badd_any gs gs gt sum sum (t2 : Int) w10 (HO5.out.bi (by simp)) (HO5.out.bi (by simp)) (HO5.out.bi (by simp)) (by rw [Int.natAbs_natCast]; exact HSB.out)).mono ?_
     rintro e w11 ⟨rfl,hb,ht⟩
     have HO6 : Hid (Own w w11 [(gs,sum + (t2 : Int)),(gq,(sq : Int)),(gt,(t2 : Int))]):=Hd (HO5.out.upd [] hb ht)
     have hl:=HLM.out
     have hn:=HNX.out
     rw [if_neg (by rw [HOO.out]; exact ho1)] at hl hn
     have HL2:=Hd hl
     have HN2:=Hd hn
     clear hb ht HO5 hl hn
     go_wp2_with fail
     exact ⟨⟨f',k + 2,t2,_,by go_num,HF.out,HN2,HL2,HO6⟩,by have:=HF.out; simp only [intOf]; omega⟩
end
end Go.Proofs.YtnpanpkahbcecaaGreatDoor

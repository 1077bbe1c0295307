/-
Walks: dyad's value and cut (downward).
-/
import Derived.Test.YtnpanpkahbcecaaGreatDoorP20
import Derived.Lib.Hide
set_option linter.unusedVariables false
set_option linter.unusedSimpArgs false
namespace Go.Proofs.YtnpanpkahbcecaaGreatDoor
section
open Go.RowKit
def RowV (e : TypeId) (w : World) (base g n c : Nat) (o : List Value) : Prop:=w.ownsRow base e 1 (.slice (some ⟨g,0,none⟩) n c) n o
def UV (w : World) (A : Option Addr) (n c : Nat) (l : List Value) : Prop :=
 l.length = n /\ n <= c /\ (A = none -> c = 0) /\ ∀ k x,l[k]? = some x -> ∃ a,A = some a /\ a.block < w.heap.size /\ w.cell? (a.add k) = some x
theorem UV.below {w w' : World} {A : Option Addr} {n c : Nat} {l : List Value} (h : UV w A n c l) (hb : Below w.heap.size w w') : UV w' A n c l:=by
 obtain ⟨h1,h2,h3,h4⟩:=h
 refine ⟨h1,h2,h3,fun k x hk=>?_⟩
 obtain ⟨a,e,k1,k2⟩:=h4 k x hk
 refine ⟨a,e,Nat.lt_of_lt_of_le k1 hb.size,?_⟩
 rw [<- k2]
 exact hb.cell (p:=a.add k) (by rw [add_block]; exact k1)
theorem RowV.len {e : TypeId} {w : World} {base g n c : Nat} {o : List Value} (h : RowV e w base g n c o) : o.length = n:=by have:=h.1; simpa using this
theorem RowV.room {e : TypeId} {w : World} {base g n c : Nat} {o : List Value} (h : RowV e w base g n c o) : n <= c:=by
 rcases h.2 with ⟨h',_⟩ | ⟨g',cap',cur,h',_,hg,hn,_⟩
 ·simp at h'
 ·injection h' with _ _ e; omega
theorem RowV.cell {e : TypeId} {w : World} {base g n c : Nat} {o : List Value} (h : RowV e w base g n c o) (j : Nat) (u : Value) (hj : o[j]? = some u) : w.cell? ⟨g,j,none⟩ = some u:=by
 have hl : j < n:=by rw [<- h.len]; exact (List.getElem?_eq_some_iff.1 hj).1
 rw [World.ownsRow.cellAt h j (by omega),hj]
theorem RowV.free {e : TypeId} {w : World} {base g n c : Nat} {o : List Value} (h : RowV e w base g n c o) (j : Nat) : w.frozen? ⟨g,j,none⟩ = false:=World.ownsRow.frozenAt h j
theorem RowV.set {e : TypeId} {w : World} {base g n c : Nat} {o : List Value} (h : RowV e w base g n c o) (j : Nat) (v : Value) : RowV e (w.setCell ⟨g,j,none⟩ v) base g n c (o.set j v):=(World.ownsRow.stored h j v).1
theorem RowV.lt {e : TypeId} {w : World} {base g n c : Nat} {o : List Value} (h : RowV e w base g n c o) : base <= g /\ g < w.heap.size:=World.ownsRow.lt h g rfl
theorem RowV.below {e : TypeId} {w w' : World} {base g n c : Nat} {o : List Value} (h : RowV e w base g n c o) (hb : Below w.heap.size w w') : RowV e w' base g n c o:=by
 obtain ⟨h1,h2⟩:=h
 refine ⟨h1,?_⟩
 rcases h2 with h' | ⟨g',cap',cur,h',hb',hg,rest⟩
 ·exact .inl h'
 ·exact .inr ⟨g',cap',cur,h',hb',by rw [hb.block g' (Array.getElem?_eq_some_iff.1 hg).1]; exact hg,rest⟩
theorem RowV.base {e : TypeId} {w : World} {base base' g n c : Nat} {o : List Value} (h : RowV e w base g n c o) (hb : base' <= g) : RowV e w base' g n c o:=by
 obtain ⟨h1,h2⟩:=h
 refine ⟨h1,?_⟩
 rcases h2 with h' | ⟨g',cap',cur,h',hb',rest⟩
 ·exact .inl h'
 ·have e : g = g':=by injection h' with e1; injection e1 with e1; injection e1
  exact .inr ⟨g',cap',cur,h',by omega,rest⟩
theorem RowV.made {e : TypeId} {w : World} {base n m : Nat} {z : Value} (hz : z.cells = #[z]) (h : w.ownsRow base e 1 (.slice (some ⟨m,0,none⟩) n n) n (madeCells z.cells (n * 1)).toList) : RowV e w base m n n (List.replicate n z):=by
 have e : (madeCells z.cells (n * 1)).toList = List.replicate n z:=by
  rw [hz,toList_madeCells_one,Nat.mul_one]
 rw [e] at h; exact h
theorem RowV.uv {e : TypeId} {w : World} {base g n c : Nat} {o : List Value} (h : RowV e w base g n c o) : UV w (some ⟨g,0,none⟩) n c o :=
 ⟨h.len,h.room,(fun h=>by cases h),fun k x hk=>⟨_,rfl,h.lt.2,by
  have : (⟨g,0,none⟩ : Addr).add k = ⟨g,k,none⟩:=by
   rcases k with _ | k
   ·rfl
   ·simp [Addr.add]
  rw [this]; exact h.cell k x hk⟩⟩
theorem UV.u {w : World} {A : Option Addr} {n c : Nat} {l : List Int} (h : UV w A n c (l.map (Value.int .u64))) : U w A n c l:=by
 obtain ⟨h1,h2,h3,h4⟩:=h
 refine ⟨by rw [List.length_map] at h1; exact h1,h2,h3,fun k x hk=>?_⟩
 exact h4 k (.int .u64 x) (by rw [List.getElem?_map,hk]; rfl)
end
section
open Go.RowKit
namespace Nt
theorem ctz_odd (x t m : Nat) (hx : x ≠ 0) (h64 : x < 18446744073709551616) (h : x = 2 ^ t * (2 * m + 1)) : Lib.ctz 64 x = t:=by
 obtain ⟨m2,h2,_⟩:=Lib.ctzFrom_spec 64 x (Nat.pos_of_ne_zero hx) (by simpa using h64)
 have e : Lib.ctz 64 x = Lib.ctzFrom 64 x:=by unfold Lib.ctz; rw [if_neg hx]
 rw [e]
 generalize Lib.ctzFrom 64 x = k at *
 rcases Nat.lt_trichotomy k t with h3 | h3 | h3
 ·exfalso
  obtain ⟨d,rfl⟩ : ∃ d,t = k + (d + 1):=⟨t - k - 1,by omega⟩
  rw [h,Nat.pow_add,Nat.mul_assoc] at h2
  have:=Nat.eq_of_mul_eq_mul_left (Nat.two_pow_pos k) h2
  rw [Nat.pow_succ,Nat.mul_assoc,Nat.mul_left_comm] at this
  omega
 ·exact h3
 ·exfalso
  obtain ⟨d,rfl⟩ : ∃ d,k = t + (d + 1):=⟨k - t - 1,by omega⟩
  rw [h,Nat.pow_add,Nat.mul_assoc] at h2
  have:=Nat.eq_of_mul_eq_mul_left (Nat.two_pow_pos t) h2
  rw [Nat.pow_succ,Nat.mul_assoc,Nat.mul_left_comm] at this
  omega
theorem odd_split (y t m : Nat) (h : y = 2 ^ t * (2 * m + 1)) (i : Nat) (x R : Nat) (hy : y = 18446744073709551616 ^ i * (x + 18446744073709551616 * R)) (hx : x ≠ 0) (hx64 : x < 18446744073709551616) : t = 64 * i + Lib.ctz 64 x:=by
 obtain ⟨m2,h2,hk⟩:=Lib.ctzFrom_spec 64 x (Nat.pos_of_ne_zero hx) (by simpa using hx64)
 have e : Lib.ctz 64 x = Lib.ctzFrom 64 x:=by unfold Lib.ctz; rw [if_neg hx]
 rw [e]
 generalize Lib.ctzFrom 64 x = k at *
 -- y = 2^(64 i + k) * odd
 have e64 : (18446744073709551616 : Nat) = 2 ^ k * (2 * 2 ^ (63 - k)):=by
  rw [show 2 * 2 ^ (63 - k) = 2 ^ (64 - k) by rw [<- Nat.pow_succ']; congr 1; omega,<- Nat.pow_add,show k + (64 - k) = 64 by omega]
 have e3 : y = 2 ^ (64 * i + k) * (2 * (m2 + 2 ^ (63 - k) * R) + 1):=by
  rw [hy,Nat.pow_add,Nat.pow_mul,show (2 : Nat) ^ 64 = 18446744073709551616 by decide,Nat.mul_assoc]
  congr 1
  conv=>lhs; rw [h2]
  have e5 : 18446744073709551616 * R = 2 ^ k * (2 * 2 ^ (63 - k)) * R:=by rw [<- e64]
  rw [e5]
  generalize 2 ^ k = a at *
  generalize 2 ^ (63 - k) = b at *
  grind
 generalize m2 + 2 ^ (63 - k) * R = q at e3
 generalize 64 * i + k = u at *
 rw [h] at e3
 rcases Nat.lt_trichotomy t u with h3 | h3 | h3
 ·exfalso
  obtain ⟨d,rfl⟩ : ∃ d,u = t + (d + 1):=⟨u - t - 1,by omega⟩
  rw [Nat.pow_add,Nat.mul_assoc] at e3
  have:=Nat.eq_of_mul_eq_mul_left (Nat.two_pow_pos t) e3
  rw [Nat.pow_succ,Nat.mul_assoc,Nat.mul_left_comm] at this
  omega
 ·exact h3
 ·exfalso
  obtain ⟨d,rfl⟩ : ∃ d,t = u + (d + 1):=⟨t - u - 1,by omega⟩
  rw [Nat.pow_add,Nat.mul_assoc] at e3
  have:=Nat.eq_of_mul_eq_mul_left (Nat.two_pow_pos u) e3
  rw [Nat.pow_succ,Nat.mul_assoc,Nat.mul_left_comm] at this
  omega
end Nt
set_option maxRecDepth 100000 in
theorem btzb_any (g : Nat) (z : Int) (t m : Nat) (w : World) (hg : BI w g z) (hT : TabAt 2 Lib.deBruijn64tab w) (h : z.natAbs = 2 ^ t * (2 * m + 1)) :
  Calls Tryz.prog 238 #[.pointer (some ⟨g,0,none⟩)] w fun e w'=>e = .returned (.int .u64 t) /\ w = w':=by
 obtain ⟨A,n,c,⟨h1,h2⟩,_,h5,h6⟩:=hg
 obtain ⟨hn1,hn2⟩:=h5.len
 obtain ⟨l,hl⟩ : ∃ l,l = Nt.dg 18446744073709551616 z.natAbs:=⟨_,rfl⟩
 have HU : Hid (U w A n c l):=Hd (by rw [hl]; exact h5.1)
 have HD : Hid (Nt.Dig 18446744073709551616 l):=Hd (by rw [hl]; exact Nt.dig_dg _ (by decide) _)
 have HV : Hid (Nt.val 18446744073709551616 l = 2 ^ t * (2 * m + 1)):=Hd (by rw [hl,Nt.val_dg _ (by decide)]; exact h)
 have HT:=Hd (fun (x : Nat) (hx : x < 18446744073709551616)=>tz64_any x hx w hT)
 clear hT h h5 hl hn1
 go_enter Tryz.func238,Tryz.ntmps238
 go_wp2_with fail
 go_loop [10] (fun iv=>∃ i : Nat,i <= n /\ iv = .int .i64 i /\ Hid (Nt.val 18446744073709551616 (l.take i) = 0)) (fun iv=>n - (intOf iv).toNat)
 case atStart=>exact ⟨0,Nat.zero_le _,rfl,Hd (by simp [Nt.val])⟩
 case round =>
  obtain ⟨i,hi,rfl,HZ⟩:=hrel
  by_cases hlt : i < n
  ·obtain ⟨x0,hx⟩ : ∃ x,l[i]? = some x:=⟨_,List.getElem?_eq_getElem (by have:=HU.out.1; omega)⟩
   obtain ⟨ad,rfl,_,hcx⟩:=HU.out.2.2.2 i x0 hx
   have hxd:=HD.out x0 (List.mem_of_getElem? hx)
   obtain ⟨x,rfl⟩ : ∃ x : Nat,x0 = x:=⟨x0.toNat,by omega⟩
   by_cases h0 : x = 0
   ·have hxb : ((x : Int) != 0) = false:=by simpa using h0
    have HN : Hid (Nt.val 18446744073709551616 (l.take (i + 1)) = 0):=Hd (by rw [Nt.val_take_succ _ l i HD.out,hx,HZ.out,h0]; rfl)
    clear h0 hxd hx
    go_wp2
    go_round
    case rel=>exact ⟨i + 1,hlt,by go_num,HN⟩
    case measure=>simp [intOf]; omega
   ·have hxb : ((x : Int) != 0) = true:=by simpa using h0
    have hE : t = 64 * i + Lib.ctz 64 x:=by
     refine Nt.odd_split (Nt.val 18446744073709551616 l) t m HV.out i x (Nt.val 18446744073709551616 (l.drop (i + 1))) ?_ h0 (by omega)
     have h1:=Nt.val_append 18446744073709551616 (l.take i) (l.drop i)
     rw [List.take_append_drop,HZ.out,List.length_take,Nat.min_eq_left (by have:=HU.out.1; omega),Nat.zero_add] at h1
     rw [h1,List.drop_eq_getElem_cons (show i < l.length by have:=HU.out.1; omega)]
     have hx2 : l[i]'(by have:=HU.out.1; omega) = (x : Int):=by
      rw [List.getElem?_eq_getElem (by have:=HU.out.1; omega)] at hx
      exact Option.some.inj hx
     rw [hx2]
     simp only [Nt.val,Int.toNat_natCast]
    have HTT:=Hd (HT.out x (by omega))
    obtain ⟨k,hk⟩ : ∃ k,k = Lib.ctz 64 x:=⟨_,rfl⟩
    have hk64 : k < 64:=by rw [hk]; exact (Lib.lowest_bit 64 x h0 (by omega)).2
    rw [<- hk] at hE HTT
    have hw1 : IntKind.i64.wrap (64 * (i : Int)) = 64 * (i : Int):=by rw [IntKind.wrap_i64]; omega
    have hw2 : IntKind.i64.wrap (64 * (i : Int) + (k : Int)) = 64 * (i : Int) + (k : Int):=by rw [IntKind.wrap_i64]; omega
    have hw3 : IntKind.u64.wrap (64 * (i : Int) + (k : Int)) = 64 * (i : Int) + (k : Int):=by rw [IntKind.wrap_u64]; omega
    have HE:=Hd hE
    clear hE h0 hxd hx hk hk64
    go_wp2_with fail
    refine HTT.out.mono ?_
    rintro e w1 ⟨rfl,rfl⟩
    go_wp2
    go_ret
    rw [HE.out]
    exact ⟨by simp,rfl⟩
  ·exfalso
   obtain rfl : n = i:=by omega
   have h1:=HZ.out
   rw [List.take_of_length_le (by have:=HU.out.1; omega),HV.out] at h1
   rcases Nat.mul_eq_zero.1 h1 with h2 | h2
   ·have:=Nat.two_pow_pos t; omega
   ·omega
theorem bsetBits_any (g : Nat) (z0 : Int) (A : Option Addr) (n c N : Nat) (w : World) (hg : BI w g z0) (hu : NU w A n c N) :
  Calls Tryz.prog 240 #[.pointer (some ⟨g,0,none⟩),.slice A n c] w (RPost g N w):=by
 obtain ⟨i0,hi0,hz0,hz1,hz2⟩:=info_parts u64_info
 obtain ⟨hn1,hn2⟩:=hu.len
 obtain ⟨l,hl⟩ : ∃ l,l = Nt.dg 18446744073709551616 N:=⟨_,rfl⟩
 have HU : Hid (U w A n c l):=Hd (by rw [hl]; exact hu.1)
 have HD : Hid (Nt.Dig 18446744073709551616 l):=Hd (by rw [hl]; exact Nt.dig_dg _ (by decide) _)
 have HV : Hid (Nt.val 18446744073709551616 l = N):=Hd (by rw [hl]; exact Nt.val_dg _ (by decide) _)
 have HBL:=Hd hu.2
 have HG:=Hd hg
 clear hg hu hl hn1
 go_enter Tryz.func240,Tryz.ntmps240
 go_wp2_with (refine wpList_make_full _ rfl (.tmp 9) (.tmp 9) 66 rfl w.heap.size 105 i0 _ 1 Tryz.underlying66 hi0 hz0 hz1 .i64 .i64 _ _ n rfl rfl (by omega) (by omega) (by rw [hz2]; omega) (by simp only [maxLen]; omega) (Nat.le_refl _) ?_; intro w1 hown1 hg1; have HB1:=Hd ((Below.refl w.heap.size w).grown hg1 (Nat.le_refl _) (fun k hk=>by cases hk)); have ROW:=Hd (Row.made hown1); clear hown1 hg1)
 go_loopw [13] (fun iv wr=>∃ (i : Nat) (o : List Int),iv = .int .i64 i /\ i <= n /\ Hid (o.take i = l.take i) /\ Hid (RowC wr w.heap.size w.heap.size n n o) /\ Hid (Below w.heap.size w wr)) (fun iv _=>n - (intOf iv).toNat)
 case atStart=>exact ⟨0,List.replicate n 0,rfl,Nat.zero_le _,Hd (by simp),Hd (RowC.of ROW.out),HB1⟩
 case round =>
  clear ROW HB1
  obtain ⟨i,o,rfl,hi,HI,HR,HB⟩:=hrel
  by_cases hlt : i < n
  ·obtain ⟨x,hx⟩ : ∃ x,l[i]? = some x:=⟨_,List.getElem?_eq_getElem (by have:=HU.out.1; omega)⟩
   obtain ⟨ad,rfl,_,hcx⟩:=(HU.out.below HB.out).2.2.2 i x hx
   obtain ⟨v0,hv0⟩ : ∃ v0,o[i]? = some v0:=⟨_,List.getElem?_eq_getElem (by have:=HR.out.len; omega)⟩
   have hcv:=HR.out.cell i v0 hv0
   have hfr:=HR.out.free i
   have HRN:=Hd (HR.out.set i x)
   have HBN:=Hd (HB.out.setCell (p:=⟨w.heap.size,i,none⟩) (Nat.le_refl _) (.int .u64 x))
   have HIN : Hid ((o.set i x).take (i + 1) = l.take (i + 1)):=Hd (by
    have hol:=HR.out.len
    rw [Nt.take_set_succ o i x (by omega),HI.out,List.take_add_one,hx]; rfl)
   clear hv0 hx
   go_wp2_with fail
   exact ⟨⟨i + 1,_,by go_num,hlt,HIN,HRN,HBN⟩,by simp [intOf]; omega⟩
  ·obtain rfl : n = i:=by omega
   have HOL : Hid (o = l):=Hd (by
    have h1:=HI.out
    rw [List.take_of_length_le (by have:=HR.out.len; omega),List.take_of_length_le (by have:=HU.out.1; omega)] at h1
    exact h1)
   have HP:=Hd (bput_u g z0 false (some ⟨w.heap.size,0,none⟩) n n o N wr (HG.out.below HB.out) HR.out.u (by omega) (by rw [HOL.out]; exact HD.out) (by rw [HOL.out]; exact HV.out) HBL.out)
   go_wp2_with fail
   refine HP.out.mono ?_
   rintro e w2 hr
   have HRR:=Hd (RPost.after HB.out hr)
   obtain ⟨rfl,_,_⟩:=hr
   go_wp2
   go_ret
   have h:=HRR.out
   exact h
end
section
open Go.RowKit
theorem u8_info : (Tryz.prog.info? 5).map (fun i=>(i.zero,i.size,i.bytes)) = some (some (.int .u8 0),1,1):=by kernel_rfl
namespace Nt
theorem dg_get (B : Nat) (hB : 2 <= B) : ∀ (q X : Nat),q < (dg B X).length -> (dg B X)[q]? = some ((X / B ^ q % B : Nat) : Int):=by
 intro q
 induction q with
 | zero =>
   intro X h
   have h0 : X ≠ 0:=fun e=>by rw [e,dg_zero] at h; simp at h
   rw [dg_pos _ _ hB h0,Nat.pow_zero,Nat.div_one]; rfl
 | succ q ih =>
   intro X h
   have h0 : X ≠ 0:=fun e=>by rw [e,dg_zero] at h; simp at h
   rw [dg_pos _ _ hB h0] at h ⊢
   rw [List.getElem?_cons_succ,ih (X / B) (by simpa using h),Nat.pow_succ',Nat.div_div_eq_div_mul]
theorem byte_at (X q r : Nat) (hr : r < 8) : X / 18446744073709551616 ^ q % 18446744073709551616 / 2 ^ (8 * r) % 256 = X / 256 ^ (8 * q + r) % 256:=by
 have e1 : (18446744073709551616 : Nat) = 256 ^ r * 256 ^ (8 - r):=by rw [<- Nat.pow_add,show r + (8 - r) = 8 by omega]
 have e2 : 2 ^ (8 * r) = 256 ^ r:=by rw [Nat.pow_mul]
 have e3 : 256 ^ (8 * q + r) = 18446744073709551616 ^ q * 256 ^ r:=by rw [Nat.pow_add,Nat.pow_mul]
 have e4 : 256 ^ (8 - r) = 256 * 256 ^ (7 - r):=by rw [<- Nat.pow_succ']; congr 1; omega
 rw [e2,e3,<- Nat.div_div_eq_div_mul]
 generalize X / 18446744073709551616 ^ q = Y
 rw [e1,Nat.mod_mul_right_div_self,e4,Nat.mod_mul_right_mod]
end Nt
def blS (X n : Nat) : List Value:=(List.range n).map (fun i=>Value.int .u8 ((X / 256 ^ (n - 1 - i) % 256 : Nat) : Int))
theorem blS_get {X n i : Nat} (h : i < n) : (blS X n)[i]? = some (Value.int .u8 ((X / 256 ^ (n - 1 - i) % 256 : Nat) : Int)):=by
 unfold blS
 rw [List.getElem?_map,List.getElem?_range h]; rfl
theorem blS_len (X n : Nat) : (blS X n).length = n:=by unfold blS; simp
set_option maxRecDepth 100000 in
set_option maxHeartbeats 2000000 in
theorem bbytes_any (g : Nat) (z : Int) (w : World) (hg : BI w g z) :
  Calls Tryz.prog 247 #[.pointer (some ⟨g,0,none⟩)] w fun e w'=>∃ A c,e = .returned (.slice A ((bitsN z.natAbs + 7) / 8) c) /\ UV w' A ((bitsN z.natAbs + 7) / 8) c (blS z.natAbs ((bitsN z.natAbs + 7) / 8)) /\ Below w.heap.size w w':=by
 obtain ⟨i0,hi0,hz0,hz1,hz2⟩:=info_parts u8_info
 obtain ⟨A,m,c,⟨h1,h2⟩,_,h5,h6⟩:=hg
 obtain ⟨hn1,hn2⟩:=h5.len
 obtain ⟨X,hX⟩ : ∃ X,X = z.natAbs:=⟨_,rfl⟩
 rw [<- hX] at h5 hn1 ⊢
 have HC:=Hd (bsize_any A m c X w h5)
 obtain ⟨l,hl⟩ : ∃ l,l = Nt.dg 18446744073709551616 X:=⟨_,rfl⟩
 have HU : Hid (U w A m c l):=Hd (by rw [hl]; exact h5.1)
 have HG : Hid (∀ q,q < m -> l[q]? = some ((X / 18446744073709551616 ^ q % 18446744073709551616 : Nat) : Int)):=Hd (fun q hq=>by rw [hl]; exact Nt.dg_get _ (by decide) q X (by rw [<- hn1]; exact hq))
 have hbl:=bitsN_len X
 rw [<- hn1] at hbl
 obtain ⟨t,ht⟩ : ∃ t,t = bitsN X:=⟨_,rfl⟩
 rw [<- ht] at HC hbl ⊢
 obtain ⟨n,hn⟩ : ∃ n,n = (t + 7) / 8:=⟨_,rfl⟩
 rw [<- hn]
 have hn8 : n <= 8 * m:=by omega
 have HLD:=Hd (fun v (h : Below w.heap.size w v)=>(h.cell (p:=⟨g,1,none⟩) h6).trans h2)
 have hw1 : IntKind.i64.wrap ((t : Int) + 7) = (t : Int) + 7:=by rw [IntKind.wrap_i64]; omega
 have hw2 : Int.tdiv ((t : Int) + 7) 8 = (n : Int):=by rw [Int.tdiv_eq_ediv_of_nonneg (by omega)]; omega
 have hw3 : ((t : Int) + 7) / 8 = (n : Int):=by omega
 have hw4 : IntKind.i64.wrap (n : Int) = (n : Int):=by rw [IntKind.wrap_i64]; omega
 have hn240 : n <= 240:=by omega
 clear h5 hn1 hX hl ht hn hbl
 go_enter Tryz.func247,Tryz.ntmps247
 go_wp2_with fail
 refine HC.out.mono ?_
 rintro e w1 ⟨rfl,rfl⟩
 clear HC
 go_wp2_with (refine wpList_make_full _ rfl (.tmp 14) (.tmp 14) 41 rfl w.heap.size 5 i0 _ 1 Tryz.underlying41 hi0 hz0 hz1 .i64 .i64 _ _ n rfl rfl (by omega) (by omega) (by rw [hz2]; omega) (by simp only [maxLen]; omega) (Nat.le_refl _) ?_; intro w1 hown1 hg1; have HB1:=Hd ((Below.refl w.heap.size w).grown hg1 (Nat.le_refl _) (fun k hk=>by cases hk)); have ROW:=Hd (RowV.made rfl hown1); clear hown1 hg1)
 clear hw1 hw2 hw3 hw4
 go_loopw [17] (fun iv wr=>∃ (i : Nat) (o : List Value),iv = .int .i64 i /\ i <= n /\ Hid (o.take i = (blS X n).take i) /\ Hid (RowV 5 wr w.heap.size w.heap.size n n o) /\ Hid (Below w.heap.size w wr)) (fun iv _=>n - (intOf iv).toNat)
 case atStart=>exact ⟨0,List.replicate n (.int .u8 0),rfl,Nat.zero_le _,Hd (by simp),ROW,HB1⟩
 case round =>
  clear ROW HB1 h1 h2
  obtain ⟨i,o,rfl,hi,HI,HR,HB⟩:=hrel
  by_cases hlt : i < n
  ·obtain ⟨bk,hbk⟩ : ∃ b : Nat,b = n - 1 - i:=⟨_,rfl⟩
   obtain ⟨q,hq⟩ : ∃ q,q = bk / 8:=⟨_,rfl⟩
   obtain ⟨r,hr⟩ : ∃ r,r = bk % 8:=⟨_,rfl⟩
   have hqm : q < m:=by omega
   have hx:=HG.out q hqm
   obtain ⟨ad,rfl,_,hcx⟩:=(HU.out.below HB.out).2.2.2 q _ hx
   obtain ⟨x,hxx⟩ : ∃ x,x = X / 18446744073709551616 ^ q % 18446744073709551616:=⟨_,rfl⟩
   rw [<- hxx] at hcx
   obtain ⟨y,hy⟩ : ∃ y,y = x / 2 ^ (8 * r):=⟨_,rfl⟩
   obtain ⟨b,hb⟩ : ∃ b,b = y % 256:=⟨_,rfl⟩
   have hx64 : x < 18446744073709551616:=by rw [hxx]; exact Nat.mod_lt _ (by decide)
   have hshr : (x : Int) / 2 ^ (8 * r) = (y : Int):=by rw [hy]; simp
   have hcv : IntKind.u8.wrap (y : Int) = (b : Int):=by rw [hb]; simp [IntKind.wrap,IntKind.bits,IntKind.signed]
   obtain ⟨v0,hv0⟩ : ∃ v0,o[i]? = some v0:=⟨_,List.getElem?_eq_getElem (by have:=HR.out.len; omega)⟩
   have hcell:=HR.out.cell i v0 hv0
   have hfr:=HR.out.free i
   have hld:=HLD.out _ HB.out
   have HRN:=Hd (HR.out.set i (.int .u8 b))
   have HBN:=Hd (HB.out.setCell (p:=⟨w.heap.size,i,none⟩) (Nat.le_refl _) (.int .u8 (b : Int)))
   have HIN : Hid ((o.set i (.int .u8 (b : Int))).take (i + 1) = (blS X n).take (i + 1)):=Hd (by
    have hol:=HR.out.len
    rw [List.take_add_one,List.getElem?_set_self (by omega),List.take_set_of_le (Nat.le_refl i),HI.out,List.take_add_one,blS_get hlt,<- hbk,hb,hy,hxx,Nt.byte_at X q r (by omega),show 8 * q + r = bk by omega])
   have e1 : IntKind.i64.wrap ((n : Int) - 1) = (n : Int) - 1:=by rw [IntKind.wrap_i64]; omega
   have e2 : IntKind.i64.wrap ((n : Int) - 1 - (i : Int)) = (bk : Int):=by rw [IntKind.wrap_i64]; omega
   have e2' : (n : Int) - 1 - (i : Int) = (bk : Int):=by omega
   have e3 : Int.tdiv (bk : Int) 8 = (q : Int):=by rw [Int.tdiv_eq_ediv_of_nonneg (by omega)]; omega
   have e3' : (bk : Int) / 8 = (q : Int):=by omega
   have e4 : Int.tmod (bk : Int) 8 = (r : Int):=by rw [Int.tmod_eq_emod_of_nonneg (by omega)]; omega
   have e4' : (bk : Int) % 8 = (r : Int):=by omega
   have e5 : IntKind.i64.wrap (8 * (r : Int)) = 8 * (r : Int):=by rw [IntKind.wrap_i64]; omega
   have e6 : (8 * (r : Int)).toNat = 8 * r:=by omega
   have hr8 : r < 8:=by omega
   clear hbk hq hr hx hxx hy hb hv0 hx64
   go_wp2_with fail
   exact ⟨⟨i + 1,_,by go_num,hlt,HIN,HRN,HBN⟩,by simp [intOf]; omega⟩
  ·obtain rfl : n = i:=by omega
   have HOL : Hid (o = blS X n):=Hd (by
    have h1:=HI.out
    rw [List.take_of_length_le (by have:=HR.out.len; omega),List.take_of_length_le (by rw [blS_len]; omega)] at h1
    exact h1)
   go_wp2_with fail
   go_ret
   exact ⟨_,_,rfl,by rw [<- HOL.out]; exact HR.out.uv,HB.out⟩
end
section
open Go.RowKit
theorem bits_rng (N : Nat) (h : N ≠ 0) : 0 < bitsN N /\ N < 2 ^ bitsN N:=by
 unfold bitsN
 rw [if_neg h]
 exact ⟨by omega,Nat.lt_log2_self⟩
namespace Nt
theorem chunk_step (X n lo k : Nat) (h : lo + k < n) : X / 256 ^ (n - lo - k) % 256 ^ k * 256 + X / 256 ^ (n - 1 - (lo + k)) % 256 = X / 256 ^ (n - lo - (k + 1)) % 256 ^ (k + 1):=by
 have e1 : n - lo - k = (n - lo - (k + 1)) + 1:=by omega
 have e2 : n - 1 - (lo + k) = n - lo - (k + 1):=by omega
 rw [e1,e2,Nat.pow_succ,<- Nat.div_div_eq_div_mul,Nat.pow_succ']
 generalize X / 256 ^ (n - lo - (k + 1)) = Y
 rw [Nat.mod_mul]
 omega
theorem limb_count (X : Nat) : (dg 18446744073709551616 X).length = ((bitsN X + 7) / 8 + 7) / 8:=by
 by_cases h0 : X = 0
 ·subst h0; rw [dg_zero]; rfl
 ·have h1:=bitsN_len X
  obtain ⟨t,m,t1,t2,t3,t4,t5,t6⟩:=dg_top 18446744073709551616 (by decide) X h0
  have h2:=bits_top X t m t3 t5 t6
  have h3 : 1 <= bitsN t:=by
   have:=(bits_rng t (by omega)).1
   omega
  have h4:=bitsN_le t t4
  omega
theorem chunk_end (X n j : Nat) (hX : X < 256 ^ n) (hj : 8 * j < n) : X / 256 ^ (n - (n - 8 * j - 8) - (n - 8 * j - (n - 8 * j - 8))) % 256 ^ (n - 8 * j - (n - 8 * j - 8)) = X / 18446744073709551616 ^ j % 18446744073709551616:=by
 have e1 : n - (n - 8 * j - 8) - (n - 8 * j - (n - 8 * j - 8)) = 8 * j:=by omega
 have e2 : 256 ^ (8 * j) = 18446744073709551616 ^ j:=by rw [Nat.pow_mul]
 rw [e1,e2]
 by_cases h8 : 8 <= n - 8 * j
 ·have e3 : n - 8 * j - (n - 8 * j - 8) = 8:=by omega
  rw [e3]
 ·have e3 : n - 8 * j - (n - 8 * j - 8) = n - 8 * j:=by omega
  rw [e3]
  have hlt : X / 18446744073709551616 ^ j < 256 ^ (n - 8 * j):=by
   rw [<- e2]
   refine Nat.div_lt_of_lt_mul ?_
   rw [<- Nat.pow_add,show 8 * j + (n - 8 * j) = n by omega]
   exact hX
  have h2 : (256 : Nat) ^ (n - 8 * j) <= 256 ^ 8:=Nat.pow_le_pow_right (by decide) (by omega)
  rw [Nat.mod_eq_of_lt hlt,Nat.mod_eq_of_lt (by omega)]
end Nt
set_option maxRecDepth 400000 in
set_option maxHeartbeats 4000000 in
theorem limbs_any' (g : Nat) (z : Int) (w : World) (hg : BI w g z) :
  Calls Tryz.prog 239 #[.pointer (some ⟨g,0,none⟩)] w (NatP z.natAbs w):=by
 obtain ⟨i0,hi0,hz0,hz1,hz2⟩:=info_parts u64_info
 obtain ⟨b1,b2⟩:=BI.new w 68
 have HA:=Hd (babs_any w.heap.size g 0 z _ b1 (hg.below b2))
 have HB0:=Hd b2
 obtain ⟨X,hX⟩ : ∃ X,X = z.natAbs:=⟨_,rfl⟩
 have HBY:=Hd (fun v (h : BI v w.heap.size (X : Int))=>bbytes_any w.heap.size (X : Int) v h)
 rw [Int.natAbs_natCast] at HBY
 have hXB : X < BL:=by obtain ⟨_,_,_,_,_,h,_⟩:=hg; rw [hX]; exact h.2
 have hcnt:=Nt.limb_count X
 have hlen : (Nt.dg 18446744073709551616 X).length <= 30:=Nt.dg_len _ (by decide) _ _ (by rw [<- BL_eq]; exact hXB)
 obtain ⟨n,hn⟩ : ∃ n,n = (bitsN X + 7) / 8:=⟨_,rfl⟩
 have hXn : X < 256 ^ n:=by
  have e : (256 : Nat) ^ n = 2 ^ (8 * n):=by rw [Nat.pow_mul]
  rw [e]
  by_cases h0 : X = 0
  ·rw [h0]; exact Nat.two_pow_pos _
  ·exact Nat.lt_of_lt_of_le (bits_rng X h0).2 (Nat.pow_le_pow_right (by decide) (by omega))
 rw [<- hX] at HA ⊢
 rw [<- hn] at HBY hcnt
 have HXN:=Hd hXn
 have HXB:=Hd hXB
 obtain ⟨l,hl⟩ : ∃ l,l = Nt.dg 18446744073709551616 X:=⟨_,rfl⟩
 have HG : Hid (∀ q,q < l.length -> l[q]? = some ((X / 18446744073709551616 ^ q % 18446744073709551616 : Nat) : Int)):=Hd (fun q hq=>by rw [hl] at hq ⊢; exact Nt.dg_get _ (by decide) q X hq)
 have HL:=Hd hl
 rw [<- hl] at hcnt hlen
 have hn240 : n <= 240:=by omega
 have HCNT:=Hd hcnt
 clear b1 b2 hg hX hn hXn hXB hl hcnt
 go_enter Tryz.func239,Tryz.ntmps239
 go_wp2_with fail
 refine HA.out.mono ?_
 rintro e w1 ⟨rfl,hbi,htr⟩
 have HB1:=Hd (HB0.out.trans (htr.below _ HB0.out.size (fun k hk=>by rw [List.mem_singleton.1 hk]; exact Nat.le_refl _)))
 have HBY2:=Hd (HBY.out w1 hbi)
 clear hbi htr HA HB0 HBY
 go_wp2_with fail
 refine HBY2.out.mono ?_
 rintro e w2 ⟨A,c,rfl,huv,hb2⟩
 have HUV:=Hd huv
 have HB2:=Hd (HB1.out.trans (hb2.mono HB1.out.size))
 have hcn : n <= c:=huv.2.1
 clear huv hb2 HBY2
 go_wp2_with fail
 go_loopw [5,3] (fun ev v wr=>∃ j : Nat,j <= l.length /\ ev = .int .i64 ((n : Int) - 8 * j) /\ Hid (wr.ownsRow w2.heap.size 105 1 v j ((l.take j).map (Value.int .u64))) /\ Hid (Below w2.heap.size w2 wr) /\ Hid (Below w.heap.size w wr)) (fun ev _ _=>((intOf ev) + 8).toNat)
 case atStart=>exact ⟨0,Nat.zero_le _,by simp,Hd (World.ownsRow_nil _ _ _ _),Hd (Below.refl _ _),HB2⟩
 case round =>
  obtain ⟨j,hj,rfl,HOWN,HBW,HB⟩:=hrel
  obtain ⟨wo,rfl⟩ : ∃ wo : World,wo = wr:=⟨_,rfl⟩
  by_cases hlt : 8 * j < n
  ·obtain ⟨ad,rfl⟩ : ∃ ad,A = some ad:=by
    obtain ⟨x,hx⟩ : ∃ x,(blS X n)[0]? = some x:=⟨_,List.getElem?_eq_getElem (by rw [blS_len]; omega)⟩
    obtain ⟨ad,e,_⟩:=HUV.out.2.2.2 0 x hx
    exact ⟨ad,e⟩
   obtain ⟨lo,hlo⟩ : ∃ lo,lo = n - 8 * j - 8:=⟨_,rfl⟩
   obtain ⟨m,hm⟩ : ∃ m,m = n - 8 * j - lo:=⟨_,rfl⟩
   have g2 : IntKind.i64.wrap ((n : Int) - 8 * (j : Int) - 8) = (n : Int) - 8 * (j : Int) - 8:=by rw [IntKind.wrap_i64]; omega
   have g3 : max ((n : Int) - 8 * (j : Int) - 8) 0 = (lo : Int):=by omega
   obtain ⟨en,hen⟩ : ∃ en : Nat,en = n - 8 * j:=⟨_,rfl⟩
   have g4 : (n : Int) - 8 * (j : Int) = (en : Int):=by omega
   have HEN:=Hd g4
   have hlen2 : lo <= en:=by omega
   have henn : en <= n:=by omega
   have hm8 : m <= 8:=by omega
   have hmm : en - lo = m:=by omega
   have hjl : j < l.length:=by have:=HCNT.out; omega
   have g1 : decide (0 < en) = true:=decide_eq_true (by omega)
   rw [g4] at g2 g3 ⊢
   have hloc : lo < c:=by omega
   have hloc2 : decide (lo < c) = true:=decide_eq_true hloc
   have henc : en <= c:=by omega
   have HCE : Hid (X / 256 ^ (n - lo - m) % 256 ^ m = X / 18446744073709551616 ^ j % 18446744073709551616):=Hd (by
    have h:=Nt.chunk_end X n j HXN.out hlt
    rw [hm,hlo]; exact h)
   have HNM : Hid (lo + m <= n):=Hd (by omega)
   clear g4 hlo hm hen
   go_wp2_with fail
   go_loop [6,26] (fun xv kv=>∃ k : Nat,k <= m /\ kv = .int .i64 k /\ ∃ x : Nat,xv = .int .u64 x /\ Hid (x = X / 256 ^ (n - lo - k) % 256 ^ k)) (fun _ kv=>m - (intOf kv).toNat)
   case atStart=>exact ⟨0,Nat.zero_le _,rfl,0,rfl,Hd (by rw [Nat.pow_zero,Nat.mod_one])⟩
   case round =>
    obtain ⟨k,hk,rfl,x,rfl,HX⟩:=hrel
    by_cases hkm : k < m
    ·have hb:=blS_get (X:=X) (n:=n) (i:=lo + k) (by have:=HNM.out; omega)
     obtain ⟨ad2,e2,_,hcb⟩:=(HUV.out.below HBW.out).2.2.2 (lo + k) _ hb
     obtain rfl:=Option.some.inj e2
     obtain ⟨b,hbb⟩ : ∃ b,b = X / 256 ^ (n - 1 - (lo + k)) % 256:=⟨_,rfl⟩
     rw [<- hbb] at hcb
     rw [show ad.add (lo + k) = (ad.add lo).add k by rw [Addr.add_add]] at hcb
     have hb256 : b < 256:=by rw [hbb]; exact Nat.mod_lt _ (by decide)
     have hx7 : x < 72057594037927936:=by
      rw [HX.out]
      refine Nat.lt_of_lt_of_le (Nat.mod_lt _ (Nat.pow_pos (by decide))) ?_
      have : (256 : Nat) ^ k <= 256 ^ 7:=Nat.pow_le_pow_right (by decide) (by omega)
      omega
     have HXN2 : Hid (x * 256 + b = X / 256 ^ (n - lo - (k + 1)) % 256 ^ (k + 1)):=Hd (by
      have h:=Nt.chunk_step X n lo k (by have:=HNM.out; omega)
      rw [<- HX.out,<- hbb] at h
      exact h)
     have s1 : IntKind.u64.wrap ((x : Int) * 2 ^ 8) = ((x * 256 : Nat) : Int):=by rw [IntKind.wrap_u64]; omega
     have s1' : IntKind.u64.wrap ((x : Int) * 256) = ((x * 256 : Nat) : Int):=by rw [IntKind.wrap_u64]; omega
     have s2 : IntKind.u64.wrap (b : Int) = (b : Int):=by rw [IntKind.wrap_u64]; omega
     have s3 : bits BinOp.or IntKind.u64 ((x * 256 : Nat) : Int) (b : Int) = ((x * 256 + b : Nat) : Int):=by
      rw [u64_or_nat (x * 256) b (by omega) (by omega)]
      have h:=or_low b x 8 (by omega) (by omega)
      rw [show x * 2 ^ 8 % 18446744073709551616 = x * 256 by omega] at h
      rw [Nat.or_comm,h,Nat.add_comm]
     obtain ⟨y,hy⟩ : ∃ y,y = x * 256 + b:=⟨_,rfl⟩
     obtain ⟨x2,hx2⟩ : ∃ x2,x2 = x * 256:=⟨_,rfl⟩
     rw [<- hx2] at s1 s1' s3 hy
     rw [<- hx2,<- hy] at HXN2
     rw [<- hy] at s3
     clear hb hbb hb256 hx7 hy hx2 e2
     go_wp2_with fail
     go_round
     case rel=>exact ⟨k + 1,hkm,by go_num,y,rfl,HXN2⟩
     case measure=>simp [intOf]; omega
    ·obtain rfl : m = k:=by omega
     have HXE : Hid (x = X / 18446744073709551616 ^ j % 18446744073709551616):=Hd (HX.out.trans HCE.out)
     have OWN2:=Hd (HOWN.out.alloc (.cells #[.int .u64 x] 105))
     have CELLS2:=Hd (cellU1 wo x 105)
     have SIZE2:=Hd (Nat.le_trans HBW.out.size (Nat.le_of_lt (alloc_lt wo (.cells #[.int .u64 x] 105))))
     have H63:=Hd (show j + 1 <= maxLen by simp only [maxLen]; omega)
     have HBA:=Hd (HB.out.alloc HB.out.size (.cells #[.int .u64 x] 105))
     have HBWA:=Hd (HBW.out.alloc HBW.out.size (.cells #[.int .u64 x] 105))
     have HTK : Hid (l.take (j + 1) = l.take j ++ [(x : Int)]):=Hd (by rw [List.take_add_one,HG.out j hjl,HXE.out]; rfl)
     have h8 : IntKind.i64.wrap ((en : Int) - 8) = (n : Int) - 8 * ((j + 1 : Nat) : Int):=by rw [IntKind.wrap_i64]; have:=HEN.out; omega
     have HLT:=Hd (World.ownsRow.lt HOWN.out)
     go_wp2_with (at_builtin; refine wpList_append_own _ rfl (.tmp 36) (.tmp 38) _ rfl w2.heap.size 105 i0 _ 1 8 Tryz.underlying66 hi0 hz0 hz1 hz2 rfl (Nat.le_refl 1) u3 j ((l.take j).map (Value.int .u64)) rfl OWN2.out ⟨wo.heap.size,0,none⟩ 1 1 [Value.int .u64 x] rfl CELLS2.out.1 CELLS2.out.2.1 CELLS2.out.2.2 H63.out (by omega) SIZE2.out ?_; intro v1 w3 hown1 hg1 _; have HO1:=Hd hown1; have HG1:=Hd hg1; clear hown1 hg1)
     have HBN:=Hd (HBA.out.grown HG1.out HBA.out.size (fun k hk=>Nat.le_trans HB2.out.size (HLT.out k hk).1))
     have HBWN:=Hd (HBWA.out.grown HG1.out HBWA.out.size (fun k hk=>(HLT.out k hk).1))
     exact ⟨⟨j + 1,hjl,congrArg (Value.int IntKind.i64) (by have:=HEN.out; omega),Hd (by rw [HTK.out,List.map_append]; exact HO1.out),HBWN,HBN⟩,by simp [intOf]; omega⟩
  ·obtain rfl : j = l.length:=by have:=HCNT.out; omega
   have g1 : decide ((0 : Int) < (n : Int) - 8 * (l.length : Int)) = false:=decide_eq_false (by omega)
   have ho:=HOWN.out
   rw [List.take_of_length_le (Nat.le_refl _)] at ho
   obtain ⟨A3,c3,rfl,hu3⟩:=U.of_own ho
   have HU3:=Hd hu3
   clear ho hu3
   go_wp2_with fail
   go_ret
   exact ⟨A3,_,c3,rfl,⟨by rw [<- HL.out]; exact HU3.out,HXB.out⟩,HB.out⟩
end
section
open Go.RowKit
def DC (g : Nat) (w : World) : Prop:=(w.cell? ⟨g,0,none⟩ = some (.bool false) /\ w.cell? ⟨g,1,none⟩ = some (.slice none 0 0) /\ w.cell? ⟨g,2,none⟩ = some (.int .i64 0)) /\ (w.frozen? ⟨g,0,none⟩ = false /\ w.frozen? ⟨g,1,none⟩ = false /\ w.frozen? ⟨g,2,none⟩ = false) /\ g < w.heap.size
theorem DC.new (w : World) (t : TypeId) : DC w.heap.size (w.alloc (.cells #[.bool false,.slice none 0 0,.int .i64 0] t)):=⟨⟨by simp,by simp,by simp⟩,⟨by simp,by simp,by simp⟩,by simp⟩
theorem DC.below {g : Nat} {w w' : World} (h : DC g w) (hb : Below w.heap.size w w') : DC g w':=by
 obtain ⟨⟨h1,h2,h3⟩,⟨f1,f2,f3⟩,hl⟩:=h
 exact ⟨⟨(hb.cell (p:=⟨g,0,none⟩) hl).trans h1,(hb.cell (p:=⟨g,1,none⟩) hl).trans h2,(hb.cell (p:=⟨g,2,none⟩) hl).trans h3⟩,⟨(hb.frozen (p:=⟨g,0,none⟩) hl).trans f1,(hb.frozen (p:=⟨g,1,none⟩) hl).trans f2,(hb.frozen (p:=⟨g,2,none⟩) hl).trans f3⟩,Nat.lt_of_lt_of_le hl hb.size⟩
theorem DC.tr {g : Nat} {w w' : World} {S : List Nat} (h : DC g w) (ht : Tr S w w') (hn : g ∉ S) : DC g w':=by
 obtain ⟨⟨h1,h2,h3⟩,⟨f1,f2,f3⟩,hl⟩:=h
 have hc : ∀ j,w'.cell? ⟨g,j,none⟩ = w.cell? ⟨g,j,none⟩ /\ w'.frozen? ⟨g,j,none⟩ = w.frozen? ⟨g,j,none⟩:=fun j=>ht.cell ⟨g,j,none⟩ hl (fun k hk e=>hn (by rw [show g = k from e]; exact hk))
 exact ⟨⟨(hc 0).1.trans h1,(hc 1).1.trans h2,(hc 2).1.trans h3⟩,⟨(hc 0).2.trans f1,(hc 1).2.trans f2,(hc 2).2.trans f3⟩,Nat.lt_of_lt_of_le hl ht.size⟩
def DPost (s : Bool) (N : Nat) (x : Int) (w : World) (e : Ending) (w' : World) : Prop:=∃ A n c,e = .returned (.agg #[.bool s,.slice A n c,.int .i64 x]) /\ NU w' A n c N /\ Below w.heap.size w w'
theorem dyad_zero (g : Nat) (x : Int) (w : World) (hg : BI w g 0) :
  Calls Tryz.prog 221 #[.pointer (some ⟨g,0,none⟩),.int .i64 x] w (DPost false 0 0 w):=by
 have hb:=(Below.refl w.heap.size w).alloc (Nat.le_refl _) (.cells #[.bool false,.slice none 0 0,.int .i64 0] 175)
 have HS:=Hd (bsign_any g 0 _ (hg.below hb))
 have HD:=Hd (DC.new w 175)
 have HB:=Hd hb
 clear hg hb
 go_enter Tryz.func221,Tryz.ntmps221
 go_wp2_with fail
 generalize w.alloc (.cells #[.bool false,.slice none 0 0,.int .i64 0] 175) = W at *
 refine HS.out.mono ?_
 rintro e w1 ⟨rfl,rfl⟩
 obtain ⟨⟨k0,k1,k2⟩,⟨f0,f1,f2⟩,_⟩:=HD.out
 have HO:=Hd (num_store k0 k1 k2 (NU.none _ 0).1 (.bool false) (.slice none 0 0) (.int .i64 0))
 go_wp2_with fail
 refine bodyPost_ret (v:=.agg #[.bool false,.slice none 0 0,.int .i64 0]) (by simp [results,Tryz.results221,go_sem,HO.out.2.2.1,HO.out.2.2.2.1,HO.out.2.2.2.2]) rfl ⟨none,0,0,rfl,NU.none _ 0,HO.out.2.1 _ _ (Nat.le_refl _) HB.out⟩
set_option maxRecDepth 100000 in
set_option maxHeartbeats 2000000 in
theorem dyad_some (g : Nat) (z x : Int) (t m : Nat) (w : World) (hg : BI w g z) (hT : TabAt 2 Lib.deBruijn64tab w) (hT2 : 2 < w.heap.size) (h : z.natAbs = 2 ^ t * (2 * m + 1)) (ht : t <= 2000) (hx1 : -100000 <= x) (hx2 : x <= 100000) (hz : z.natAbs + 1 < BL) :
  Calls Tryz.prog 221 #[.pointer (some ⟨g,0,none⟩),.int .i64 x] w (DPost (decide (z < 0)) (2 * m + 1) (x + t) w):=by
 have hz0 : z ≠ 0:=fun e=>by rw [e] at h; have:=Nat.mul_pos (Nat.two_pow_pos t) (show 0 < 2 * m + 1 by omega); omega
 have hb:=(Below.refl w.heap.size w).alloc (Nat.le_refl _) (.cells #[.bool false,.slice none 0 0,.int .i64 0] 175)
 have lg : g < w.heap.size:=by obtain ⟨_,_,_,_,_,_,h⟩:=id hg; exact h
 have HS:=Hd (fun v (h : BI v g z)=>bsign_any g z v h)
 have HTZ:=Hd (btzb_any g z t m _ (hg.below hb) (hT.below hb hT2) h)
 have HG1:=Hd (hg.below hb)
 have HD:=Hd (DC.new w 175)
 -- two new numbers
 obtain ⟨W0,hW0⟩ : ∃ W0,W0 = w.alloc (.cells #[.bool false,.slice none 0 0,.int .i64 0] 175):=⟨_,rfl⟩
 have hz1 : W0.heap.size = w.heap.size + 1:=by rw [hW0]; simp
 obtain ⟨b1,b2⟩:=BI.new W0 68
 obtain ⟨W1,hW1⟩ : ∃ W1,W1 = W0.alloc (.cells #[.bool false,.slice none 0 0] 68):=⟨_,rfl⟩
 rw [<- hW1] at b1 b2
 have hz2 : W1.heap.size = w.heap.size + 2:=by rw [hW1]; simp; omega
 obtain ⟨b3,b4⟩:=BI.new W1 68
 have HA:=Hd (babs_any W1.heap.size g 0 z _ b3 (((by rw [hW0]; exact HG1.out : BI W0 g z).below b2).below b4))
 have HN1:=Hd (b1.below b4)
 have HGG:=Hd (((by rw [hW0]; exact HG1.out : BI W0 g z).below b2).below b4)
 have HDD:=Hd (((by rw [hW0]; exact HD.out : DC w.heap.size W0).below b2).below b4)
 have HBB : Hid (Below w.heap.size w (W1.alloc (.cells #[.bool false,.slice none 0 0] 68))):=Hd ((show Below w.heap.size w W0 by rw [hW0]; exact hb).trans ((b2.mono (by omega)).trans (b4.mono (by omega))))
 rw [hz2] at HA
 rw [hz1] at HN1
 rw [hW1,hW0] at HA HN1 HGG HDD HBB
 have HR:=Hd (fun v (h1 : BI v (w.heap.size + 1) 0) (h2 : BI v (w.heap.size + 2) (z.natAbs : Int))=>brsh_any (w.heap.size + 1) (w.heap.size + 2) 0 (z.natAbs : Int) t v h1 h2 (by omega) (by rw [Int.natAbs_natCast]; exact hz))
 have HE : Hid ((z.natAbs : Int) / 2 ^ t = ((2 * m + 1 : Nat) : Int)):=Hd (by
  rw [h,Int.natCast_mul,show ((2 ^ t : Nat) : Int) = 2 ^ t by simp,Int.mul_ediv_cancel_left _ (by have : (0 : Int) < 2 ^ t:=Int.pow_pos (by decide); omega)])
 have HLM:=Hd (fun v (h : BI v (w.heap.size + 1) ((2 * m + 1 : Nat) : Int))=>limbs_any' (w.heap.size + 1) _ v h)
 rw [Int.natAbs_natCast] at HLM
 have hsg : (z.sign == 0) = false:=by
  have : z.sign ≠ 0:=fun e=>hz0 (Int.sign_eq_zero_iff_zero.1 e)
  simpa using this
 have hsl : decide (z.sign < 0) = decide (z < 0):=by
  have : z.sign < 0 ↔ z < 0:=Int.sign_neg_iff
  by_cases h0 : z < 0
  ·rw [decide_eq_true h0,decide_eq_true (this.2 h0)]
  ·rw [decide_eq_false h0,decide_eq_false (fun h=>h0 (this.1 h))]
 obtain ⟨s,hs⟩ : ∃ s,s = decide (z < 0):=⟨_,rfl⟩
 rw [<- hs] at hsl ⊢
 obtain ⟨sn,hsn⟩ : ∃ sn,sn = z.sign:=⟨_,rfl⟩
 rw [<- hsn] at hsg hsl HS
 have c1 : IntKind.i64.wrap (t : Int) = (t : Int):=by rw [IntKind.wrap_i64]; omega
 have c2 : IntKind.i64.wrap (x + (t : Int)) = x + (t : Int):=by rw [IntKind.wrap_i64]; omega
 have LG:=Hd lg
 clear hb hg hT hT2 h hz0 hz hs hsn hW0 hW1 hz1 hz2 b1 b2 b3 b4 HD lg
 go_enter Tryz.func221,Tryz.ntmps221
 go_wp2_with fail
 refine (HS.out _ HG1.out).mono ?_
 rintro e w1 ⟨rfl,rfl⟩
 go_wp2_with fail
 refine HTZ.out.mono ?_
 rintro e w1 ⟨rfl,rfl⟩
 go_wp2_with fail
 refine HA.out.mono ?_
 rintro e w1 ⟨rfl,hbi,htr⟩
 have HR2:=Hd (HR.out w1 (htr.bi _ _ (by simp) HN1.out) hbi)
 have HG2:=Hd (htr.bi g z (by have:=LG.out; simp; omega) HGG.out)
 have HD2:=Hd (HDD.out.tr htr (by simp))
 have HB2:=Hd (HBB.out.trans (htr.below _ HBB.out.size (fun k hk=>by rw [List.mem_singleton.1 hk]; omega)))
 clear hbi htr HA HN1 HGG HDD HBB HR
 go_wp2_with fail
 refine HR2.out.mono ?_
 rintro e w2 ⟨rfl,hbi,htr⟩
 rw [HE.out] at hbi
 have HL2:=Hd (HLM.out w2 hbi)
 have HG3:=Hd (htr.bi g z (by have:=LG.out; simp; omega) HG2.out)
 have HD3:=Hd (HD2.out.tr htr (by simp))
 have HB3:=Hd (HB2.out.trans (htr.below _ HB2.out.size (fun k hk=>by rw [List.mem_singleton.1 hk]; omega)))
 clear hbi htr HR2 HG2 HD2 HB2 HLM
 go_wp2_with fail
 refine (HS.out _ HG3.out).mono ?_
 rintro e w3 ⟨rfl,rfl⟩
 go_wp2_with fail
 refine HL2.out.mono ?_
 rintro e w3 ⟨A,n,c,rfl,hu,hb⟩
 have HD4:=HD3.out.below hb
 have HB4:=Hd (HB3.out.trans (hb.mono HB3.out.size))
 obtain ⟨⟨k0,k1,k2⟩,⟨f0,f1,f2⟩,_⟩:=HD4
 have HO:=Hd (num_store k0 k1 k2 hu.1 (.bool s) (.slice A n c) (.int .i64 (x + (t : Int))))
 have HBL:=Hd hu.2
 clear hu hb
 go_wp2_with fail
 refine bodyPost_ret (v:=.agg #[.bool s,.slice A n c,.int .i64 (x + (t : Int))]) (by simp [results,Tryz.results221,go_sem,HO.out.2.2.1,HO.out.2.2.2.1,HO.out.2.2.2.2]) rfl ⟨A,n,c,rfl,⟨HO.out.1,HBL.out⟩,HO.out.2.1 _ _ (Nat.le_refl _) HB4.out⟩
end
section
open Go.RowKit
theorem word_info : (Tryz.prog.info? 256).map (fun i=>(i.zero,i.size,i.bytes)) = some (some (.int .u64 0),1,8):=by kernel_rfl
theorem BI.lt {w : World} {g : Nat} {z : Int} (h : BI w g z) : g < w.heap.size:=by obtain ⟨_,_,_,_,_,_,h⟩:=h; exact h
theorem BI.store {w : World} {g : Nat} {z : Int} (h : BI w g z) {p : Addr} (hp : p.block ≠ g) {u : Value} (hu : w.cell? p = some u) (hn : ∀ x,u ≠ .int .u64 x) (v : Value) : BI (w.setCell p v) g z:=by
 obtain ⟨A,n,c,⟨h1,h2⟩,⟨h3,h4⟩,h5,h6⟩:=h
 have o : ∀ q : Addr,q.block = g -> (w.setCell p v).cell? q = w.cell? q:=fun q hq=>World.cell?_setCell_other _ _ _ _ (fun e=>hp (by rw [e]; exact hq))
 exact ⟨A,n,c,⟨(o _ rfl).trans h1,(o _ rfl).trans h2⟩,⟨by simpa using h3,by simpa using h4⟩,⟨h5.1.store p u v hu hn,h5.2⟩,by simpa using h6⟩
def NumP (z : Int) (x : Int) (w : World) (e : Ending) (w' : World) : Prop:=∃ g,e = .returned (.agg #[.pointer (some ⟨g,0,none⟩),.int .i64 x]) /\ BI w' g z /\ w.heap.size <= g /\ Below w.heap.size w w'
set_option maxRecDepth 100000 in
set_option maxHeartbeats 2000000 in
theorem value_any (s : Bool) (A : Option Addr) (n c : Nat) (x : Int) (N : Nat) (w : World) (h : NU w A n c N) :
  Calls Tryz.prog 223 #[.agg #[.bool s,.slice A n c,.int .i64 x]] w (NumP (sgnI s N) x w):=by
 obtain ⟨i0,hi0,hz0,hz1,hz2⟩:=info_parts word_info
 obtain ⟨hn1,hn2⟩:=h.len
 obtain ⟨l,hl⟩ : ∃ l,l = Nt.dg 18446744073709551616 N:=⟨_,rfl⟩
 have HU : Hid (U w A n c l):=Hd (by rw [hl]; exact h.1)
 have HN : Hid (N < BL):=Hd h.2
 have HL:=Hd hl
 -- the two blocks
 have hb1:=(Below.refl w.heap.size w).alloc (Nat.le_refl _) (.cells #[.bool s,.slice A n c,.int .i64 x] 175)
 have hb2:=hb1.alloc hb1.size (.cells #[.pointer none,.int .i64 0] 244)
 obtain ⟨W,hW⟩ : ∃ W,W = (w.alloc (.cells #[.bool s,.slice A n c,.int .i64 x] 175)).alloc (.cells #[.pointer none,.int .i64 0] 244):=⟨_,rfl⟩
 have hWs : W.heap.size = w.heap.size + 2:=by rw [hW]; simp
 have k0 : W.cell? ⟨w.heap.size,0,none⟩ = some (.bool s):=by rw [hW]; simp
 have k1 : W.cell? ⟨w.heap.size,1,none⟩ = some (.slice A n c):=by rw [hW]; simp
 have k2 : W.cell? ⟨w.heap.size,2,none⟩ = some (.int .i64 x):=by rw [hW]; simp
 have k3 : W.cell? ⟨w.heap.size + 1,0,none⟩ = some (.pointer none):=by rw [hW]; simp
 have k4 : W.cell? ⟨w.heap.size + 1,1,none⟩ = some (.int .i64 0):=by rw [hW]; simp
 have f3 : W.frozen? ⟨w.heap.size + 1,0,none⟩ = false:=by rw [hW]; simp
 have f4 : W.frozen? ⟨w.heap.size + 1,1,none⟩ = false:=by rw [hW]; simp
 rw [<- hW] at hb2
 have HBW:=Hd hb2
 have HWS:=Hd hWs
 have HK : Hid (∀ v : World,(∀ b : Nat,b = w.heap.size \/ b = w.heap.size + 1 -> ∀ j,v.cell? ⟨b,j,none⟩ = W.cell? ⟨b,j,none⟩ /\ v.frozen? ⟨b,j,none⟩ = W.frozen? ⟨b,j,none⟩) -> ((v.cell? ⟨w.heap.size,0,none⟩ = some (.bool s) /\ v.cell? ⟨w.heap.size,2,none⟩ = some (.int .i64 x)) /\ (v.cell? ⟨w.heap.size + 1,0,none⟩ = some (.pointer none) /\ v.cell? ⟨w.heap.size + 1,1,none⟩ = some (.int .i64 0)) /\ (v.frozen? ⟨w.heap.size + 1,0,none⟩ = false /\ v.frozen? ⟨w.heap.size + 1,1,none⟩ = false))):=Hd (fun v hv=>by
  have a:=fun j=>hv w.heap.size (.inl rfl) j
  have b:=fun j=>hv (w.heap.size + 1) (.inr rfl) j
  exact ⟨⟨(a 0).1.trans k0,(a 2).1.trans k2⟩,⟨(b 0).1.trans k3,(b 1).1.trans k4⟩,⟨(b 0).2.trans f3,(b 1).2.trans f4⟩⟩)
 clear k0 k2 k3 k4 f3 f4 hb1 hb2 hl h hn1 hWs
 go_enter Tryz.func223,Tryz.ntmps223
 go_wp2_with (refine wpList_make_full _ rfl (.tmp 9) (.tmp 9) 255 rfl w.heap.size 256 i0 _ 1 Tryz.underlying255 hi0 hz0 hz1 .i64 .i64 _ _ n rfl rfl (by omega) (by omega) (by rw [hz2]; omega) (by simp only [maxLen]; omega) (by rw [<- hW]; exact HBW.out.size) ?_; rw [<- hW]; intro w1 hown1 hg1; have HB1:=Hd ((Below.refl W.heap.size W).grown hg1 (Nat.le_refl _) (fun k hk=>by cases hk)); have ROW : Hid (RowV 256 w1 w.heap.size (w.heap.size + 1 + 1) n n (List.replicate n (.int .u64 0))):=Hd (by have h:=RowV.made rfl hown1; rw [HWS.out] at h; exact h); have q1:=(HB1.out.cell (p:=⟨w.heap.size,1,none⟩) (by show w.heap.size < W.heap.size; have:=HWS.out; omega)).trans k1; clear hown1 hg1)
 clear k1 hW
 go_loopw [14] (fun iv wr=>∃ (i : Nat) (o : List Value),iv = .int .i64 i /\ i <= n /\ Hid (o.take i = (l.map (Value.int .u64)).take i) /\ Hid (RowV 256 wr w.heap.size (w.heap.size + 1 + 1) n n o) /\ Hid (Below W.heap.size W wr)) (fun iv _=>n - (intOf iv).toNat)
 case atStart=>exact ⟨0,List.replicate n (.int .u64 0),rfl,Nat.zero_le _,Hd (by simp),ROW,HB1⟩
 case round =>
  clear ROW HB1 q1
  obtain ⟨i,o,rfl,hi,HI,HR,HB⟩:=hrel
  by_cases hlt : i < n
  ·obtain ⟨x0,hx⟩ : ∃ x,l[i]? = some x:=⟨_,List.getElem?_eq_getElem (by have:=HU.out.1; omega)⟩
   obtain ⟨ad,rfl,_,hcx⟩:=(HU.out.below (HBW.out.trans (HB.out.mono (by have:=HWS.out; omega)))).2.2.2 i x0 hx
   obtain ⟨v0,hv0⟩ : ∃ v0,o[i]? = some v0:=⟨_,List.getElem?_eq_getElem (by have:=HR.out.len; omega)⟩
   have hcv:=HR.out.cell i v0 hv0
   have hfr:=HR.out.free i
   have HRN:=Hd (HR.out.set i (.int .u64 x0))
   have HBN:=Hd (HB.out.setCell (p:=⟨w.heap.size + 1 + 1,i,none⟩) (by show W.heap.size <= w.heap.size + 1 + 1; have:=HWS.out; omega) (.int .u64 x0))
   have HIN : Hid ((o.set i (.int .u64 x0)).take (i + 1) = (l.map (Value.int .u64)).take (i + 1)):=Hd (by
    have hol:=HR.out.len
    rw [List.take_add_one,List.getElem?_set_self (by omega),List.take_set_of_le (Nat.le_refl i),HI.out,List.take_add_one,List.getElem?_map,hx]; rfl)
   clear hv0 hx
   go_wp2_with fail
   exact ⟨⟨i + 1,_,by go_num,hlt,HIN,HRN,HBN⟩,by simp [intOf]; omega⟩
  ·obtain rfl : n = i:=by omega
   have HOL : Hid (o = l.map (Value.int .u64)):=Hd (by
    have h1:=HI.out
    rw [List.take_of_length_le (by have:=HR.out.len; omega),List.take_of_length_le (by rw [List.length_map]; have:=HU.out.1; omega)] at h1
    exact h1)
   have hnu : NU wr (some ⟨w.heap.size + 1 + 1,0,none⟩) n n N:=by
    have h1:=HR.out.uv
    rw [HOL.out] at h1
    exact ⟨by rw [<- HL.out]; exact h1.u,HN.out⟩
   obtain ⟨b1,b2⟩:=BI.new wr 68
   have HSB:=Hd (bsetBits_any wr.heap.size 0 (some ⟨w.heap.size + 1 + 1,0,none⟩) n n N _ b1 (hnu.below b2))
   have HB2:=Hd ((HBW.out.trans (HB.out.mono (by have:=HWS.out; omega))).trans (b2.mono (by have:=HB.out.size; have:=HWS.out; omega)))
   have HKK : Hid (∀ v : World,Tr [wr.heap.size] (wr.alloc (.cells #[.bool false,.slice none 0 0] 68)) v -> ((v.cell? ⟨w.heap.size,0,none⟩ = some (.bool s) /\ v.cell? ⟨w.heap.size,2,none⟩ = some (.int .i64 x)) /\ (v.cell? ⟨w.heap.size + 1,0,none⟩ = some (.pointer none) /\ v.cell? ⟨w.heap.size + 1,1,none⟩ = some (.int .i64 0)) /\ (v.frozen? ⟨w.heap.size + 1,0,none⟩ = false /\ v.frozen? ⟨w.heap.size + 1,1,none⟩ = false))):=Hd (fun v ht=>HK.out v (fun b hb j=>by
    have hbW : b < W.heap.size:=by have:=HWS.out; omega
    have hbr : b < wr.heap.size:=Nat.lt_of_lt_of_le hbW HB.out.size
    have c1:=ht.cell ⟨b,j,none⟩ (Nat.lt_of_lt_of_le hbr b2.size) (fun k hk e=>by rw [List.mem_singleton.1 hk] at e; exact absurd e (by show b ≠ wr.heap.size; omega))
    have c2:=b2.cell (p:=⟨b,j,none⟩) hbr
    have c3:=HB.out.cell (p:=⟨b,j,none⟩) hbW
    have d2:=b2.frozen (p:=⟨b,j,none⟩) hbr
    have d3:=HB.out.frozen (p:=⟨b,j,none⟩) hbW
    exact ⟨c1.1.trans (c2.trans c3),c1.2.trans (d2.trans d3)⟩))
   have HGE : Hid (w.heap.size + 2 <= wr.heap.size):=Hd (by have:=HB.out.size; have:=HWS.out; omega)
   have FIN : Hid (∀ (v : World) (z : Int),BI v wr.heap.size z -> Tr [wr.heap.size] (wr.alloc (.cells #[.bool false,.slice none 0 0] 68)) v -> (((v.setCell ⟨w.heap.size + 1,0,none⟩ (.pointer (some ⟨wr.heap.size,0,none⟩))).setCell ⟨w.heap.size + 1,1,none⟩ (.int .i64 x)).cell? ⟨w.heap.size + 1,0,none⟩ = some (.pointer (some ⟨wr.heap.size,0,none⟩)) /\ ((v.setCell ⟨w.heap.size + 1,0,none⟩ (.pointer (some ⟨wr.heap.size,0,none⟩))).setCell ⟨w.heap.size + 1,1,none⟩ (.int .i64 x)).cell? ⟨w.heap.size + 1,1,none⟩ = some (.int .i64 x)) /\ BI ((v.setCell ⟨w.heap.size + 1,0,none⟩ (.pointer (some ⟨wr.heap.size,0,none⟩))).setCell ⟨w.heap.size + 1,1,none⟩ (.int .i64 x)) wr.heap.size z /\ Below w.heap.size w ((v.setCell ⟨w.heap.size + 1,0,none⟩ (.pointer (some ⟨wr.heap.size,0,none⟩))).setCell ⟨w.heap.size + 1,1,none⟩ (.int .i64 x))):=Hd (fun v z hbi ht=>by
    obtain ⟨_,⟨c1,c2⟩,_⟩:=HKK.out v ht
    have n01 : (⟨w.heap.size + 1,0,none⟩ : Addr) ≠ ⟨w.heap.size + 1,1,none⟩:=by simp
    have hge:=HGE.out
    have c2' : (v.setCell ⟨w.heap.size + 1,0,none⟩ (.pointer (some ⟨wr.heap.size,0,none⟩))).cell? ⟨w.heap.size + 1,1,none⟩ = some (.int .i64 0):=(World.cell?_setCell_other _ _ _ _ n01).trans c2
    refine ⟨⟨?_,World.cell?_setCell_same _ _ _ c2'⟩,?_,?_⟩
    ·rw [World.cell?_setCell_other _ _ _ _ n01.symm]; exact World.cell?_setCell_same _ _ _ c1
    ·exact (hbi.store (by show w.heap.size + 1 ≠ wr.heap.size; omega) c1 (fun y h=>by cases h) _).store (by show w.heap.size + 1 ≠ wr.heap.size; omega) c2' (fun y h=>by cases h) _
    ·exact (((HB2.out.trans (ht.below _ HB2.out.size (fun k hk=>by rw [List.mem_singleton.1 hk]; omega))).setCell (p:=⟨w.heap.size + 1,0,none⟩) (by show w.heap.size <= w.heap.size + 1; omega) _).setCell (p:=⟨w.heap.size + 1,1,none⟩) (by show w.heap.size <= w.heap.size + 1; omega) _))
   clear b1 b2 hnu HK
   go_wp2_with fail
   refine HSB.out.mono ?_
   rintro e w3 ⟨rfl,hbi,ht⟩
   have HBI:=Hd hbi
   have HT:=Hd ht
   obtain ⟨⟨a0,a2⟩,⟨a3,a4⟩,⟨f3,f4⟩⟩:=HKK.out w3 ht
   clear hbi ht
   cases s
   ·have HF:=Hd (FIN.out w3 N HBI.out HT.out)
    go_wp2_with fail
    refine bodyPost_ret (v:=.agg #[.pointer (some ⟨wr.heap.size,0,none⟩),.int .i64 x]) (by simp [results,Tryz.results223,go_sem,HF.out.1.1,HF.out.1.2]) rfl ⟨_,rfl,HF.out.2.1,by have:=HGE.out; omega,HF.out.2.2⟩
   ·have HNG:=Hd (bneg_any wr.heap.size wr.heap.size N N w3 HBI.out HBI.out)
    go_wp2_with fail
    refine HNG.out.mono ?_
    rintro e w4 ⟨rfl,hbi,ht⟩
    have HT2:=Hd (HT.out.trans ht)
    have HF:=Hd (FIN.out w4 _ hbi HT2.out)
    clear a0 a2 a3 a4 f3 f4
    obtain ⟨⟨a0,a2⟩,⟨a3,a4⟩,⟨f3,f4⟩⟩:=HKK.out w4 HT2.out
    clear hbi ht
    go_wp2_with fail
    refine bodyPost_ret (v:=.agg #[.pointer (some ⟨wr.heap.size,0,none⟩),.int .i64 x]) (by simp [results,Tryz.results223,go_sem,HF.out.1.1,HF.out.1.2]) rfl ⟨_,rfl,HF.out.2.1,by have:=HGE.out; omega,HF.out.2.2⟩
theorem cut_up (g : Nat) (z x last : Int) (w : World) (hg : BI w g z) (h : last <= x) (h1 : -100000 <= last) (h2 : x <= last + 100000) (hz : 2 ^ (x - last).toNat * z.natAbs < BL) :
  Calls Tryz.prog 226 #[.agg #[.pointer (some ⟨g,0,none⟩),.int .i64 x],.int .i64 last,.bool false] w (PPost (2 ^ (x - last).toNat * z) w):=by
 have hb1:=(Below.refl w.heap.size w).alloc (Nat.le_refl _) (.cells #[.pointer (some ⟨g,0,none⟩),.int .i64 x] 244)
 obtain ⟨W,hW⟩ : ∃ W,W = w.alloc (.cells #[.pointer (some ⟨g,0,none⟩),.int .i64 x] 244):=⟨_,rfl⟩
 have k0 : W.cell? ⟨w.heap.size,0,none⟩ = some (.pointer (some ⟨g,0,none⟩)):=by rw [hW]; simp
 have k1 : W.cell? ⟨w.heap.size,1,none⟩ = some (.int .i64 x):=by rw [hW]; simp
 have hWs : W.heap.size = w.heap.size + 1:=by rw [hW]; simp
 rw [<- hW] at hb1
 obtain ⟨b1,b2⟩:=BI.new W 68
 rw [hWs] at b1
 have HL:=Hd (blsh_any (w.heap.size + 1) g 0 z (x - last).toNat _ b1 ((hg.below hb1).below b2) (by omega) hz)
 have HB : Hid (Below w.heap.size w (W.alloc (.cells #[.bool false,.slice none 0 0] 68))):=Hd (hb1.trans (b2.mono (by omega)))
 have q0:=(b2.cell (p:=⟨w.heap.size,0,none⟩) (by show w.heap.size < W.heap.size; omega)).trans k0
 have q1:=(b2.cell (p:=⟨w.heap.size,1,none⟩) (by show w.heap.size < W.heap.size; omega)).trans k1
 have HWS:=Hd hWs
 obtain ⟨d,hd⟩ : ∃ d,d = (x - last).toNat:=⟨_,rfl⟩
 have e1 : IntKind.i64.wrap (x - last) = (d : Int):=by rw [IntKind.wrap_i64]; omega
 have e2 : IntKind.u64.wrap (d : Int) = (d : Int):=by rw [IntKind.wrap_u64]; omega
 have e3 : decide (last <= x) = true:=decide_eq_true h
 rw [<- hd] at HL ⊢
 have HW:=Hd hW
 clear hg h h1 h2 hz hb1 b1 b2 hd hWs hW q0 q1 k0 k1
 go_enter Tryz.func226,Tryz.ntmps226
 go_wp2_with fail
 rw [<- HW.out]
 refine HL.out.mono ?_
 rintro e w2 hr
 have HR : Hid (∃ gg,e = .returned (.pointer (some ⟨gg,0,none⟩)) /\ BI w2 gg (2 ^ d * z) /\ w.heap.size <= gg /\ Below w.heap.size w w2):=Hd ⟨w.heap.size + 1,hr.1,hr.2.1,by omega,HB.out.trans (hr.2.2.below _ HB.out.size (fun k hk=>by rw [List.mem_singleton.1 hk]; omega))⟩
 obtain ⟨rfl,_,_⟩:=hr
 go_wp2
 go_ret
 obtain ⟨gg,a1,a2,a3,a4⟩:=HR.out
 exact ⟨gg,a1,a2,a3,a4⟩
theorem cut_down (g : Nat) (z x last : Int) (w : World) (hg : BI w g z) (h : x < last) (h1 : -100000 <= x) (h2 : last <= x + 100000) (hz : z.natAbs + 1 < BL) :
  Calls Tryz.prog 226 #[.agg #[.pointer (some ⟨g,0,none⟩),.int .i64 x],.int .i64 last,.bool false] w (PPost (z / 2 ^ (last - x).toNat) w):=by
 have hb1:=(Below.refl w.heap.size w).alloc (Nat.le_refl _) (.cells #[.pointer (some ⟨g,0,none⟩),.int .i64 x] 244)
 obtain ⟨W,hW⟩ : ∃ W,W = w.alloc (.cells #[.pointer (some ⟨g,0,none⟩),.int .i64 x] 244):=⟨_,rfl⟩
 have k0 : W.cell? ⟨w.heap.size,0,none⟩ = some (.pointer (some ⟨g,0,none⟩)):=by rw [hW]; simp
 have k1 : W.cell? ⟨w.heap.size,1,none⟩ = some (.int .i64 x):=by rw [hW]; simp
 have hWs : W.heap.size = w.heap.size + 1:=by rw [hW]; simp
 rw [<- hW] at hb1
 obtain ⟨b1,b2⟩:=BI.new W 68
 rw [hWs] at b1
 have HL:=Hd (brsh_any (w.heap.size + 1) g 0 z (last - x).toNat _ b1 ((hg.below hb1).below b2) (by omega) hz)
 have HB : Hid (Below w.heap.size w (W.alloc (.cells #[.bool false,.slice none 0 0] 68))):=Hd (hb1.trans (b2.mono (by omega)))
 have q0:=(b2.cell (p:=⟨w.heap.size,0,none⟩) (by show w.heap.size < W.heap.size; omega)).trans k0
 have q1:=(b2.cell (p:=⟨w.heap.size,1,none⟩) (by show w.heap.size < W.heap.size; omega)).trans k1
 have HWS:=Hd hWs
 obtain ⟨d,hd⟩ : ∃ d,d = (last - x).toNat:=⟨_,rfl⟩
 have e1 : IntKind.i64.wrap (last - x) = (d : Int):=by rw [IntKind.wrap_i64]; omega
 have e2 : IntKind.u64.wrap (d : Int) = (d : Int):=by rw [IntKind.wrap_u64]; omega
 have e3 : decide (last <= x) = false:=decide_eq_false (by omega)
 rw [<- hd] at HL ⊢
 have HW:=Hd hW
 clear hg h h1 h2 hz hb1 b1 b2 hd hWs hW q0 q1 k0 k1
 go_enter Tryz.func226,Tryz.ntmps226
 go_wp2_with fail
 rw [<- HW.out]
 refine HL.out.mono ?_
 rintro e w2 hr
 have HR : Hid (∃ gg,e = .returned (.pointer (some ⟨gg,0,none⟩)) /\ BI w2 gg (z / 2 ^ d) /\ w.heap.size <= gg /\ Below w.heap.size w w2):=Hd ⟨w.heap.size + 1,hr.1,hr.2.1,by omega,HB.out.trans (hr.2.2.below _ HB.out.size (fun k hk=>by rw [List.mem_singleton.1 hk]; omega))⟩
 obtain ⟨rfl,_,_⟩:=hr
 go_wp2
 go_ret
 obtain ⟨gg,a1,a2,a3,a4⟩:=HR.out
 exact ⟨gg,a1,a2,a3,a4⟩
end
end Go.Proofs.YtnpanpkahbcecaaGreatDoor

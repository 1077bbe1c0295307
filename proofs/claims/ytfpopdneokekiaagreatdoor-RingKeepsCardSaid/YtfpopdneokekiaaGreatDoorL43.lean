/-
The card of RingLaws: for every input the call answers true, and every argument reads behind it as before. Conditions: the three tables that the transforms read hold what the program lays into them (tied by the card).
-/
import Derived.Test.YtfpopdneokekiaaGreatDoorL0
import Derived.Test.YtfpopdneokekiaaGreatDoorL42
import Derived.Test.YtfpopdneokekiaaGreatDoorCards
import Derived.Test.YtfpopdneokekiaaGreatDoorTie
import Derived.WalkKit
import Derived.ProofKit
import Derived.OpenShut
import Derived.Laws.Cover2
import Derived.Deep.DeepHandedRow
import Derived.Lib.LaidTab
import Derived.Lib.Hide
set_option linter.unusedVariables false
set_option linter.unusedSimpArgs false
namespace Go.Proofs.YtfpopdneokekiaaGreatDoor
section
open Go.RowKit Fl
theorem sI_congr {n : Nat} {f g : Nat -> Int} (h : ∀ i < n,f i = g i) : sumI n f = sumI n g:=by
 induction n with
 | zero=>rfl
 | succ n ih=>simp only [sumI]; rw [ih (fun i hi=>h i (by omega)),h n (by omega)]
theorem sI_add (n : Nat) (f g : Nat -> Int) : sumI n (fun i=>f i + g i) = sumI n f + sumI n g:=by
 induction n with
 | zero=>rfl
 | succ n ih=>simp only [sumI]; rw [ih]; omega
theorem sI_zero (n : Nat) : sumI n (fun _=>0) = 0:=by
 induction n with
 | zero=>rfl
 | succ n ih=>simp only [sumI]; rw [ih]; rfl
theorem sI_left (n : Nat) (c : Int) (f : Nat -> Int) : sumI n (fun i=>c * f i) = c * sumI n f:=by
 induction n with
 | zero=>simp [sumI]
 | succ n ih=>simp only [sumI]; rw [ih,Int.mul_add]
theorem sI_right (n : Nat) (c : Int) (f : Nat -> Int) : sumI n (fun i=>f i * c) = sumI n f * c:=by
 induction n with
 | zero=>simp [sumI]
 | succ n ih=>simp only [sumI]; rw [ih,Int.add_mul]
theorem sI_swap (n m : Nat) (f : Nat -> Nat -> Int) : sumI n (fun i=>sumI m (fun j=>f i j)) = sumI m (fun j=>sumI n (fun i=>f i j)):=by
 induction n with
 | zero=>simp only [sumI]; rw [sI_zero]
 | succ n ih=>simp only [sumI]; rw [ih,sI_add]
theorem sI_split (a b : Nat) (f : Nat -> Int) : sumI (a + b) f = sumI a f + sumI b (fun i=>f (a + i)):=by
 induction b with
 | zero=>simp [sumI]
 | succ b ih=>rw [<- Nat.add_assoc]; simp only [sumI]; rw [ih]; omega
theorem md {n x : Nat} (h : x < n + n) : (x < n /\ x % n = x) \/ (n <= x /\ x % n = x - n):=by
 by_cases h1 : x < n
 ·exact .inl ⟨h1,Nat.mod_eq_of_lt h1⟩
 ·refine .inr ⟨by omega,?_⟩
  rw [Nat.mod_eq_sub_mod (by omega),Nat.mod_eq_of_lt (by omega)]
theorem sI_rot {n s : Nat} (hs : s <= n) (f : Nat -> Int) : sumI n (fun m=>f ((m + s) % n)) = sumI n f:=by
 have e1 : sumI n f = sumI s f + sumI (n - s) (fun i=>f (s + i)):=by rw [<- sI_split]; congr 1; omega
 have e2 : sumI n (fun m=>f ((m + s) % n)) = sumI (n - s) (fun m=>f ((m + s) % n)) + sumI s (fun i=>f ((n - s + i + s) % n)):=by rw [<- sI_split]; congr 1; omega
 rw [e1,e2]
 have e3 : sumI (n - s) (fun m=>f ((m + s) % n)) = sumI (n - s) (fun i=>f (s + i)):=sI_congr (fun i hi=>by
  rw [Nat.mod_eq_of_lt (by omega),Nat.add_comm])
 have e4 : sumI s (fun i=>f ((n - s + i + s) % n)) = sumI s f:=sI_congr (fun i hi=>by
  have e : n - s + i + s = n + i:=by omega
  rcases md (n:=n) (x:=n + i) (by omega) with ⟨h1,_⟩ | ⟨_,h2⟩
  ·omega
  ·rw [e,h2]; congr 1; omega)
 rw [e3,e4]; omega
theorem sI_refl (n : Nat) (f : Nat -> Int) : sumI n (fun m=>f (n - 1 - m)) = sumI n f:=by
 induction n generalizing f with
 | zero=>rfl
 | succ n ih =>
   have e1 : sumI (1 + n) (fun m=>f (n + 1 - 1 - m)) = sumI 1 (fun m=>f (n + 1 - 1 - m)) + sumI n (fun i=>f (n + 1 - 1 - (1 + i))):=sI_split 1 n _
   rw [Nat.add_comm 1 n] at e1
   rw [e1]
   have e2 : sumI n (fun i=>f (n + 1 - 1 - (1 + i))) = sumI n (fun m=>f (n - 1 - m)):=sI_congr (fun i hi=>by congr 1; omega)
   rw [e2,ih]
   simp only [sumI]
   simp
   omega
theorem sI_back {n j : Nat} (hj : j < n) (f : Nat -> Int) : sumI n (fun m=>f ((j + n - m) % n)) = sumI n f:=by
 rw [<- sI_refl,<- sI_rot (s:=j + 1) (by omega) f]
 refine sI_congr (fun m hm=>?_)
 congr 2; omega
theorem sI_delta {n k : Nat} (hk : k < n) (f : Nat -> Int) : sumI n (fun m=>if m = k then f m else 0) = f k:=by
 induction n with
 | zero=>omega
 | succ n ih =>
   simp only [sumI]
   by_cases h : k = n
   ·subst h
    rw [if_pos rfl]
    have : sumI k (fun m=>if m = k then f m else 0) = sumI k (fun _=>0):=sI_congr (fun i hi=>if_neg (by omega))
    rw [this,sI_zero]; omega
   ·rw [ih (by omega),if_neg (by omega)]; omega
theorem cvI_sum (a b : List Int) (n j : Nat) : cvI a b n j = sumI n (fun m=>a.getD m 0 * b.getD ((j + n - m) % n) 0):=by
 unfold cvI; rw [allS_sum]
def tabL (n : Nat) (f : Nat -> Int) : List Int:=(List.range n).map f
theorem tabL_get {n m : Nat} (f : Nat -> Int) (hm : m < n) : (tabL n f).getD m 0 = f m:=by
 unfold tabL
 rw [List.getD_eq_getElem?_getD,List.getElem?_map,List.getElem?_range hm]; rfl
theorem tabL_len (n : Nat) (f : Nat -> Int) : (tabL n f).length = n:=by unfold tabL; simp
theorem tabL_at {n m : Nat} (f : Nat -> Int) (hm : m < n) : (tabL n f)[m]? = some (f m):=by
 unfold tabL; rw [List.getElem?_map,List.getElem?_range hm]; rfl
theorem tabL_eq {n : Nat} {f g : Nat -> Int} (h : ∀ m < n,f m = g m) : tabL n f = tabL n g:=by
 unfold tabL; exact List.map_congr_left (fun m hm=>h m (List.mem_range.1 hm))
theorem back_back {n j m : Nat} (hj : j < n) (hm : m < n) : (j + n - (j + n - m) % n) % n = m:=by
 rcases md (n:=n) (x:=j + n - m) (by omega) with ⟨h1,h2⟩ | ⟨h1,h2⟩
 ·rw [h2]
  rcases md (n:=n) (x:=j + n - (j + n - m)) (by omega) with ⟨h3,h4⟩ | ⟨h3,h4⟩ <;> omega
 ·rw [h2]
  rcases md (n:=n) (x:=j + n - (j + n - m - n)) (by omega) with ⟨h3,h4⟩ | ⟨h3,h4⟩ <;> omega
theorem cv_comm {n j : Nat} (hj : j < n) (a b : List Int) : cvI a b n j = cvI b a n j:=by
 rw [cvI_sum,cvI_sum,<- sI_back hj]
 refine sI_congr (fun m hm=>?_)
 show a.getD ((j + n - m) % n) 0 * b.getD ((j + n - (j + n - m) % n) % n) 0 = _
 rw [back_back hj hm,Int.mul_comm]
theorem idx {n j p q : Nat} (hj : j < n) (hp : p < n) (hq : q < n) : (j + n - (q + p) % n) % n = ((j + n - p) % n + n - q) % n:=by
 rcases md (n:=n) (x:=q + p) (by omega) with ⟨h1,h2⟩ | ⟨h1,h2⟩ <;>
 rcases md (n:=n) (x:=j + n - p) (by omega) with ⟨h3,h4⟩ | ⟨h3,h4⟩ <;> rw [h2,h4]
 ·rcases md (n:=n) (x:=j + n - (q + p)) (by omega) with ⟨h5,h6⟩ | ⟨h5,h6⟩ <;>
  rcases md (n:=n) (x:=j + n - p + n - q) (by omega) with ⟨h7,h8⟩ | ⟨h7,h8⟩ <;> omega
 ·rcases md (n:=n) (x:=j + n - (q + p)) (by omega) with ⟨h5,h6⟩ | ⟨h5,h6⟩ <;>
  rcases md (n:=n) (x:=j + n - p - n + n - q) (by omega) with ⟨h7,h8⟩ | ⟨h7,h8⟩ <;> omega
 ·rcases md (n:=n) (x:=j + n - (q + p - n)) (by omega) with ⟨h5,h6⟩ | ⟨h5,h6⟩ <;>
  rcases md (n:=n) (x:=j + n - p + n - q) (by omega) with ⟨h7,h8⟩ | ⟨h7,h8⟩ <;> omega
 ·rcases md (n:=n) (x:=j + n - (q + p - n)) (by omega) with ⟨h5,h6⟩ | ⟨h5,h6⟩ <;>
  rcases md (n:=n) (x:=j + n - p - n + n - q) (by omega) with ⟨h7,h8⟩ | ⟨h7,h8⟩ <;> omega
theorem unrot {n p q : Nat} (hp : p < n) (hq : q < n) : ((q + p) % n + n - p) % n = q:=by
 rcases md (n:=n) (x:=q + p) (by omega) with ⟨h1,h2⟩ | ⟨h1,h2⟩
 ·rw [h2]
  rcases md (n:=n) (x:=q + p + n - p) (by omega) with ⟨h3,h4⟩ | ⟨h3,h4⟩ <;> omega
 ·rw [h2]
  rcases md (n:=n) (x:=q + p - n + n - p) (by omega) with ⟨h3,h4⟩ | ⟨h3,h4⟩ <;> omega
def turnL (n k : Nat) (l : List Int) : List Int:=tabL n (fun m=>l.getD ((m + n - k) % n) 0)
theorem cv_turn {n j k : Nat} (hj : j < n) (hk : k < n) (a b : List Int) : cvI (turnL n k a) b n j = cvI a b n ((j + n - k) % n):=by
 rw [cvI_sum,cvI_sum,<- sI_rot (s:=k) (by omega)]
 refine sI_congr (fun q hq=>?_)
 show (turnL n k a).getD ((q + k) % n) 0 * b.getD ((j + n - (q + k) % n) % n) 0 = _
 unfold turnL
 rw [tabL_get _ (Nat.mod_lt _ (by omega)),unrot hk hq,idx hj hk hq]
theorem cv_assoc {n j : Nat} (hj : j < n) (a b c : List Int) : cvI (tabL n (cvI a b n)) c n j = cvI a (tabL n (cvI b c n)) n j:=by
 rw [cvI_sum,cvI_sum]
 have e1 : sumI n (fun m=>(tabL n (cvI a b n)).getD m 0 * c.getD ((j + n - m) % n) 0) = sumI n (fun m=>sumI n (fun p=>a.getD p 0 * (b.getD ((m + n - p) % n) 0 * c.getD ((j + n - m) % n) 0))):=sI_congr (fun m hm=>by
  rw [tabL_get _ hm,cvI_sum,<- sI_right]
  exact sI_congr (fun p hp=>Int.mul_assoc _ _ _))
 rw [e1,sI_swap]
 refine sI_congr (fun p hp=>?_)
 rw [sI_left,tabL_get _ (Nat.mod_lt _ (by omega)),cvI_sum]
 congr 1
 rw [<- sI_rot (s:=p) (by omega)]
 refine sI_congr (fun q hq=>?_)
 show b.getD (((q + p) % n + n - p) % n) 0 * c.getD ((j + n - (q + p) % n) % n) 0 = _
 rw [unrot hp hq,idx hj hp hq]
theorem cv_add (n j : Nat) (a b c : List Int) (s : List Int) (hs : ∀ m < n,s.getD m 0 = b.getD m 0 + c.getD m 0) (hn : 0 < n) : cvI a s n j = cvI a b n j + cvI a c n j:=by
 rw [cvI_sum,cvI_sum,cvI_sum,<- sI_add]
 refine sI_congr (fun m hm=>?_)
 show a.getD m 0 * s.getD ((j + n - m) % n) 0 = _
 rw [hs _ (Nat.mod_lt _ hn),Int.mul_add]
theorem cv_one {n j k : Nat} (hk : k < n) (one a : List Int) (h : ∀ m < n,one.getD m 0 = if m = k then 1 else 0) : cvI one a n j = a.getD ((j + n - k) % n) 0:=by
 rw [cvI_sum,<- sI_delta hk (fun m=>a.getD ((j + n - m) % n) 0)]
 refine sI_congr (fun m hm=>?_)
 show one.getD m 0 * _ = _
 rw [h m hm]
 split
 ·rw [Int.one_mul]
 ·rw [Int.zero_mul]
theorem cv_total {n : Nat} (a b : List Int) : sumI n (fun j=>cvI a b n j) = sumI n (fun m=>a.getD m 0) * sumI n (fun m=>b.getD m 0):=by
 have e1 : sumI n (fun j=>cvI a b n j) = sumI n (fun j=>sumI n (fun m=>a.getD m 0 * b.getD ((j + n - m) % n) 0)):=sI_congr (fun j hj=>cvI_sum a b n j)
 rw [e1,sI_swap,<- sI_right]
 refine sI_congr (fun m hm=>?_)
 rw [sI_left]
 congr 1
 rw [<- sI_rot (s:=n - m) (by omega) (fun i=>b.getD i 0)]
 refine sI_congr (fun j hj=>?_)
 congr 2; omega
end
section
open Go.RowKit
set_option maxRecDepth 100000 in
set_option maxHeartbeats 4000000 in
theorem rlplus_any (A B : Option Addr) (n c c' : Nat) (l r : List Int) (w : World) (hn : n <= 16384) (ha : UL w A n c l) (hb : UL w B n c' r) (hs : ∀ m,-9223372036854775808 <= l.getD m 0 + r.getD m 0 /\ l.getD m 0 + r.getD m 0 < 9223372036854775808) :
  Calls Tryz.prog 22 #[.slice A n c,.slice B n c'] w fun e w'=>∃ g,e = .returned (.slice (some ⟨g,0,none⟩) n n) /\ LRow w' w.heap.size g n (tabL n (fun m=>l.getD m 0 + r.getD m 0)) /\ Below w.heap.size w w':=by
 obtain ⟨i0,hi0,hz0,hz1,hz2⟩:=info_parts i64_info
 have HA:=Hd ha
 have HB:=Hd hb
 have HS:=Hd hs
 obtain ⟨L,hL⟩ : ∃ L,L = tabL n (fun m=>l.getD m 0 + r.getD m 0):=⟨_,rfl⟩
 have HLL : Hid (L.length = n):=Hd (by rw [hL,tabL_len])
 have HLX : Hid (∀ i < n,L[i]? = some (l.getD i 0 + r.getD i 0)):=Hd (fun i hi=>by rw [hL,tabL_at _ hi])
 rw [<- hL]
 clear ha hb hs hL
 go_enter Tryz.func22,Tryz.ntmps22
 go_wp2_with (refine wpList_make_full _ rfl (.tmp 8) (.tmp 8) 22 rfl w.heap.size 2 i0 _ 1 Tryz.underlying22 hi0 hz0 hz1 .i64 .i64 _ _ n rfl rfl (by omega) (by omega) (by rw [hz2]; omega) (by simp only [maxLen]; omega) (Nat.le_refl _) ?_; intro w1 hown1 hg1; have HB1:=Hd ((Below.refl w.heap.size w).grown hg1 (Nat.le_refl _) (fun k hk=>by cases hk)); have ROW:=Hd (LRow.made hown1); clear hown1 hg1)
 obtain ⟨G,hG⟩ : ∃ G,G = w.heap.size:=⟨_,rfl⟩
 have ROW2 : Hid (LRow w1 w.heap.size G n (List.replicate n 0)):=Hd (by rw [hG]; exact ROW.out)
 have hGb : w.heap.size <= G:=by omega
 rw [<- hG]
 clear ROW hG
 go_loopw [6] (fun iv wr=>∃ (i : Nat) (o : List Int),iv = .int .i64 i /\ i <= n /\ Hid (∀ m < i,o[m]? = L[m]?) /\ Hid (LRow wr w.heap.size G n o) /\ Hid (Below w.heap.size w wr)) (fun iv _=>n - (intOf iv).toNat)
 case atStart=>exact ⟨0,List.replicate n 0,rfl,Nat.zero_le _,Hd (fun j hj=>absurd hj (Nat.not_lt_zero _)),ROW2,HB1⟩
 case round =>
  clear ROW2 HB1
  obtain ⟨i,o,rfl,hi,HI,HR,HBW⟩:=hrel
  by_cases hlt : i < n
  ·obtain ⟨ad,rfl,hab,d1⟩:=(HA.out.below HBW.out).2.2.2 i _ (get_of HA.out.1 hlt)
   obtain ⟨bd,rfl,hbb,d2⟩:=(HB.out.below HBW.out).2.2.2 i _ (get_of HB.out.1 hlt)
   have HNX:=Hd (HLX.out i hlt)
   have hs:=HS.out i
   obtain ⟨X,hX⟩ : ∃ X,X = l.getD i 0:=⟨_,rfl⟩
   obtain ⟨Y,hY⟩ : ∃ Y,Y = r.getD i 0:=⟨_,rfl⟩
   rw [<- hX,<- hY] at HNX hs
   rw [<- hX] at d1
   rw [<- hY] at d2
   have hol:=HR.out.len
   have HIN:=Hd (set_next (by omega) HI.out HNX.out)
   obtain ⟨z,hz⟩ : ∃ z,o[i]? = some z:=⟨_,List.getElem?_eq_getElem (by omega)⟩
   have HRD : Hid (LRow wr.drew w.heap.size G n o):=Hd HR.out
   have d3:=HR.out.cell i z hz
   have d3':=HRD.out.cell i z hz
   have hfr:=HRD.out.free i
   have HRN:=Hd (HRD.out.set i (X + Y))
   have HBN:=Hd ((below_drew HBW.out).setCell (p:=⟨G,i,none⟩) hGb (.int .i64 (X + Y)))
   have v1 : IntKind.i64.wrap (X + Y) = X + Y:=by rw [IntKind.wrap_i64]; omega
   have v1' : wrap64 (X + Y) = X + Y:=by unfold wrap64; omega
   clear hX hY hs hz hab hbb HI HNX
   go_wp2_with fail
   refine wp_region_perm (fun v=>v = wr.drew) [(true,0),(true,1),(true,2),(true,3),(true,4),(true,5),(true,6),(true,7),(true,8),(true,9),(true,10),(true,11)] 12 (by kernel_rfl) (by kernel_rfl) (fun _ _ _ _ _ h=>h) ?_ ?_
   ·rfl
   simp only [List.take_succ_cons,List.take_zero]
   iterate 12
    refine wpHP_take ?_ rfl (by rfl) ?_ ?_
    rotate_left
    ·rintro v rfl; go_simp; try (first | with_reducible rfl)
    simp only [Act.put,List.setIfInBounds_toArray,List.set_cons_zero,List.set_cons_succ]
   refine wpHP_nil ?_
   simp only [QT,List.drop_succ_cons,List.drop_zero,Act.put,List.setIfInBounds_toArray,List.set_cons_zero,List.set_cons_succ]
   clear d1 d2 d3 v1
   go_wp2_with fail
   exact ⟨⟨i + 1,_,by go_num,hlt,HIN,HRN,HBN⟩,by simp [intOf]; omega⟩
  ·obtain rfl : n = i:=by omega
   have HOL : Hid (o = L):=Hd (all_eq HR.out.len HLL.out HI.out)
   go_wp2_with fail
   go_ret
   exact ⟨G,rfl,by rw [<- HOL.out]; exact HR.out,HBW.out⟩
theorem unback {n j k : Nat} (hj : j < n) (hk : k < n) : ((j + n - k) % n + k) % n = j:=by
 rcases md (n:=n) (x:=j + n - k) (by omega) with ⟨h1,h2⟩ | ⟨h1,h2⟩
 ·rw [h2]
  rcases md (n:=n) (x:=j + n - k + k) (by omega) with ⟨h3,h4⟩ | ⟨h3,h4⟩ <;> omega
 ·rw [h2]
  rcases md (n:=n) (x:=j + n - k - n + k) (by omega) with ⟨h3,h4⟩ | ⟨h3,h4⟩ <;> omega
theorem rot_inj {n k m i : Nat} (hm : m < n) (hi : i < n) (hk : k < n) (h : (m + k) % n = (i + k) % n) : m = i:=by
 rcases md (n:=n) (x:=m + k) (by omega) with ⟨h1,h2⟩ | ⟨h1,h2⟩ <;>
 rcases md (n:=n) (x:=i + k) (by omega) with ⟨h3,h4⟩ | ⟨h3,h4⟩ <;> omega
set_option maxRecDepth 100000 in
set_option maxHeartbeats 4000000 in
theorem turned_row (A : Option Addr) (n c k : Nat) (l : List Int) (w : World) (hn : n <= 16384) (hk : k < n) (ha : UL w A n c l) :
  Calls Tryz.prog 23 #[.slice A n c,.int .i64 k] w fun e w'=>∃ g,e = .returned (.slice (some ⟨g,0,none⟩) n n) /\ LRow w' w.heap.size g n (turnL n k l) /\ Below w.heap.size w w':=by
 obtain ⟨i0,hi0,hz0,hz1,hz2⟩:=info_parts i64_info
 have HA:=Hd ha
 obtain ⟨L,hL⟩ : ∃ L,L = turnL n k l:=⟨_,rfl⟩
 have HLL : Hid (L.length = n):=Hd (by rw [hL]; exact tabL_len _ _)
 have HLX : Hid (∀ i < n,L[i]? = some (l.getD ((i + n - k) % n) 0)):=Hd (fun i hi=>by rw [hL]; exact tabL_at _ hi)
 rw [<- hL]
 clear ha hL
 go_enter Tryz.func23,Tryz.ntmps23
 go_wp2_with (refine wpList_make_full _ rfl (.tmp 8) (.tmp 8) 22 rfl w.heap.size 2 i0 _ 1 Tryz.underlying22 hi0 hz0 hz1 .i64 .i64 _ _ n rfl rfl (by omega) (by omega) (by rw [hz2]; omega) (by simp only [maxLen]; omega) (Nat.le_refl _) ?_; intro w1 hown1 hg1; have HB1:=Hd ((Below.refl w.heap.size w).grown hg1 (Nat.le_refl _) (fun k hk=>by cases hk)); have ROW:=Hd (LRow.made hown1); clear hown1 hg1)
 obtain ⟨G,hG⟩ : ∃ G,G = w.heap.size:=⟨_,rfl⟩
 have ROW2 : Hid (LRow w1 w.heap.size G n (List.replicate n 0)):=Hd (by rw [hG]; exact ROW.out)
 have hGb : w.heap.size <= G:=by omega
 rw [<- hG]
 clear ROW hG
 go_loopw [6] (fun iv wr=>∃ (i : Nat) (o : List Int),iv = .int .i64 i /\ i <= n /\ Hid (∀ m < i,o[(m + k) % n]? = some (l.getD m 0)) /\ Hid (LRow wr w.heap.size G n o) /\ Hid (Below w.heap.size w wr)) (fun iv _=>n - (intOf iv).toNat)
 case atStart=>exact ⟨0,List.replicate n 0,rfl,Nat.zero_le _,Hd (fun j hj=>absurd hj (Nat.not_lt_zero _)),ROW2,HB1⟩
 case round =>
  clear ROW2 HB1
  obtain ⟨i,o,rfl,hi,HI,HR,HBW⟩:=hrel
  by_cases hlt : i < n
  ·obtain ⟨ad,rfl,hab,d1⟩:=(HA.out.below HBW.out).2.2.2 i _ (get_of HA.out.1 hlt)
   have hol:=HR.out.len
   have hr : (i + k) % n < n:=Nat.mod_lt _ (by omega)
   have HIN : Hid (∀ m < i + 1,(o.set ((i + k) % n) (l.getD i 0))[(m + k) % n]? = some (l.getD m 0)):=Hd (fun m hm=>by
    by_cases e : m = i
    ·rw [e,List.getElem?_set_self (by omega)]
    ·rw [List.getElem?_set_ne (fun h=>e (rot_inj hlt (show m < n by omega) hk h).symm)]; exact HI.out m (by omega))
   obtain ⟨r,hr'⟩ : ∃ r,r = (i + k) % n:=⟨_,rfl⟩
   rw [<- hr'] at HIN hr
   have e0 : ((i : Int) + (k : Int)) = ((i + k : Nat) : Int):=by omega
   have u2 : IntKind.i64.wrap ((i : Int) + (k : Int)) = (i : Int) + (k : Int):=by rw [IntKind.wrap_i64]; omega
   have u3 : Int.tmod ((i : Int) + (k : Int)) (n : Int) = (r : Int):=by
    rw [e0,Int.tmod_eq_emod_of_nonneg (by omega),hr',Int.natCast_emod]
   have u3' : ((i : Int) + (k : Int)) % (n : Int) = (r : Int):=by
    rw [e0,hr',Int.natCast_emod]
   have n0 : ((n : Int) == 0) = false:=by simp; omega
   have nz : ¬ n = 0:=by omega
   have b1 : (r : Int) < (n : Int):=by omega
   obtain ⟨X,hX⟩ : ∃ X,X = l.getD i 0:=⟨_,rfl⟩
   rw [<- hX] at d1 HIN
   obtain ⟨z,hz⟩ : ∃ z,o[r]? = some z:=⟨_,List.getElem?_eq_getElem (by omega)⟩
   have HRD : Hid (LRow wr.drew w.heap.size G n o):=Hd HR.out
   have d3:=HR.out.cell r z hz
   have d3':=HRD.out.cell r z hz
   have hfr:=HRD.out.free r
   have HRN:=Hd (HRD.out.set r X)
   have HBN:=Hd ((below_drew HBW.out).setCell (p:=⟨G,r,none⟩) hGb (.int .i64 X))
   clear hX hz hab HI hr' e0
   go_wp2_with fail
   refine wp_region_perm (fun v=>v = wr.drew) [(true,0),(true,1),(true,2),(true,3),(true,4),(true,5),(true,6),(true,7),(true,8),(true,9),(true,10),(true,11)] 12 (by kernel_rfl) (by kernel_rfl) (fun _ _ _ _ _ h=>h) ?_ ?_
   ·rfl
   simp only [List.take_succ_cons,List.take_zero]
   iterate 12
    refine wpHP_take ?_ rfl (by rfl) ?_ ?_
    rotate_left
    ·rintro v rfl; go_simp; try (first | with_reducible rfl | (rw [if_neg nz]))
    simp only [Act.put,List.setIfInBounds_toArray,List.set_cons_zero,List.set_cons_succ]
   refine wpHP_nil ?_
   simp only [QT,List.drop_succ_cons,List.drop_zero,Act.put,List.setIfInBounds_toArray,List.set_cons_zero,List.set_cons_succ]
   clear d1 d3 u2 u3 u3' b1 n0
   go_wp2_with fail
   exact ⟨⟨i + 1,_,by go_num,hlt,HIN,HRN,HBN⟩,by simp [intOf]; omega⟩
  ·obtain rfl : n = i:=by omega
   have HOL : Hid (o = L):=Hd (all_eq HR.out.len HLL.out (fun j hj=>by
    have h1:=HI.out ((j + n - k) % n) (Nat.mod_lt _ (by omega))
    rw [unback hj hk] at h1
    rw [h1,HLX.out j hj]))
   go_wp2_with fail
   go_ret
   exact ⟨G,rfl,by rw [<- HOL.out]; exact HR.out,HBW.out⟩
end
section
open Go.RowKit
open Fl in
theorem int_mono {m m' : Int} (h0 : 0 <= m) (h : m <= m') (h1 : m' <= 9007199254740992) : floatOfInt .f64 m <= floatOfInt .f64 m':=by
 obtain ⟨s1,v1⟩:=int_sz m h0 (by omega)
 obtain ⟨s2,v2⟩:=int_sz m' (by omega) h1
 have h2 : vl (floatOfInt .f64 m) <= vl (floatOfInt .f64 m'):=by rw [v1,v2]; exact Int.mul_le_mul_of_nonneg_right h (by omega)
 have h3:=vl_le.1 h2
 rw [s1.facts.2.2.2.2,s2.facts.2.2.2.2] at h3
 exact Int.ofNat_le.1 h3
theorem mx_le {a : List Int} {M : Int} (h0 : 0 <= M) (h : ∀ x ∈ a,-M <= x /\ x <= M) : mxL a <= M:=(mxL_le a 0 M (by omega) (by omega) h).2
open Fl in
theorem ltL_small {K : Nat} {a b : List Int} {Ma Mb : Int} (hK : K <= 14) (oa : okL a) (ob : okL b) (a1 : mxL a <= Ma) (a2 : Ma <= 9007199254740992) (b1 : mxL b <= Mb) (b2 : Mb <= 9007199254740992)
  (h : (FloatKind.f64.format.order (bf K (floatOfInt .f64 Ma) (floatOfInt .f64 Mb)) 4598175219545276416 == some Ordering.lt) = true) : ltL K a b = true:=by
 have a0:=(mx_range oa).1
 have b0:=(mx_range ob).1
 have sa:=mx_sz oa
 have sb:=mx_sz ob
 have sA:=(int_sz Ma (by omega) a2).1
 have sB:=(int_sz Mb (by omega) b2).1
 have h1:=(closed_any hK sa sb).2
 have h2:=(closed_any hK sA sB).2
 have hk:=RingIs.mono hK hK sa sA sb sB h1 h2 (Int.le_refl _) (Int.le_refl _) (int_mono a0 a1 a2) (int_mono b0 b1 b2)
 have f1 : rg (bf K (floatOfInt .f64 (mxL a)) (floatOfInt .f64 (mxL b))) <= I:=by have:=(h1.fin hK sa sb).2.1; omega
 have f2 : rg (bf K (floatOfInt .f64 Ma) (floatOfInt .f64 Mb)) <= I:=by have:=(h2.fin hK sA sB).2.1; omega
 have o1:=order_key _ 4598175219545276416 f1 (by decide)
 have o2:=order_key _ 4598175219545276416 f2 (by decide)
 rw [compare_int] at o1 o2
 have h3:=eq_of_beq h
 have o3 : FloatKind.f64.format.order (bf K (floatOfInt .f64 Ma) (floatOfInt .f64 Mb)) 4598175219545276416 = some (if key (bf K (floatOfInt .f64 Ma) (floatOfInt .f64 Mb)) < key 4598175219545276416 then Ordering.lt else if key (bf K (floatOfInt .f64 Ma) (floatOfInt .f64 Mb)) = key 4598175219545276416 then Ordering.eq else Ordering.gt):=o2
 rw [o3] at h3
 have h5 : key (bf K (floatOfInt .f64 Ma) (floatOfInt .f64 Mb)) < key 4598175219545276416:=by
  by_cases q : key (bf K (floatOfInt .f64 Ma) (floatOfInt .f64 Mb)) < key 4598175219545276416
  ·exact q
  ·rw [if_neg q] at h3
   split at h3 <;> cases h3
 unfold ltL bfL
 refine beq_iff_eq.2 (o1.trans ?_)
 rw [if_pos (Int.lt_of_le_of_lt hk h5)]
theorem small_orders : ∀ K : Fin 7,(FloatKind.f64.format.order (bf K.val (floatOfInt .f64 32767) (floatOfInt .f64 65534)) 4598175219545276416 == some Ordering.lt) = true:=by decide +kernel
theorem never_ten : (FloatKind.f64.format.order (bf 10 (floatOfInt .f64 16384) (floatOfInt .f64 16384)) 4598175219545276416 == some Ordering.lt) = true:=by decide +kernel
def ToldPost (N : Nat) (l : List Int) (w : World) (e : Ending) (w' : World) : Prop:=∃ g,e = .returned (.tuple #[.slice (some ⟨g,0,none⟩) N N,.int .i64 0]) /\ LRow w' w.heap.size g N l /\ Below w.heap.size w w'
theorem cyc_told {P k K N : Nat} {A B : Option Addr} {c c' : Nat} {a b : List Int} {w : World} (Ma Mb : Int) (hk : k <= 14) (hK : K <= k) (hN : N = 2 ^ K) (ha : UL w A N c a) (hb : UL w B N c' b) (hR : RWd P w) (hwh : Wheels P k)
  (a0 : 0 <= Ma) (a2 : Ma <= 9007199254740992) (b0 : 0 <= Mb) (b2 : Mb <= 9007199254740992) (ba : ∀ x ∈ a,-Ma <= x /\ x <= Ma) (bb : ∀ x ∈ b,-Mb <= x /\ x <= Mb)
  (h : (FloatKind.f64.format.order (bf K (floatOfInt .f64 Ma) (floatOfInt .f64 Mb)) 4598175219545276416 == some Ordering.lt) = true) :
  Calls Tryz.prog 19 #[.slice A N c,.slice B N c'] w (ToldPost N (tabL N (cvI a b N)) w):=by
 have oa : okL a:=fun x hx=>by have:=ba x hx; omega
 have ob : okL b:=fun x hx=>by have:=bb x hx; omega
 have hlt:=ltL_small (by omega) oa ob (mx_le a0 ba) a2 (mx_le b0 bb) b2 h
 have h2 : 2 ^ K <= 2 ^ 14:=Nat.pow_le_pow_right (by decide) (by omega)
 refine (cyclic_full P k A B N N c c' a b w (by omega) ha hb hR hwh (fun K' hK'=>by have:=pow_inj (K:=K) (K':=K') (by rw [<- hK',hN]); omega)).mono ?_
 rintro e w' (⟨q,_⟩ | ⟨_,q,_⟩ | ⟨_,_,K',_,hN',_,q⟩)
 ·exact absurd ⟨K,by omega,hN,rfl⟩ q
 ·exact absurd ⟨oa,ob⟩ q
 ·have e1:=pow_inj (K:=K) (K':=K') (by rw [<- hN',hN])
  rw [e1] at q
  rcases q with ⟨q1,_⟩ | ⟨_,g,q1,q2,q3⟩
  ·rw [hlt] at q1; cases q1
  ·exact ⟨g,q1,q2,q3⟩
theorem cv_abs {a b : List Int} {n M N : Nat} (j : Nat) (xa : ∀ m,(a.getD m 0).natAbs <= M) (xb : ∀ m,(b.getD m 0).natAbs <= N) : (cvI a b n j).natAbs <= n * (M * N) :=
 allS_abs M N n _ _ (fun m=>xa m) (fun m=>xb _)
theorem plain_told {K N : Nat} {A B : Option Addr} {c c' : Nat} {a b : List Int} {w : World} (Ma Mb : Nat) (hK : K <= 14) (hN : N = 2 ^ K) (ha : UL w A N c a) (hb : UL w B N c' b) (la : L64b a) (lb : L64b b) (hT : TabAt 2 Lib.deBruijn64tab w)
  (xa : ∀ m,(a.getD m 0).natAbs <= Ma) (xb : ∀ m,(b.getD m 0).natAbs <= Mb) (hs : N * (Ma * Mb) < 9223372036854775808) :
  Calls Tryz.prog 13 #[.slice A N c,.slice B N c'] w (ToldPost N (tabL N (cvI a b N)) w):=by
 refine (rplainly_any K N A B c c' a b w hK hN ha hb la lb hT).mono ?_
 rintro e w' (⟨_,g,h1,h2,h3⟩ | ⟨⟨j,_,h1⟩,_⟩)
 ·exact ⟨g,h1,h2,h3⟩
 ·have:=cv_abs (n:=N) j xa xb
  unfold sumB at h1
  have:=of_decide_eq_false h1
  omega
end
section
open Go.RowKit
def St (L : List (Nat × List Int)) (N : Nat) (W w : World) : Prop :=
 (∀ p ∈ L,LRow w W.heap.size p.1 N p.2) /\ (L.map Prod.fst).Nodup /\ RWd An.PI W /\ Below W.heap.size W w
theorem St.u {L : List (Nat × List Int)} {N : Nat} {W w : World} (S : St L N W w) {g : Nat} {l : List Int} (h : (g,l) ∈ L) : UL w (some ⟨g,0,none⟩) N N l:=(S.1 _ h).u
theorem St.rwd {L : List (Nat × List Int)} {N : Nat} {W w : World} (S : St L N W w) : RWd An.PI w:=S.2.2.1.below S.2.2.2
theorem St.step {L : List (Nat × List Int)} {N : Nat} {W w w' : World} (S : St L N W w) (hb : Below w.heap.size w w') : St L N W w' :=
 ⟨fun p hp=>RowV.below (S.1 p hp) hb,S.2.1,S.2.2.1,S.2.2.2.trans (hb.mono S.2.2.2.size)⟩
theorem St.new {L : List (Nat × List Int)} {N g : Nat} {l : List Int} {W w w' : World} (S : St L N W w) (hr : LRow w' w.heap.size g N l) (hb : Below w.heap.size w w') : St ((g,l) :: L) N W w':=by
 obtain ⟨h1,h2,h3,h4⟩:=S.step hb
 refine ⟨fun p hp=>?_,?_,h3,h4⟩
 ·rcases List.mem_cons.1 hp with rfl | hp
  ·exact RowV.base hr (Nat.le_trans S.2.2.2.size (RowV.lt hr).1)
  ·exact h1 p hp
 ·rw [List.map_cons,List.nodup_cons]
  refine ⟨fun hm=>?_,h2⟩
  obtain ⟨p,hp,e⟩:=List.mem_map.1 hm
  have q1:=(RowV.lt (S.1 p hp)).2
  have q2:=(RowV.lt hr).1
  rw [e] at q1
  omega
theorem St.set {L : List (Nat × List Int)} {N g : Nat} {l : List Int} {W w : World} (S : St ((g,l) :: L) N W w) (k : Nat) (x : Int) : St ((g,l.set k x) :: L) N W (w.setCell ⟨g,k,none⟩ (.int .i64 x)):=by
 obtain ⟨h1,h2,h3,h4⟩:=S
 have hg:=(RowV.lt (h1 _ (List.mem_cons_self ..))).1
 have h2':=h2
 rw [List.map_cons,List.nodup_cons] at h2'
 refine ⟨fun p hp=>?_,h2,h3,h4.setCell (p:=⟨g,k,none⟩) hg _⟩
 rcases List.mem_cons.1 hp with rfl | hp
 ·exact (h1 _ (List.mem_cons_self ..)).set k x
 ·refine RowV.setOther (e':=2) (h1 p (List.mem_cons_of_mem _ hp)) g k _ (fun e=>h2'.1 ?_) hg
  rw [e]
  exact List.mem_map.2 ⟨p,hp,rfl⟩
def Bd (M : Int) (l : List Int) : Prop:=∀ x ∈ l,-M <= x /\ x <= M
theorem Bd.mono {M M' : Int} {l : List Int} (h : Bd M l) (hM : M <= M') : Bd M' l:=fun x hx=>by have:=h x hx; omega
theorem Bd.get {M : Nat} {l : List Int} (h : Bd M l) (m : Nat) : (l.getD m 0).natAbs <= M:=by
 rw [List.getD_eq_getElem?_getD]
 cases e : l[m]? with
 | none=>simp
 | some x=>have:=h x (List.mem_of_getElem? e); show x.natAbs <= M; omega
theorem Bd.tab {M n : Nat} {f : Nat -> Int} (h : ∀ m < n,(f m).natAbs <= M) : Bd M (tabL n f):=fun x hx=>by
 unfold tabL at hx
 obtain ⟨m,hm,rfl⟩:=List.mem_map.1 hx
 have:=h m (List.mem_range.1 hm)
 omega
theorem Bd.l64 {M : Nat} {l : List Int} (h : Bd M l) (hM : M < 9223372036854775808) : L64b l:=fun x hx=>by have:=h x hx; omega
theorem Bd.firsts {M : Nat} {l : List Int} (h : Bd M l) (N : Nat) : Bd M (firsts l N):=fun x hx=>by
 unfold Go.Proofs.YtfpopdneokekiaaGreatDoor.firsts at hx
 rcases List.mem_append.1 hx with h1 | h1
 ·exact h x (List.mem_of_mem_take h1)
 ·have:=(List.mem_replicate.1 h1).2; omega
theorem Bd.sm (l : List Int) : Bd (32767 : Nat) (l.map sm):=fun x hx=>by
 obtain ⟨y,_,rfl⟩:=List.mem_map.1 hx
 have:=sm_le y
 omega
theorem Bd.cv {a b : List Int} {n M M' : Nat} (ha : Bd M a) (hb : Bd M' b) : Bd (n * (M * M') : Nat) (tabL n (cvI a b n)):=Bd.tab (fun m _=>cv_abs m (fun i=>ha.get i) (fun i=>hb.get i))
theorem Bd.turn {a : List Int} {n M : Nat} (k : Nat) (ha : Bd M a) : Bd M (turnL n k a):=Bd.tab (fun m _=>ha.get _)
theorem Bd.add {a b : List Int} {n M M' : Nat} (ha : Bd M a) (hb : Bd M' b) : Bd (M + M' : Nat) (tabL n (fun m=>a.getD m 0 + b.getD m 0)):=Bd.tab (fun m _=>by have:=ha.get m; have:=hb.get m; omega)
def NewT (L : List (Nat × List Int)) (N : Nat) (W : World) (l : List Int) (e : Ending) (w' : World) : Prop:=∃ g,e = .returned (.tuple #[.slice (some ⟨g,0,none⟩) N N,.int .i64 0]) /\ St ((g,l) :: L) N W w'
def NewR (L : List (Nat × List Int)) (N : Nat) (W : World) (l : List Int) (e : Ending) (w' : World) : Prop:=∃ g,e = .returned (.slice (some ⟨g,0,none⟩) N N) /\ St ((g,l) :: L) N W w'
theorem cyc_st {L : List (Nat × List Int)} {N K g1 g2 : Nat} {a b : List Int} {W w : World} (hK : K <= 6) (hN : N = 2 ^ K) (S : St L N W w) (h1 : (g1,a) ∈ L) (h2 : (g2,b) ∈ L) (ba : Bd (32767 : Nat) a) (bb : Bd (65534 : Nat) b) :
  Calls Tryz.prog 19 #[.slice (some ⟨g1,0,none⟩) N N,.slice (some ⟨g2,0,none⟩) N N] w (NewT L N W (tabL N (cvI a b N))):=by
 refine (cyc_told 32767 65534 (k:=8) (by omega) (show K <= 8 by omega) hN (S.u h1) (S.u h2) S.rwd wheels8 (by omega) (by omega) (by omega) (by omega) ba bb (small_orders ⟨K,by omega⟩)).mono ?_
 rintro e w' ⟨g,h3,h4,h5⟩
 exact ⟨g,h3,S.new h4 h5⟩
theorem pln_st {L : List (Nat × List Int)} {N K g1 g2 Ma Mb : Nat} {a b : List Int} {W w : World} (hK : K <= 6) (hN : N = 2 ^ K) (S : St L N W w) (h1 : (g1,a) ∈ L) (h2 : (g2,b) ∈ L) (ba : Bd Ma a) (bb : Bd Mb b) (hM : Ma < 9223372036854775808) (hM' : Mb < 9223372036854775808) (hs : 64 * (Ma * Mb) < 9223372036854775808) :
  Calls Tryz.prog 13 #[.slice (some ⟨g1,0,none⟩) N N,.slice (some ⟨g2,0,none⟩) N N] w (NewT L N W (tabL N (cvI a b N))):=by
 have h6 : N <= 64:=by rw [hN]; exact Nat.pow_le_pow_right (n:=2) (by decide) hK
 refine (plain_told (K:=K) Ma Mb (by omega) hN (S.u h1) (S.u h2) (ba.l64 hM) (bb.l64 hM') S.rwd.aw.tab (fun m=>ba.get m) (fun m=>bb.get m) (Nat.lt_of_le_of_lt (Nat.mul_le_mul_right _ h6) hs)).mono ?_
 rintro e w' ⟨g,h3,h4,h5⟩
 exact ⟨g,h3,S.new h4 h5⟩
theorem plus_st {L : List (Nat × List Int)} {N g1 g2 Ma Mb : Nat} {a b : List Int} {W w : World} (hN : N <= 16384) (S : St L N W w) (h1 : (g1,a) ∈ L) (h2 : (g2,b) ∈ L) (ba : Bd Ma a) (bb : Bd Mb b) (hs : Ma + Mb < 9223372036854775808) :
  Calls Tryz.prog 22 #[.slice (some ⟨g1,0,none⟩) N N,.slice (some ⟨g2,0,none⟩) N N] w (NewR L N W (tabL N (fun m=>a.getD m 0 + b.getD m 0))):=by
 refine (rlplus_any _ _ N N N a b w hN (S.u h1) (S.u h2) (fun m=>by have:=ba.get m; have:=bb.get m; omega)).mono ?_
 rintro e w' ⟨g,h3,h4,h5⟩
 exact ⟨g,h3,S.new h4 h5⟩
theorem turn_st {L : List (Nat × List Int)} {N g1 k : Nat} {a : List Int} {W w : World} (hN : N <= 16384) (hk : k < N) (S : St L N W w) (h1 : (g1,a) ∈ L) :
  Calls Tryz.prog 23 #[.slice (some ⟨g1,0,none⟩) N N,.int .i64 k] w (NewR L N W (turnL N k a)):=by
 refine (turned_row _ N N k a w hN hk (S.u h1)).mono ?_
 rintro e w' ⟨g,h3,h4,h5⟩
 exact ⟨g,h3,S.new h4 h5⟩
theorem same_st {L : List (Nat × List Int)} {N g1 g2 : Nat} {a b : List Int} {W w : World} (hN : N <= 16384) (S : St L N W w) (h1 : (g1,a) ∈ L) (h2 : (g2,b) ∈ L) (hab : a = b) :
  Calls Tryz.prog 15 #[.slice (some ⟨g1,0,none⟩) N N,.slice (some ⟨g2,0,none⟩) N N] w (fun e w'=>e = .returned (.bool true) /\ St L N W w'):=by
 subst hab
 refine (same_longs _ N N _ N a w (by omega) (S.u h1) (S.u h2)).mono ?_
 rintro e w' ⟨h3,h4⟩
 exact ⟨h3,S.step h4⟩
end
section
open Go.RowKit
theorem one_get {N k m : Nat} (hk : k < N) (hm : m < N) : ((List.replicate N (0 : Int)).set k 1).getD m 0 = if m = k then 1 else 0:=by
 rw [List.getD_eq_getElem?_getD]
 by_cases h : m = k
 ·subst h
  rw [List.getElem?_set_self (by simpa using hk),if_pos rfl]; rfl
 ·rw [List.getElem?_set_ne (fun e=>h e.symm),if_neg h]
  simp [hm]
theorem one_bd (N k : Nat) : Bd (32767 : Nat) ((List.replicate N (0 : Int)).set k 1):=fun x hx=>by
 rcases List.mem_or_eq_of_mem_set hx with h | h
 ·have:=(List.mem_replicate.1 h).2; omega
 ·omega
set_option maxRecDepth 100000 in
set_option maxHeartbeats 4000000 in
theorem ringLaws_walk (W : World) (A : Option Addr) (n c : Nat) (a : List Int) (B : Option Addr) (n' c' : Nat) (b : List Int) (C : Option Addr) (n'' c'' : Nat) (d : List Int) (q : Int) (hn : n <= 20000000000000) (hn' : n' <= 20000000000000) (hn'' : n'' <= 20000000000000) (ha : UL W A n c a) (la : L64 a) (hb : UL W B n' c' b) (lb : L64 b) (hc : UL W C n'' c'' d) (lc : L64 d) (hq : (Lit.int .i64 q).wf = true) (hR : RWd An.PI W) :
  Calls Tryz.prog 5 #[.slice A n c,.slice B n' c',.slice C n'' c'',.int .i64 q] W fun e w'=>e = .returned (.bool true) /\ Below W.heap.size W w':=by
 obtain ⟨i0,hi0,hz0,hz1,hz2⟩:=info_parts i64_info
 have hsz1 : (Tryz.prog.info? 2).map (·.size) = some 1:=by kernel_rfl
 have HQ : Hid (-9223372036854775808 <= q /\ q <= 9223372036854775807):=Hd (by
  simp [Lit.wf,IntKind.min,IntKind.max,IntKind.signed,IntKind.bits] at hq
  omega)
 have HA:=Hd ha
 have HB:=Hd hb
 have HC:=Hd hc
 have HRW:=Hd hR
 have HAW:=Hd (rawake_any W hR)
 clear ha hb hc hR la lb lc hq
 go_enter Tryz.func5,Tryz.ntmps5
 go_wp2_with fail
 refine HAW.out.mono ?_
 rintro e w1 ⟨rfl,b1⟩
 have B1:=Hd b1
 have C1:=Hd (small_any A n c a w1 hn (HA.out.below b1))
 clear b1 HAW
 go_wp2_with fail
 refine C1.out.mono ?_
 rintro e w2 ⟨g1,rfl,r1,b2⟩
 have R1:=Hd r1.u
 have B2:=Hd (B1.out.trans (b2.mono B1.out.size))
 have C2:=Hd (small_any B n' c' b w2 hn' (HB.out.below B2.out))
 clear r1 b2 C1 B1
 go_wp2_with fail
 refine C2.out.mono ?_
 rintro e w3 ⟨g2,rfl,r2,b3⟩
 have B3:=Hd (B2.out.trans (b3.mono B2.out.size))
 have C3:=Hd (fit_rows (some ⟨g1,0,none⟩) (some ⟨g2,0,none⟩) n n n' n' 6 (a.map sm) (b.map sm) w3 (by omega) hn hn' (R1.out.below b3) r2.u)
 clear r2 b3 C2 B2 R1
 go_wp2_with fail
 refine C3.out.mono ?_
 intro e w4 h4
 unfold FitP at h4
 obtain ⟨K,N,gx,gy,hK,hN,rfl,hx,hy,hne,b4⟩:=h4
 have hNle : N <= 64:=by rw [hN]; exact Nat.pow_le_pow_right (n:=2) (by decide) hK
 have hNpos : 1 <= N:=by rw [hN]; exact Nat.two_pow_pos K
 have HKN : Hid (K <= 6 /\ N = 2 ^ K):=Hd ⟨hK,hN⟩
 have B4:=Hd (B3.out.trans (b4.mono B3.out.size))
 have S4 : Hid (St [(gy,firsts (b.map sm) N),(gx,firsts (a.map sm) N)] N W w4):=Hd (by
  refine ⟨fun p hp=>?_,?_,HRW.out,B4.out⟩
  ·rcases List.mem_cons.1 hp with rfl | hp
   ·exact RowV.base hy (Nat.le_trans B3.out.size (RowV.lt hy).1)
   ·rcases List.mem_singleton.1 hp with rfl
    exact RowV.base hx (Nat.le_trans B3.out.size (RowV.lt hx).1)
  ·simp only [List.map_cons,List.map_nil,List.nodup_cons,List.mem_singleton,List.not_mem_nil,not_false_eq_true,List.nodup_nil,and_true]
   exact fun e=>hne e.symm)
 have HX:=Hd ((Bd.sm a).firsts N)
 have HY:=Hd ((Bd.sm b).firsts N)
 have HC4:=Hd (HC.out.below B4.out)
 obtain ⟨x,hxe⟩ : ∃ x,x = firsts (a.map sm) N:=⟨_,rfl⟩
 obtain ⟨y,hye⟩ : ∃ y,y = firsts (b.map sm) N:=⟨_,rfl⟩
 rw [<- hxe,<- hye] at S4
 rw [<- hxe] at HX
 rw [<- hye] at HY
 clear hxe hye hx hy hne b4 C3 B3 hK hN HA HB HC B4 HRW
 go_wp2_with (refine wpList_make_full _ rfl (.tmp 45) (.tmp 45) 22 rfl w4.heap.size 2 i0 _ 1 Tryz.underlying22 hi0 hz0 hz1 .i64 .i64 _ _ N rfl rfl (by omega) (by omega) (by rw [hz2]; omega) (by simp only [maxLen]; omega) (Nat.le_refl _) ?_; intro w5 hown5 hg5; have b5:=(Below.refl w4.heap.size w4).grown hg5 (Nat.le_refl _) (fun k hk=>by cases hk); have HB5:=Hd b5; have ROW5:=Hd (LRow.made hown5); have C5:=Hd (small_any C n'' c'' d w5 hn'' (HC4.out.below b5)); clear hown5 hg5 b5)
 obtain ⟨gz,hgz⟩ : ∃ gz,gz = w4.heap.size:=⟨_,rfl⟩
 have ROW6 : Hid (LRow w5 w4.heap.size gz N (List.replicate N 0)):=Hd (by rw [hgz]; exact ROW5.out)
 have hgzb : w4.heap.size <= gz:=by omega
 rw [<- hgz]
 clear ROW5 hgz
 refine C5.out.mono ?_
 rintro e w6 ⟨gs,rfl,r6,b6⟩
 have HB6:=Hd (HB5.out.trans (b6.mono HB5.out.size))
 have hcz:=LRow.heap (RowV.below ROW6.out b6)
 have hsrc:=r6.u.src N gz
 have hlz : (((d.map sm).take N).map (Value.int .i64)).length = Nat.min n'' N:=by rw [List.length_map,List.length_take,LRow.len r6]; exact Nat.min_comm _ _
 have hfz : 0 + (((d.map sm).take N).map (Value.int .i64)).length <= ((List.replicate N (0 : Int)).map (Value.int .i64)).length:=by simp; omega
 have hoz : ∀ v ∈ ((d.map sm).take N).map (Value.int .i64),v.oneCell' = true:=fun v hv=>by obtain ⟨z,_,rfl⟩:=List.mem_map.1 hv; rfl
 have HFZ:=Hd (firsts_splice (d.map sm) N)
 obtain ⟨Y,hY⟩ : ∃ Y,Y = (List.replicate N (0 : Int)).map (Value.int .i64):=⟨_,rfl⟩
 rw [<- hY] at hcz hfz HFZ
 obtain ⟨X,hX⟩ : ∃ X,X = ((d.map sm).take N).map (Value.int .i64):=⟨_,rfl⟩
 rw [<- hX] at hsrc hlz hfz hoz HFZ
 have HZ:=Hd ((Bd.sm d).firsts N)
 have HSRC:=Hd hsrc
 clear hsrc
 clear hY hX r6 b6 C5 HC4 HB5 ROW6
 go_wp2_with (first
  | (refine wpList_copy_more (o:=⟨some 50,_,_,_,_,_⟩) rfl (.tmp 47) (.tmp 49) 22 22 rfl 2 Tryz.underlying22 hsz1 (some ⟨gz,0,none⟩) (some ⟨gs,0,none⟩) N N n'' n'' rfl rfl gz 0 Y _ hcz X hlz (fun h0=>⟨rfl,(HSRC.out h0).2⟩) hfz hoz w4.heap.size w4 HB6.out hgzb ?_; intro w7 H7 K7 b7; have B7:=Hd b7; clear hcz hlz hfz hoz K7 b7)
  | (refine wpList_make_full _ rfl (.tmp 51) (.tmp 51) 22 rfl w7.heap.size 2 i0 _ 1 Tryz.underlying22 hi0 hz0 hz1 .i64 .i64 _ _ N rfl rfl (by omega) (by omega) (by rw [hz2]; omega) (by simp only [maxLen]; omega) (Nat.le_refl _) ?_; intro w8 hown8 hg8; have HB8:=Hd ((Below.refl w7.heap.size w7).grown hg8 (Nat.le_refl _) (fun k hk=>by cases hk)); have ROW8:=Hd (LRow.made hown8); clear hown8 hg8))
 have S7 : Hid (St ((gz,firsts (d.map sm) N) :: [(gy,y),(gx,x)]) N W w7):=Hd (by
  have e1:=H7.out
  rw [HFZ.out] at e1
  exact S4.out.new (LRow.ofHeap hgzb (firsts_len _ N) (by simp only [maxLen]; omega) e1) B7.out)
 obtain ⟨z,hze⟩ : ∃ z,z = firsts (d.map sm) N:=⟨_,rfl⟩
 rw [<- hze] at S7 HZ
 have S8:=Hd (S7.out.new ROW8.out HB8.out)
 obtain ⟨go,hgo⟩ : ∃ go,go = w7.heap.size:=⟨_,rfl⟩
 rw [<- hgo] at S8
 rw [<- hgo]
 clear hze hgo S7 ROW8 HB8 B7 H7 HFZ S4 HB6 hgzb
 have CP:=Hd (pick_any q N w8 (by omega) (by omega) HQ.out.1 HQ.out.2)
 refine CP.out.mono ?_
 rintro e w9 ⟨k,rfl,hk,rfl⟩
 have hkN : k < N:=by omega
 have d3:=(S8.out.1 _ (List.mem_cons_self ..)).cell k 0 (by simp [hkN])
 have hfr:=(S8.out.1 _ (List.mem_cons_self ..)).free k
 have S9:=Hd (S8.out.set k 1)
 have HO:=Hd (one_bd N k)
 have HOG:=Hd (fun m (hm : m < N)=>one_get (N:=N) (k:=k) hkN hm)
 obtain ⟨one,hone⟩ : ∃ one,one = (List.replicate N (0 : Int)).set k 1:=⟨_,rfl⟩
 rw [<- hone] at S9 HO HOG
 clear hone CP HQ
 go_wp2_with fail
 clear d3 hfr S8
 have CC:=Hd (cyc_st HKN.out.1 HKN.out.2 S9.out (List.mem_of_getElem? (i:=3) rfl) (List.mem_of_getElem? (i:=2) rfl) (HX.out) (Bd.mono (HY.out) (by omega)))
 refine CC.out.mono ?_
 rintro e w10 ⟨g10,rfl,s10⟩
 have S10:=Hd s10
 clear s10 CC S9
 go_wp2_with fail
 have CC:=Hd (cyc_st HKN.out.1 HKN.out.2 S10.out (List.mem_of_getElem? (i:=3) rfl) (List.mem_of_getElem? (i:=4) rfl) (HY.out) (Bd.mono (HX.out) (by omega)))
 refine CC.out.mono ?_
 rintro e w11 ⟨g11,rfl,s11⟩
 have S11:=Hd s11
 clear s11 CC S10
 go_wp2_with fail
 have CC:=Hd (cyc_st HKN.out.1 HKN.out.2 S11.out (List.mem_of_getElem? (i:=5) rfl) (List.mem_of_getElem? (i:=3) rfl) (HX.out) (Bd.mono (HZ.out) (by omega)))
 refine CC.out.mono ?_
 rintro e w12 ⟨g12,rfl,s12⟩
 have S12:=Hd s12
 clear s12 CC S11
 go_wp2_with fail
 have CC:=Hd (plus_st (by omega) S12.out (List.mem_of_getElem? (i:=5) rfl) (List.mem_of_getElem? (i:=4) rfl) (HY.out) (HZ.out) (by omega))
 refine CC.out.mono ?_
 rintro e w13 ⟨g13,rfl,s13⟩
 have S13:=Hd s13
 clear s13 CC S12
 go_wp2_with fail
 have CC:=Hd (cyc_st HKN.out.1 HKN.out.2 S13.out (List.mem_of_getElem? (i:=7) rfl) (List.mem_of_getElem? (i:=0) rfl) (HX.out) (Bd.mono ((Bd.add (n:=N) (HY.out) (HZ.out))) (by omega)))
 refine CC.out.mono ?_
 rintro e w14 ⟨g14,rfl,s14⟩
 have S14:=Hd s14
 clear s14 CC S13
 go_wp2_with fail
 have CC:=Hd (turn_st (by omega) hkN S14.out (List.mem_of_getElem? (i:=8) rfl))
 refine CC.out.mono ?_
 rintro e w15 ⟨g15,rfl,s15⟩
 have S15:=Hd s15
 clear s15 CC S14
 go_wp2_with fail
 have CC:=Hd (cyc_st HKN.out.1 HKN.out.2 S15.out (List.mem_of_getElem? (i:=0) rfl) (List.mem_of_getElem? (i:=8) rfl) ((Bd.turn (n:=N) k (HX.out))) (Bd.mono (HY.out) (by omega)))
 refine CC.out.mono ?_
 rintro e w16 ⟨g16,rfl,s16⟩
 have S16:=Hd s16
 clear s16 CC S15
 go_wp2_with fail
 have CC:=Hd (cyc_st HKN.out.1 HKN.out.2 S16.out (List.mem_of_getElem? (i:=7) rfl) (List.mem_of_getElem? (i:=10) rfl) (HO.out) (Bd.mono (HX.out) (by omega)))
 refine CC.out.mono ?_
 rintro e w17 ⟨g17,rfl,s17⟩
 have S17:=Hd s17
 clear s17 CC S16
 go_wp2_with fail
 have CC:=Hd (same_st (by omega) S17.out (List.mem_of_getElem? (i:=7) rfl) (List.mem_of_getElem? (i:=6) rfl) (tabL_eq (fun m hm=>cv_comm hm x y)))
 refine CC.out.mono ?_
 rintro e w18 ⟨rfl,s18⟩
 have S18:=Hd s18
 clear s18 CC S17
 go_wp2_with fail
 have CC:=Hd (plus_st (by omega) S18.out (List.mem_of_getElem? (i:=7) rfl) (List.mem_of_getElem? (i:=5) rfl) ((Bd.mono (Bd.cv (n:=N) (HX.out) (HY.out)) (show ((N * (32767 * 32767) : Nat) : Int) <= ((68715282496 : Nat) : Int) by omega))) ((Bd.mono (Bd.cv (n:=N) (HX.out) (HZ.out)) (show ((N * (32767 * 32767) : Nat) : Int) <= ((68715282496 : Nat) : Int) by omega))) (by omega))
 refine CC.out.mono ?_
 rintro e w19 ⟨g19,rfl,s19⟩
 have S19:=Hd s19
 clear s19 CC S18
 go_wp2_with fail
 have CC:=Hd (same_st (by omega) S19.out (List.mem_of_getElem? (i:=4) rfl) (List.mem_of_getElem? (i:=0) rfl) (tabL_eq (fun m hm=>by rw [cv_add N m x y z _ (fun i hi=>tabL_get _ hi) (by omega),tabL_get _ hm,tabL_get _ hm])))
 refine CC.out.mono ?_
 rintro e w20 ⟨rfl,s20⟩
 have S20:=Hd s20
 clear s20 CC S19
 go_wp2_with fail
 have CC:=Hd (turn_st (by omega) hkN S20.out (List.mem_of_getElem? (i:=8) rfl))
 refine CC.out.mono ?_
 rintro e w21 ⟨g21,rfl,s21⟩
 have S21:=Hd s21
 clear s21 CC S20
 go_wp2_with fail
 have CC:=Hd (same_st (by omega) S21.out (List.mem_of_getElem? (i:=3) rfl) (List.mem_of_getElem? (i:=0) rfl) (tabL_eq (fun m hm=>by rw [cv_turn hm hkN,tabL_get _ (Nat.mod_lt _ (by omega))])))
 refine CC.out.mono ?_
 rintro e w22 ⟨rfl,s22⟩
 have S22:=Hd s22
 clear s22 CC S21
 go_wp2_with fail
 have CC:=Hd (turn_st (by omega) hkN S22.out (List.mem_of_getElem? (i:=13) rfl))
 refine CC.out.mono ?_
 rintro e w23 ⟨g23,rfl,s23⟩
 have S23:=Hd s23
 clear s23 CC S22
 go_wp2_with fail
 have CC:=Hd (same_st (by omega) S23.out (List.mem_of_getElem? (i:=3) rfl) (List.mem_of_getElem? (i:=0) rfl) (tabL_eq (fun m hm=>cv_one hkN one x HOG.out)))
 refine CC.out.mono ?_
 rintro e w24 ⟨rfl,s24⟩
 have S24:=Hd s24
 clear s24 CC S23
 go_wp2_with fail
 have CC:=Hd (pln_st HKN.out.1 HKN.out.2 S24.out (List.mem_of_getElem? (i:=10) rfl) (List.mem_of_getElem? (i:=12) rfl) ((Bd.mono (Bd.cv (n:=N) (HX.out) (HY.out)) (show ((N * (32767 * 32767) : Nat) : Int) <= ((68715282496 : Nat) : Int) by omega))) (HZ.out) (by omega) (by omega) (by omega))
 refine CC.out.mono ?_
 rintro e w25 ⟨g25,rfl,s25⟩
 have S25:=Hd s25
 clear s25 CC S24
 go_wp2_with fail
 have CC:=Hd (pln_st HKN.out.1 HKN.out.2 S25.out (List.mem_of_getElem? (i:=14) rfl) (List.mem_of_getElem? (i:=13) rfl) (HY.out) (HZ.out) (by omega) (by omega) (by omega))
 refine CC.out.mono ?_
 rintro e w26 ⟨g26,rfl,s26⟩
 have S26:=Hd s26
 clear s26 CC S25
 go_wp2_with fail
 have CC:=Hd (pln_st HKN.out.1 HKN.out.2 S26.out (List.mem_of_getElem? (i:=16) rfl) (List.mem_of_getElem? (i:=0) rfl) (HX.out) ((Bd.mono (Bd.cv (n:=N) (HY.out) (HZ.out)) (show ((N * (32767 * 32767) : Nat) : Int) <= ((68715282496 : Nat) : Int) by omega))) (by omega) (by omega) (by omega))
 refine CC.out.mono ?_
 rintro e w27 ⟨g27,rfl,s27⟩
 have S27:=Hd s27
 clear s27 CC S26
 go_wp2_with fail
 have CC:=Hd (same_st (by omega) S27.out (List.mem_of_getElem? (i:=2) rfl) (List.mem_of_getElem? (i:=0) rfl) (tabL_eq (fun m hm=>cv_assoc hm x y z)))
 refine CC.out.mono ?_
 rintro e w28 ⟨rfl,s28⟩
 have S28:=Hd s28
 clear s28 CC S27
 go_wp2_with fail
 go_ret
 exact ⟨rfl,S28.out.2.2.2⟩
end
section
open Go.ChangeShapes Go.WideShapes Go.ChangeAt Go.RowKit
namespace ringLaws
theorem own : ownKnob Tryz.prog.godebug = none:=by kernel_rfl
set_option maxRecDepth 100000 in
theorem contract (H : Type) (enc : TypeId × Value -> H) (W : World) (base : Nat) (args : Array Value) (ds gs : List (DataW H)) (before : List MemPlace)
  (hval0 : ∀ (j : Nat) t v,Tryz.f5.params[j]? = some t -> args[j]? = some v -> Value.okWide Tryz.prog W .any base t v)
  (hW : DataW.Whole enc Tryz.prog Tryz.f5.params.toList Rows.ringLawsSpec.vars false W args.toList ds gs before)
  (hz : (DataW.weightsEach Tryz.prog (Tryz.f5.params.toList ++ (OpenSpec.ofChange Rows.ringLawsSpec).bare.plain.varTypes Tryz.prog) (ds ++ gs)).all (· <= reachBytes) = true) (hL : laidMetH Tryz.prog Rows.ringLawsRow.laid W) :
  Calls Tryz.prog 5 args W fun e W'=>∃ v,e = .returned v /\ Rows.ringLawsSpec.post enc Tryz.prog Tryz.f5 false true false false W args v W':=by
 have hval : ∀ (j : Nat) t v,Tryz.f5.params[j]? = some t -> args[j]? = some v -> Value.okWide Tryz.prog W .any base t v:=hval0
 have hW':=hW
 obtain ⟨p,q,hA0,hV,rfl,hfz,hnd⟩:=hW
 have hA : DataW.TrodAll enc Tryz.prog W 0 (fun _=>true) true Tryz.f5.params.toList args.toList ds p:=hA0
 rw [Tryz.params5] at hA hval
 have hts : (Tryz.f5.params.toList ++ (OpenSpec.ofChange Rows.ringLawsSpec).bare.plain.varTypes Tryz.prog) = [22,22,22,3]:=by kernel_rfl
 rw [hts] at hz
 obtain ⟨v0,vs0,d0,ds0,p0,q0,hargs,rfl,rfl,h0,r0⟩:=trodAll_cons hA
 obtain ⟨v1,vs1,d1,ds1,p1,q1,rfl,rfl,rfl,h1,r1⟩:=trodAll_cons r0
 obtain ⟨v2,vs2,d2,ds2,p2,q2,rfl,rfl,rfl,h2,r2⟩:=trodAll_cons r1
 obtain ⟨v3,vs3,d3,ds3,p3,q3,rfl,rfl,rfl,h3,r3⟩:=trodAll_cons r2
 obtain ⟨rfl,rfl,rfl⟩:=trodAll_nil r3
 obtain rfl : args = #[v0,v1,v2,v3]:=by cases args; simp_all
 obtain ⟨rfl,rfl⟩:=trodVars_none hV
 obtain ⟨a3,rfl,rfl,rfl,w3⟩:=open_int Tryz.underlying3 (hval 3 3 v3 rfl rfl) h3
 obtain ⟨a0,n0,c0,z0,rfl,w0,l0,_⟩:=in_longs Tryz.underlying22 Tryz.underlying2 (by kernel_rfl) (hval 0 22 v0 rfl rfl) h0
 have b0:=long_bound (j:=0) (t:=22) (e:=2) hz rfl rfl Tryz.underlying22 (by kernel_rfl) (long_size Tryz.underlying22 (by kernel_rfl) h0)
 obtain ⟨a1,n1,c1,z1,rfl,w1,l1,_⟩:=in_longs Tryz.underlying22 Tryz.underlying2 (by kernel_rfl) (hval 1 22 v1 rfl rfl) h1
 have b1:=long_bound (j:=1) (t:=22) (e:=2) hz rfl rfl Tryz.underlying22 (by kernel_rfl) (long_size Tryz.underlying22 (by kernel_rfl) h1)
 obtain ⟨a2,n2,c2,z2,rfl,w2,l2,_⟩:=in_longs Tryz.underlying22 Tryz.underlying2 (by kernel_rfl) (hval 2 22 v2 rfl rfl) h2
 have b2:=long_bound (j:=2) (t:=22) (e:=2) hz rfl rfl Tryz.underlying22 (by kernel_rfl) (long_size Tryz.underlying22 (by kernel_rfl) h2)
 have hR : RWd An.PI W:=rwd_laid hL
 clear hA0 hval0 hz hL
 simp only [List.append_nil,List.nil_append] at hW'
 refine (ringLaws_walk W a0 n0 c0 z0 a1 n1 c1 z1 a2 n2 c2 z2 a3 b0 b1 b2 w0 l0 w1 l1 w2 l2 w3 hR).mono fun e W' ⟨he,hg⟩=>?_
 subst he
 exact ⟨_,rfl,post_of_below (pv:=[]) hW' (fun _ _ _=>(trodAll_cons_mk (shut_bool Tryz.underlying4 _) trodAll_mk0)) (fun sp hsp=>(trodAll_cons_mk (WideElems.Trod_stays (by kernel_rfl) (by kernel_rfl) (of_decide_eq_true (by kernel_rfl)) h0 (fun x hx=>hg.same (hW'.lt x (by simp [hx]))) (fun x hx=>hsp x (by simp [hx]))) (trodAll_cons_mk (WideElems.Trod_stays (by kernel_rfl) (by kernel_rfl) (of_decide_eq_true (by kernel_rfl)) h1 (fun x hx=>hg.same (hW'.lt x (by simp [hx]))) (fun x hx=>hsp x (by simp [hx]))) (trodAll_cons_mk (WideElems.Trod_stays (by kernel_rfl) (by kernel_rfl) (of_decide_eq_true (by kernel_rfl)) h2 (fun x hx=>hg.same (hW'.lt x (by simp [hx]))) (fun x hx=>hsp x (by simp [hx]))) (trodAll_cons_mk (shut_int Tryz.underlying3 w3) trodAll_mk0))))) (fun _ _=>rfl) (by simp)
  hg (ok_one (by kernel_rfl) rfl (okWide_bool_mk Tryz.underlying4 _))⟩
def lay (zs : List Nat) : Obj -> Obj
 | .cells _ t frozen=>.cells (zs.map fun (x : Nat)=>Value.int .u8 (Int.ofNat x)).toArray t frozen
 | o=>o
noncomputable def laidWorld (os : Os) : World :=
 { World.holding Tryz.prog os ⟨#[],#[],[]⟩ with heap:=(((World.holding Tryz.prog os ⟨#[],#[],[]⟩).heap.modify 1 (lay [0,1,28,2,29,14,24,3,30,22,20,15,25,17,4,8,31,27,13,23,21,19,16,7,26,12,18,6,11,5,10,9])).modify 2 (lay Lib.deBruijn64tab)).modify 3 (lay nibT) }
theorem laid_met (os : Os) : laidMet Tryz.prog Rows.ringLawsRow.laid ((laidWorld os).forCall (fun _ _=>0) ⟨#[],#[.slice none 0 0,.slice none 0 0,.slice none 0 0,.int .i64 0],[]⟩).memory :=
 laidMet_of_run' 8 (by kernel_rfl) (by kernel_rfl)
theorem reads (os : Os) {H : Type} (enc : TypeId × Value -> H) : ∃ places,DataW.whole enc Tryz.prog ((laidWorld os).forCall (fun _ _=>0) ⟨#[],#[.slice none 0 0,.slice none 0 0,.slice none 0 0,.int .i64 0],[]⟩).memory Tryz.f5.params.toList Rows.ringLawsSpec.vars false (#[.slice none 0 0,.slice none 0 0,.slice none 0 0,.int .i64 0] : Array Value).toList 8 = some ([.nil,.nil,.nil,.lit (.int .i64 0)],[],places) :=
 ⟨[],by kernel_rfl⟩
set_option maxRecDepth 100000 in
theorem lifted (os : Os) (started : os.Started) (H : Type) (enc : TypeId × Value -> H) (F : Stop.Interp) :
  ReturnsInHanded {} Tryz.checked os 5 .any ((OpenSpec.ofChange Rows.ringLawsSpec).preRow enc Tryz.prog Tryz.f5 Rows.ringLawsRow.domain false Rows.ringLawsRow.laid) (((OpenSpec.ofChange Rows.ringLawsSpec).at F).post enc Tryz.prog Tryz.f5 false true false false):=by
 obtain ⟨places,hx⟩:=reads os enc
 refine returnsInHanded_of_row (C:=Tryz.checked) (s:=OpenSpec.ofChange Rows.ringLawsSpec) own started (by kernel_rfl) Tryz.func5
  (witness_row_at (enc:=enc) (C:=Tryz.checked) false (laidWorld os) #[.slice none 0 0,.slice none 0 0,.slice none 0 0,.int .i64 0] rfl (by kernel_rfl) (by kernel_rfl) (by kernel_rfl)
   (OpenSpec.preRow_of_cond 8 hx (by kernel_rfl) (fun k hk=>by cases hk) (by kernel_rfl) (laid_met os))) ?_
 intro W base args ds gs before hval hW _ _ hz hL _ _
 exact contract H enc W base args ds gs before hval hW hz hL
theorem said : Rows.RingLawsSaid :=
 OpenClaim.holds_of_cond 5 Tryz.f5 rfl rfl rfl rfl rfl rfl rfl ⟨rfl,rfl,rfl,rfl,rfl⟩ rfl rfl rfl rfl rfl (by kernel_rfl) Tryz.func5 (by kernel_rfl)
  (of_decide_eq_true (by kernel_rfl)) (by unfold Func.isWrapper; first | (rw [if_pos (by decide +kernel)]; kernel_rfl) | (rw [if_neg (by decide +kernel)]; exact ⟨rfl,rfl⟩))
  (fun os started H enc _ F=>by rw [OpenClaim.pre_eq_preRow]; exact lifted os started H enc F)
theorem plain (f : FuncId) (fn : Func) (hf : Tryz.pinned.checked.prog.funcNamed "rosette/rosettelaw11.RingLaws" = some f) (hfn : Tryz.pinned.checked.prog.funcs[f]? = some fn) :
  false = Tryz.pinned.checked.prog.looks [] /\ ∀ (j : Nat) t,fn.params[j]? = some t -> Tryz.pinned.checked.prog.wantsStandIn t = false:=by
 obtain rfl : f = 5 := Option.some.inj ((show Tryz.prog.funcNamed "rosette/rosettelaw11.RingLaws" = some 5 by kernel_rfl).symm.trans hf) |>.symm
 obtain rfl : fn = Tryz.f5:=(Option.some.inj (Tryz.func5.symm.trans hfn)).symm
 refine ⟨by kernel_rfl,fun j t ht=>?_⟩
 rw [Tryz.params5] at ht
 have hm:=Array.mem_of_getElem? ht
 have hor : t = 22 \/ t = 3:=by simp at hm; omega
 rcases hor with rfl | rfl
 ·exact (show Tryz.prog.wantsStandIn 22 = false by kernel_rfl)
 ·exact (show Tryz.prog.wantsStandIn 3 = false by kernel_rfl)
theorem card : Rows.RingLawsCardSaid :=
 Claim7.holds_tied_plain_at .later [] _ _ _ _ said (fun _ h=>by cases h) (by kernel_rfl) (fun _ h=>by cases h) ringLaws_row_tie rfl ⟨rfl,rfl⟩ (by kernel_rfl) rfl plain (by kernel_rfl)
end ringLaws
theorem ringLaws_holds : Rows.RingLawsCardSaid:=ringLaws.card
end
end Go.Proofs.YtfpopdneokekiaaGreatDoor

/-
Products of rows, place by place, and round products of rows that are long enough.
-/
import Derived.Test.YtnpanpkahbcecaaGreatDoorP40
import Derived.Lib.Hide
set_option linter.unusedVariables false
set_option linter.unusedSimpArgs false
namespace Go.Proofs.YtnpanpkahbcecaaGreatDoor
section
open Go.RowKit Fl
theorem sI_congr {n : Nat} {f g : Nat -> Int} (h : ∀ i < n,f i = g i) : sumI n f = sumI n g:=by
 induction n with
 | zero=>rfl
 | succ n ih=>simp only [sumI]; rw [ih (fun i hi=>h i (by omega)),h n (by omega)]
theorem sI_zero (n : Nat) : sumI n (fun _=>0) = 0:=by
 induction n with
 | zero=>rfl
 | succ n ih=>simp only [sumI]; rw [ih]; rfl
theorem sI_split (a b : Nat) (f : Nat -> Int) : sumI (a + b) f = sumI a f + sumI b (fun i=>f (a + i)):=by
 induction b with
 | zero=>simp [sumI]
 | succ b ih=>rw [<- Nat.add_assoc]; simp only [sumI]; rw [ih]; omega
theorem md {n x : Nat} (h : x < n + n) : (x < n /\ x % n = x) \/ (n <= x /\ x % n = x - n):=by
 by_cases h1 : x < n
 ·exact .inl ⟨h1,Nat.mod_eq_of_lt h1⟩
 ·refine .inr ⟨by omega,?_⟩
  rw [Nat.mod_eq_sub_mod (by omega),Nat.mod_eq_of_lt (by omega)]
theorem cvI_sum (a b : List Int) (n j : Nat) : cvI a b n j = sumI n (fun m=>a.getD m 0 * b.getD ((j + n - m) % n) 0):=by
 unfold cvI; rw [allS_sum]
def tabL (n : Nat) (f : Nat -> Int) : List Int:=(List.range n).map f
theorem tabL_len (n : Nat) (f : Nat -> Int) : (tabL n f).length = n:=by unfold tabL; simp
theorem tabL_at {n m : Nat} (f : Nat -> Int) (hm : m < n) : (tabL n f)[m]? = some (f m):=by
 unfold tabL; rw [List.getElem?_map,List.getElem?_range hm]; rfl
theorem idx {n j p q : Nat} (hj : j < n) (hp : p < n) (hq : q < n) : (j + n - (q + p) % n) % n = ((j + n - p) % n + n - q) % n:=by
 rcases md (n:=n) (x:=q + p) (by omega) with ⟨h1,h2⟩ | ⟨h1,h2⟩ <;>
 rcases md (n:=n) (x:=j + n - p) (by omega) with ⟨h3,h4⟩ | ⟨h3,h4⟩ <;> rw [h2,h4]
 ·rcases md (n:=n) (x:=j + n - (q + p)) (by omega) with ⟨h5,h6⟩ | ⟨h5,h6⟩ <;>
  rcases md (n:=n) (x:=j + n - p + n - q) (by omega) with ⟨h7,h8⟩ | ⟨h7,h8⟩ <;> omega
 ·rcases md (n:=n) (x:=j + n - (q + p)) (by omega) with ⟨h5,h6⟩ | ⟨h5,h6⟩ <;>
  rcases md (n:=n) (x:=j + n - p - n + n - q) (by omega) with ⟨h7,h8⟩ | ⟨h7,h8⟩ <;> omega
 ·rcases md (n:=n) (x:=j + n - (q + p - n)) (by omega) with ⟨h5,h6⟩ | ⟨h5,h6⟩ <;>
  rcases md (n:=n) (x:=j + n - p + n - q) (by omega) with ⟨h7,h8⟩ | ⟨h7,h8⟩ <;> omega
 ·rcases md (n:=n) (x:=j + n - (q + p - n)) (by omega) with ⟨h5,h6⟩ | ⟨h5,h6⟩ <;>
  rcases md (n:=n) (x:=j + n - p - n + n - q) (by omega) with ⟨h7,h8⟩ | ⟨h7,h8⟩ <;> omega
end
section
open Go.RowKit Fl
def pcI (a b : List Int) (i : Nat) : Int:=sumI (i + 1) (fun j=>a.getD j 0 * b.getD (i - j) 0)
theorem getD_past {l : List Int} {m : Nat} (h : l.length <= m) : l.getD m 0 = 0:=by
 rw [List.getD_eq_getElem?_getD,List.getElem?_eq_none h]; rfl
theorem firsts_get {a : List Int} {N : Nat} (h : a.length <= N) (m : Nat) : (firsts a N).getD m 0 = a.getD m 0:=by
 unfold firsts
 rw [List.take_of_length_le h]
 by_cases hm : m < a.length
 ·rw [List.getD_eq_getElem?_getD,List.getD_eq_getElem?_getD,List.getElem?_append_left hm]
 ·rw [getD_past (l:=a) (by omega),List.getD_eq_getElem?_getD,List.getElem?_append_right (by omega),List.getElem?_replicate]
  split <;> rfl
theorem cv_congr {a b a' b' : List Int} {N i : Nat} (hN : 0 < N) (ha : ∀ m < N,a.getD m 0 = a'.getD m 0) (hb : ∀ m < N,b.getD m 0 = b'.getD m 0) : cvI a b N i = cvI a' b' N i:=by
 rw [cvI_sum,cvI_sum]
 exact sI_congr (fun m hm=>by rw [ha m hm,hb _ (Nat.mod_lt _ hN)])
theorem cv_pc {a b : List Int} {N i : Nat} (hab : a.length + b.length <= N + 1) (hi : i < N) : cvI a b N i = pcI a b i:=by
 rw [cvI_sum]
 unfold pcI
 rw [show N = (i + 1) + (N - i - 1) by omega,sI_split,<- show N = (i + 1) + (N - i - 1) by omega]
 have e1 : sumI (i + 1) (fun m=>a.getD m 0 * b.getD ((i + N - m) % N) 0) = sumI (i + 1) (fun j=>a.getD j 0 * b.getD (i - j) 0):=sI_congr (fun m hm=>by
  rw [show i + N - m = (i - m) + N by omega,Nat.add_mod_right,Nat.mod_eq_of_lt (by omega)])
 have e2 : sumI (N - i - 1) (fun k=>a.getD (i + 1 + k) 0 * b.getD ((i + N - (i + 1 + k)) % N) 0) = sumI (N - i - 1) (fun _=>0):=sI_congr (fun k hk=>by
  rw [Nat.mod_eq_of_lt (by omega)]
  by_cases h : i + 1 + k < a.length
  ·rw [getD_past (l:=b) (by omega),Int.mul_zero]
  ·rw [getD_past (l:=a) (by omega),Int.zero_mul])
 rw [e1,e2,sI_zero,Int.add_zero]
theorem cv_firsts {a b : List Int} {N i : Nat} (ha : a.length <= N) (hb : b.length <= N) (hN : 0 < N) : cvI (firsts a N) (firsts b N) N i = cvI a b N i :=
 cv_congr hN (fun m _=>firsts_get ha m) (fun m _=>firsts_get hb m)
def pcL (a b : List Int) : List Int:=if a = [] \/ b = [] then [] else tabL (a.length + b.length - 1) (pcI a b)
theorem pcL_nil {a b : List Int} (h : a = [] \/ b = []) : pcL a b = []:=by unfold pcL; rw [if_pos h]
theorem pcL_tab {a b : List Int} (ha : a ≠ []) (hb : b ≠ []) : pcL a b = tabL (a.length + b.length - 1) (pcI a b):=by unfold pcL; rw [if_neg (fun h=>h.elim ha hb)]
theorem pcL_len (a b : List Int) : (pcL a b).length <= a.length + b.length:=by
 unfold pcL
 split
 ·simp
 ·rw [tabL_len]; omega
end
end Go.Proofs.YtnpanpkahbcecaaGreatDoor

/-
A round product of floats lies near the true one, where the bound is below 1/4.
-/
import Derived.Test.YtnpanpkahbcecaaGreatDoorP2
import Derived.Test.YtnpanpkahbcecaaGreatDoorP5
import Derived.Lib.Hide
set_option linter.unusedVariables false
set_option linter.unusedSimpArgs false
namespace Go.Proofs.YtnpanpkahbcecaaGreatDoor
section
open Cx (n2)
theorem netC_sub (C : Nat -> Nat -> Cx) : ∀ (k : Nat) (x y : Nat -> Cx) (j : Nat),netC C k (dif x y) j = Cx.sub (netC C k x j) (netC C k y j)
 | 0,x,y,j=>by unfold netC; simp only [net,dif]
 | k + 1,x,y,j=>by
   have he:=netC_sub C k (ev x) (ev y)
   have ho:=netC_sub C k (od x) (od y)
   have e1 : ev (dif x y) = dif (ev x) (ev y):=rfl
   have e2 : od (dif x y) = dif (od x) (od y):=rfl
   unfold netC at *
   simp only [net]
   split
   ·rw [e1,e2,he,ho]; apply Cx.ext <;> simp only [Cx.add,Cx.sub,Cx.mul] <;> grind
   ·rw [e1,e2,he,ho]; apply Cx.ext <;> simp only [Cx.add,Cx.sub,Cx.mul] <;> grind
theorem point_err {n : Nat} {U V u' v' w' : Nat -> Cx} {g eps mu kap theta Su Sv : Rat} (pg : 0 <= g) (pe : 0 <= eps) (pm : 0 <= mu) (pk : 0 <= kap) (pu : 0 <= Su) (pv : 0 <= Sv)
  (gu : N2 n U <= g * g * Su) (gv : N2 n V <= g * g * Sv) (eu : N2 n (dif u' U) <= eps * eps * Su) (ev : N2 n (dif v' V) <= eps * eps * Sv)
  (hw : ∀ j,j < n -> n2 (Cx.sub (w' j) (Cx.mul (u' j) (v' j))) <= mu * mu * (n2 (u' j) * n2 (v' j)) + theta) (hth : sumN n (fun _=>theta) <= kap * kap * (Su * Sv)) :
  N2 n (dif w' (fun j=>Cx.mul (U j) (V j))) <= ((mu * ((g + eps) * (g + eps)) + kap) + (eps * (g + eps) + g * eps)) * ((mu * ((g + eps) * (g + eps)) + kap) + (eps * (g + eps) + g * eps)) * (Su * Sv) /\
  N2 n (fun j=>Cx.mul (U j) (V j)) <= (g * g) * (g * g) * (Su * Sv):=by
 have puv:=Rat.mul_nonneg pu pv
 have pge : 0 <= g + eps:=by grind
 have gu':=N2_off pg pe pu gu eu
 have gv':=N2_off pg pe pv gv ev
 have prod : ∀ (f h : Nat -> Cx) (a b : Rat),0 <= a -> 0 <= b -> N2 n f <= a * a * Su -> N2 n h <= b * b * Sv -> N2 n (fun j=>Cx.mul (f j) (h j)) <= (a * b) * (a * b) * (Su * Sv):=fun f h a b ha hb hf hh=>by
  have k1 : N2 n (fun j=>Cx.mul (f j) (h j)) <= (b * b * Sv) * N2 n f:=N2_scale (fun j hj=>by
   rw [Cx.n2_mul,Rat.mul_comm]
   exact Rat.mul_le_mul_of_nonneg_right (Rat.le_trans (N2_at h hj) hh) (Cx.n2_nonneg _))
  have k2:=rmul_le hf (Rat.mul_nonneg (sq_nonneg b) pv)
  grind
 have h1 : N2 n (dif w' (fun j=>Cx.mul (u' j) (v' j))) <= (mu * ((g + eps) * (g + eps)) + kap) * (mu * ((g + eps) * (g + eps)) + kap) * (Su * Sv):=by
  have k1 : N2 n (dif w' (fun j=>Cx.mul (u' j) (v' j))) <= mu * mu * N2 n (fun j=>Cx.mul (u' j) (v' j)) + sumN n (fun _=>theta):=by
   unfold N2
   rw [<- sumN_mul,<- sumN_add]
   exact sumN_le (fun j hj=>by rw [Cx.n2_mul]; exact hw j hj)
  have k2:=rmul_le (prod u' v' _ _ pge pge gu' gv') (sq_nonneg mu)
  have k3 : 0 <= mu * ((g + eps) * (g + eps)) * kap * (Su * Sv):=Rat.mul_nonneg (Rat.mul_nonneg (Rat.mul_nonneg pm (sq_nonneg _)) pk) puv
  grind
 have h2:=prod (dif u' U) v' _ _ pe pge eu gv'
 have h3:=prod U (dif v' V) _ _ pg pe gu ev
 have q1 : 0 <= eps * (g + eps):=Rat.mul_nonneg pe pge
 have q2 : 0 <= g * eps:=Rat.mul_nonneg pg pe
 have q3 : 0 <= mu * ((g + eps) * (g + eps)) + kap:=by have:=Rat.mul_nonneg pm (sq_nonneg (g + eps)); grind
 have h4:=N2_tri q1 q2 puv h2 h3
 have h5:=N2_tri q3 (show 0 <= eps * (g + eps) + g * eps by grind) puv h1 h4
 have e : N2 n (fun i=>Cx.add (dif w' (fun j=>Cx.mul (u' j) (v' j)) i) (Cx.add (Cx.mul (dif u' U i) (v' i)) (Cx.mul (U i) (dif v' V i)))) = N2 n (dif w' (fun j=>Cx.mul (U j) (V j))):=N2_congr (fun i _=>by apply Cx.ext <;> simp only [dif,Cx.add,Cx.sub,Cx.mul] <;> grind)
 rw [e] at h5
 exact ⟨h5,prod U V g g pg pg gu gv⟩
def farT (K : Nat) (tau a b : Rat) : Rat :=
 let tX:=tk tau K * a
 let tY:=tk tau K * b
 let LU:=2 * a + tX
 let LV:=2 * b + tY
 tk tau K * (pw K * (4 * LU * LV)) + (pw K * (4 * (2 * LV * tX + 4 * a * tY)) + pw K * (a * (b * (9 * tau))))
theorem dft_lim {K : Nat} {R : Nat -> Cx} {tau : Rat} (T : Tab (2 ^ K) R tau) (x : Nat -> Cx) (j : Nat) : Cx.lim (dft R K 1 x j) (2 * X1 K x):=by
 have h:=sumC_near (n:=2 ^ K) (f:=fun i=>Cx.mul (x i) (R (i * j * 1))) (g:=fun _=>Cx.zero) (t:=fun i=>2 * s1 (x i)) (fun i _=>by
  have hz : Cx.near (R (i * j * 1)) Cx.zero 2:=by have:=T.lim (i * j * 1); unfold Cx.near Cx.lim at *; simp only [Cx.zero]; grind
  have h1:=near_s1 (a:=x i) hz
  rw [Cx.mul_zero] at h1
  exact h1.le (by grind))
 rw [sumC_zero,sumN_mul] at h
 unfold Cx.near at h
 unfold Cx.lim X1
 show -(2 * sumN (2 ^ K) fun i=>s1 (x i)) <= (sumC (2 ^ K) fun i=>Cx.mul (x i) (R (i * j * 1))).re /\ _
 simp only [Cx.zero] at h
 unfold dft
 grind
theorem near_lim {z w : Cx} {A t : Rat} (h : Cx.near z w t) (hl : Cx.lim w A) : Cx.lim z (A + t):=by unfold Cx.near Cx.lim at *; grind
theorem lim_mul {z w : Cx} {A B : Rat} (hz : Cx.lim z A) (hw : Cx.lim w B) : Cx.lim (Cx.mul z w) (2 * A * B):=by
 have h : Cx.near w Cx.zero B:=by unfold Cx.near Cx.lim at *; simp only [Cx.zero]; grind
 have h1:=h.mul hz
 rw [Cx.mul_zero] at h1
 unfold Cx.near at h1
 unfold Cx.lim
 simp only [Cx.zero] at h1
 grind
theorem lim_s1 {z : Cx} {A : Rat} (h : Cx.lim z A) : s1 z <= 2 * A:=by
 unfold Cx.lim at h
 unfold s1 ab
 split <;> split <;> grind
theorem exact_near {K : Nat} {R : Nat -> Cx} {tau : Rat} (T : Tab (2 ^ K) R tau) (hc : ∀ m,Cx.near (Cx.conj (R m)) (R (m * (2 ^ K - 1))) tau) (x y : Nat -> Cx) (i : Nat) (hi : i < 2 ^ K) :
  Cx.near (netC (lev (cj R) K) K (fun j=>Cx.mul (netC (lev R K) K x j) (netC (lev R K) K y j)) i) (Cx.mul ⟨((2 ^ K : Nat) : Rat),0⟩ (conv (2 ^ K) x y i)) (farT K tau (X1 K x) (X1 K y)):=by
 have pt:=T.ptau
 have ptk:=tk_pos pt K
 have pa:=X1_nonneg K x
 have pb:=X1_nonneg K y
 obtain ⟨a,ha⟩ : ∃ a,a = X1 K x:=⟨_,rfl⟩
 obtain ⟨b,hb⟩ : ∃ b,b = X1 K y:=⟨_,rfl⟩
 obtain ⟨d,hd⟩ : ∃ d,d = tk tau K:=⟨_,rfl⟩
 have hx : ∀ j,j < 2 ^ K -> Cx.near (netC (lev R K) K x j) (dft R K 1 x j) (d * a):=fun j hj=>by
  have h:=net_dft T K (Nat.le_refl _) x j hj
  rw [Nat.sub_self,Nat.pow_zero] at h
  rw [hd,ha]; exact h
 have hy : ∀ j,j < 2 ^ K -> Cx.near (netC (lev R K) K y j) (dft R K 1 y j) (d * b):=fun j hj=>by
  have h:=net_dft T K (Nat.le_refl _) y j hj
  rw [Nat.sub_self,Nat.pow_zero] at h
  rw [hd,hb]; exact h
 have lx : ∀ j,Cx.lim (dft R K 1 x j) (2 * a):=fun j=>by rw [ha]; exact dft_lim T x j
 have ly : ∀ j,Cx.lim (dft R K 1 y j) (2 * b):=fun j=>by rw [hb]; exact dft_lim T y j
 have hP : ∀ j,j < 2 ^ K -> Cx.near (Cx.mul (netC (lev R K) K x j) (netC (lev R K) K y j)) (Cx.mul (dft R K 1 x j) (dft R K 1 y j)) (2 * (2 * b + d * b) * (d * a) + 4 * a * (d * b)):=fun j hj=>by
  have h1:=(hx j hj).mul (near_lim (hy j hj) (ly j))
  have h2:=(hy j hj).mul (lx j)
  rw [Cx.mul_comm,Cx.mul_comm (netC (lev R K) K y j)] at h1
  exact (h1.trans h2).le (by grind)
 have hLP : ∀ j,j < 2 ^ K -> s1 (Cx.mul (netC (lev R K) K x j) (netC (lev R K) K y j)) <= 4 * (2 * a + d * a) * (2 * b + d * b):=fun j hj=>by
  have h:=lim_s1 (lim_mul (near_lim (hx j hj) (lx j)) (near_lim (hy j hj) (ly j)))
  grind
 have n1:=net_dft T.cj K (Nat.le_refl _) (fun j=>Cx.mul (netC (lev R K) K x j) (netC (lev R K) K y j)) i hi
 rw [Nat.sub_self,Nat.pow_zero] at n1
 have hX1 : X1 K (fun j=>Cx.mul (netC (lev R K) K x j) (netC (lev R K) K y j)) <= pw K * (4 * (2 * a + d * a) * (2 * b + d * b)):=by
  rw [<- sumN_const]
  exact sumN_le (fun j hj=>hLP j hj)
 have n2' : Cx.near (dft (cj R) K 1 (fun j=>Cx.mul (netC (lev R K) K x j) (netC (lev R K) K y j)) i) (dft (cj R) K 1 (fun j=>Cx.mul (dft R K 1 x j) (dft R K 1 y j)) i) (pw K * (4 * (2 * (2 * b + d * b) * (d * a) + 4 * a * (d * b)))):=by
  rw [<- sumN_const]
  refine sumC_near (fun j hj=>?_)
  have h:=(hP j hj).mul (T.cj.lim (j * i * 1))
  rw [Cx.mul_comm (cj R (j * i * 1)),Cx.mul_comm (cj R (j * i * 1))] at h
  exact h.le (by grind)
 have n3:=back_near T hc x y i hi
 have h:=(n1.trans n2').trans n3
 refine h.le ?_
 have k1:=rmul_le hX1 ptk
 rw [<- hd] at k1
 unfold farT
 simp only
 rw [<- ha,<- hb,<- hd]
 grind
end
section
open Cx (n2)
def etaW (mu g eps kp : Rat) : Rat:=(mu * ((g + eps) * (g + eps)) + kp) + (eps * (g + eps) + g * eps)
theorem netC_N2_sub {C : Nat -> Nat -> Cx} {tau : Rat} (ht : 0 <= tau) {K : Nat} (hC : ∀ k j,k < K -> j < 2 ^ k -> n2 (C k j) <= 1 + tau) (f h : Nat -> Cx) : N2 (2 ^ K) (dif (netC C K f) (netC C K h)) <= gamK tau K * gamK tau K * (pw K * N2 (2 ^ K) (dif f h)):=by
 have h1:=netC_size ht hC K (Nat.le_refl _) (dif f h)
 have e : N2 (2 ^ K) (netC C K (dif f h)) = N2 (2 ^ K) (dif (netC C K f) (netC C K h)):=N2_congr (fun i _=>netC_sub C K f h i)
 rw [e] at h1
 exact h1
theorem cyc_err {α : Type} {N : Near α} {K : Nat} {R : Nat -> Cx} {W W2 : Nat -> Nat -> α} (A : Roots N W (lev R K) K) (B : Roots N W2 (lev (cj R) K) K) (x y : Nat -> α) (hx : ∀ i,i < 2 ^ K -> N.ok (x i)) (hy : ∀ i,i < 2 ^ K -> N.ok (y i))
  {Su Sv kp S2 : Rat} (hSu : Su = pw K * Qf A.phi K (fun i=>N.val (x i))) (hSv : Sv = pw K * Qf A.phi K (fun i=>N.val (y i))) (pkp : 0 <= kp) (hkp : pw K * N.theta <= kp * kp * (Su * Sv)) (hS2 : S2 = Su * Sv + pw K * B.phi)
  (b1 : 40 * Su <= N.big) (b2 : 40 * Sv <= N.big) (b3 : 16 * (Su * Sv) <= N.big)
  (b4 : 40 * (pw K * ((gamK A.tau K * gamK A.tau K + etaW N.mu (gamK A.tau K) (A.eps K) kp) * (gamK A.tau K * gamK A.tau K + etaW N.mu (gamK A.tau K) (A.eps K) kp) * S2)) <= N.big) :
  (∀ i,i < 2 ^ K -> N.ok (net N.add N.sub N.mul W2 K (fun j=>N.mul (net N.add N.sub N.mul W K x j) (net N.add N.sub N.mul W K y j)) i)) /\
  N2 (2 ^ K) (dif (fun i=>N.val (net N.add N.sub N.mul W2 K (fun j=>N.mul (net N.add N.sub N.mul W K x j) (net N.add N.sub N.mul W K y j)) i)) (netC (lev (cj R) K) K (fun j=>Cx.mul (netC (lev R K) K (fun i=>N.val (x i)) j) (netC (lev R K) K (fun i=>N.val (y i)) j)))) <=
   (B.eps K * (gamK A.tau K * gamK A.tau K + etaW N.mu (gamK A.tau K) (A.eps K) kp) + gamK B.tau K * etaW N.mu (gamK A.tau K) (A.eps K) kp) * (B.eps K * (gamK A.tau K * gamK A.tau K + etaW N.mu (gamK A.tau K) (A.eps K) kp) + gamK B.tau K * etaW N.mu (gamK A.tau K) (A.eps K) kp) * (pw K * S2):=by
 obtain ⟨g,hg⟩ : ∃ g,g = gamK A.tau K:=⟨_,rfl⟩
 obtain ⟨e,he⟩ : ∃ e,e = A.eps K:=⟨_,rfl⟩
 obtain ⟨gB,hgB⟩ : ∃ g,g = gamK B.tau K:=⟨_,rfl⟩
 obtain ⟨eB,heB⟩ : ∃ e,e = B.eps K:=⟨_,rfl⟩
 rw [<- hg,<- he] at b4 ⊢
 rw [<- hgB,<- heB]
 have g1 : 1 <= g:=by rw [hg]; exact gamK_pos A.ptau K
 have gB1 : 1 <= gB:=by rw [hgB]; exact gamK_pos B.ptau K
 have pe : 0 <= e:=by rw [he]; exact A.peps K (Nat.le_refl _)
 have peB : 0 <= eB:=by rw [heB]; exact B.peps K (Nat.le_refl _)
 have pM:=pw_pos K
 have pSu : 0 <= Su:=by rw [hSu]; exact Rat.mul_nonneg (Rat.le_of_lt pM) (Qf_nonneg A.pphi K _)
 have pSv : 0 <= Sv:=by rw [hSv]; exact Rat.mul_nonneg (Rat.le_of_lt pM) (Qf_nonneg A.pphi K _)
 have pSS:=Rat.mul_nonneg pSu pSv
 have pS2 : 0 <= S2:=by have:=Rat.mul_nonneg (Rat.le_of_lt pM) B.pphi; rw [hS2]; grind
 obtain ⟨U,hU⟩ : ∃ U,U = netC (lev R K) K (fun i=>N.val (x i)):=⟨_,rfl⟩
 obtain ⟨V,hV⟩ : ∃ V,V = netC (lev R K) K (fun i=>N.val (y i)):=⟨_,rfl⟩
 obtain ⟨u,hu⟩ : ∃ u,u = net N.add N.sub N.mul W K x:=⟨_,rfl⟩
 obtain ⟨v,hv⟩ : ∃ v,v = net N.add N.sub N.mul W K y:=⟨_,rfl⟩
 have EU:=net_err A K (Nat.le_refl _) x hx (by rw [<- hSu]; exact b1)
 have EV:=net_err A K (Nat.le_refl _) y hy (by rw [<- hSv]; exact b2)
 rw [<- hSu,<- hU,<- hu,<- he] at EU
 rw [<- hSv,<- hV,<- hv,<- he] at EV
 have size : ∀ (f : Nat -> Cx),pw K * N2 (2 ^ K) f <= pw K * Qf A.phi K f:=fun f=>rmul_le (by unfold Qf; have:=Rat.mul_nonneg (Rat.le_of_lt pM) A.pphi; grind) (Rat.le_of_lt pM)
 have GU : N2 (2 ^ K) U <= g * g * Su:=by
  have h:=netC_size A.ptau A.hC K (Nat.le_refl _) (fun i=>N.val (x i))
  rw [<- hU,<- hg] at h
  rw [hSu]
  exact Rat.le_trans h (rmul_le (size _) (sq_nonneg g))
 have GV : N2 (2 ^ K) V <= g * g * Sv:=by
  have h:=netC_size A.ptau A.hC K (Nat.le_refl _) (fun i=>N.val (y i))
  rw [<- hV,<- hg] at h
  rw [hSv]
  exact Rat.le_trans h (rmul_le (size _) (sq_nonneg g))
 have lge:=A.lge K (Nat.le_refl _)
 rw [<- hg,<- he] at lge
 have four : (g + e) * (g + e) <= 4:=by have:=sq_le (show 0 <= g + e by grind) (show (0 : Rat) <= 2 by decide) lge; grind
 have BU : ∀ j,j < 2 ^ K -> n2 (N.val (u j)) <= 4 * Su:=fun j hj=>by
  have h1:=N2_off (by grind) pe pSu GU EU.2
  have h2:=N2_at (fun j=>N.val (u j)) hj
  have h3:=Rat.mul_le_mul_of_nonneg_right four pSu
  grind
 have BV : ∀ j,j < 2 ^ K -> n2 (N.val (v j)) <= 4 * Sv:=fun j hj=>by
  have h1:=N2_off (by grind) pe pSv GV EV.2
  have h2:=N2_at (fun j=>N.val (v j)) hj
  have h3:=Rat.mul_le_mul_of_nonneg_right four pSv
  grind
 have HW : ∀ j,j < 2 ^ K -> N.ok (N.mul (u j) (v j)) /\ n2 (Cx.sub (N.val (N.mul (u j) (v j))) (Cx.mul (N.val (u j)) (N.val (v j)))) <= N.mu * N.mu * (n2 (N.val (u j)) * n2 (N.val (v j))) + N.theta:=fun j hj=>by
  have h1:=BU j hj
  have h2:=BV j hj
  have h3:=Rat.mul_le_mul_of_nonneg_right h1 (Cx.n2_nonneg (N.val (v j)))
  have h4:=rmul_le h2 (show 0 <= 4 * Su by grind)
  exact N.hmul _ _ (EU.1 j hj) (EV.1 j hj) (by grind) (by grind) (by grind)
 obtain ⟨eta,heta⟩ : ∃ eta,eta = etaW N.mu g e kp:=⟨_,rfl⟩
 rw [<- heta] at b4 ⊢
 have P:=point_err (n:=2 ^ K) (U:=U) (V:=V) (u':=fun j=>N.val (u j)) (v':=fun j=>N.val (v j)) (w':=fun j=>N.val (N.mul (u j) (v j))) (show 0 <= g by grind) pe N.pmu pkp pSu pSv GU GV EU.2 EV.2 (fun j hj=>(HW j hj).2) (by rw [sumN_const]; exact hkp)
 have peta : 0 <= eta:=by
  rw [heta]; unfold etaW
  have q1:=Rat.mul_nonneg pe (show 0 <= g + e by grind)
  have q2:=Rat.mul_nonneg (show 0 <= g by grind) pe
  have q3:=Rat.mul_nonneg N.pmu (sq_nonneg (g + e))
  grind
 have P1 : N2 (2 ^ K) (dif (fun j=>N.val (N.mul (u j) (v j))) (fun j=>Cx.mul (U j) (V j))) <= eta * eta * (Su * Sv):=by rw [heta]; exact P.1
 have gg : 1 <= g * g:=by have:=sq_le (show (0 : Rat) <= 1 by decide) (show 0 <= g by grind) g1; grind
 have NW : N2 (2 ^ K) (fun j=>N.val (N.mul (u j) (v j))) <= (g * g + eta) * (g * g + eta) * (Su * Sv):=N2_off (by grind) peta pSS P.2 P1
 have QW : Qf B.phi K (fun j=>N.val (N.mul (u j) (v j))) <= (g * g + eta) * (g * g + eta) * S2:=by
  have h1 : 1 <= (g * g + eta) * (g * g + eta):=by have:=sq_le (show (0 : Rat) <= 1 by decide) (show 0 <= g * g + eta by grind) (show 1 <= g * g + eta by grind); grind
  have h2:=Rat.mul_le_mul_of_nonneg_right h1 (Rat.mul_nonneg (Rat.le_of_lt pM) B.pphi)
  rw [hS2]
  unfold Qf
  grind
 have MQ:=rmul_le QW (Rat.le_of_lt pM)
 have EB:=net_err B K (Nat.le_refl _) (fun j=>N.mul (u j) (v j)) (fun i hi=>(HW i hi).1) (by grind)
 rw [<- heB] at EB
 rw [<- hu,<- hv,<- hU,<- hV]
 refine ⟨EB.1,?_⟩
 have D1 : N2 (2 ^ K) (dif (fun i=>N.val (net N.add N.sub N.mul W2 K (fun j=>N.mul (u j) (v j)) i)) (netC (lev (cj R) K) K (fun i=>N.val (N.mul (u i) (v i))))) <= (eB * (g * g + eta)) * (eB * (g * g + eta)) * (pw K * S2):=by
  have h1:=EB.2
  have h2:=rmul_le MQ (sq_nonneg eB)
  grind
 have D2 : N2 (2 ^ K) (dif (netC (lev (cj R) K) K (fun i=>N.val (N.mul (u i) (v i)))) (netC (lev (cj R) K) K (fun j=>Cx.mul (U j) (V j)))) <= (gB * eta) * (gB * eta) * (pw K * S2):=by
  have h1:=netC_N2_sub B.ptau B.hC (fun i=>N.val (N.mul (u i) (v i))) (fun j=>Cx.mul (U j) (V j))
  rw [<- hgB] at h1
  have h2 : Su * Sv <= S2:=by rw [hS2]; have:=Rat.mul_nonneg (Rat.le_of_lt pM) B.pphi; grind
  have h3:=rmul_le (Rat.le_trans P1 (rmul_le h2 (sq_nonneg eta))) (Rat.le_of_lt pM)
  have h4:=rmul_le h3 (sq_nonneg gB)
  grind
 have pQ:=Rat.mul_nonneg (Rat.le_of_lt pM) pS2
 have h:=N2_tri (Rat.mul_nonneg peB (show 0 <= g * g + eta by grind)) (Rat.mul_nonneg (show 0 <= gB by grind) peta) pQ D1 D2
 have e1 : N2 (2 ^ K) (fun i=>Cx.add (dif (fun i=>N.val (net N.add N.sub N.mul W2 K (fun j=>N.mul (u j) (v j)) i)) (netC (lev (cj R) K) K (fun i=>N.val (N.mul (u i) (v i)))) i) (dif (netC (lev (cj R) K) K (fun i=>N.val (N.mul (u i) (v i)))) (netC (lev (cj R) K) K (fun j=>Cx.mul (U j) (V j))) i)) = N2 (2 ^ K) (dif (fun i=>N.val (net N.add N.sub N.mul W2 K (fun j=>N.mul (u j) (v j)) i)) (netC (lev (cj R) K) K (fun j=>Cx.mul (U j) (V j)))):=N2_congr (fun i _=>by apply Cx.ext <;> simp only [dif,Cx.add,Cx.sub] <;> grind)
 rw [e1] at h
 exact h
end
section
open Cx (n2)
namespace Fl
theorem Rnd.near_d {n d r : Nat} (h : Rnd n d r) : 2 * n <= (2 * rv r + 2 ^ ex r) * 2 ^ d /\ 2 * rv r * 2 ^ d <= 2 * n + 2 ^ ex r * 2 ^ d:=by
 obtain ⟨h1,_,h3,_⟩:=h
 have hs:=rv_succ r
 refine ⟨by rw [show 2 * rv r + 2 ^ ex r = rv r + rv (r + 1) by omega]; exact h1,?_⟩
 rcases Nat.eq_zero_or_pos r with h0 | h0
 ·subst h0; rw [rv_zero]; omega
 ·have h4:=h3 h0
  have hp:=rv_succ (r - 1)
  rw [show r - 1 + 1 = r by omega] at hp
  have h5 : 2 ^ ex (r - 1) <= 2 ^ ex r:=Nat.pow_le_pow_right (by omega) (ex_le (by omega))
  have h6 : 2 * rv r <= (rv (r - 1) + rv r) + 2 ^ ex r:=by omega
  have h7:=Nat.mul_le_mul_right (2 ^ d) h6
  rw [Nat.add_mul] at h7
  omega
theorem rv_big {r : Nat} (h : ex r ≠ 0) : B * 2 ^ ex r <= rv r:=by
 unfold rv
 rcases mant_ge r with h0 | h0
 ·exact absurd h0 h
 ·exact Nat.mul_le_mul_right _ h0
theorem Rnd.rel {n d r : Nat} (h : Rnd n d r) : 2 * B * n <= 2 * B * (rv r * 2 ^ d) + (rv r * 2 ^ d + B * 2 ^ d) /\ 2 * B * (rv r * 2 ^ d) <= 2 * B * n + (rv r * 2 ^ d + B * 2 ^ d):=by
 obtain ⟨h1,h2⟩:=h.near_d
 have h3 : B * 2 ^ ex r <= rv r + B:=by
  by_cases h0 : ex r = 0
  ·rw [h0]; omega
  ·have:=rv_big h0; omega
 have h4:=Nat.mul_le_mul_right (2 ^ d) h3
 have h5:=Nat.mul_le_mul_left B h1
 have h6:=Nat.mul_le_mul_left B h2
 generalize 2 ^ ex r = e at *
 generalize 2 ^ d = D at *
 generalize rv r = v at *
 generalize B = b at *
 constructor <;> grind
theorem Rnd.rel0 {n r : Nat} (h : Rnd n 0 r) : 2 * B * n <= 2 * B * rv r + rv r /\ 2 * B * rv r <= 2 * B * n + rv r:=by
 obtain ⟨h1,h2⟩:=h.near
 by_cases h0 : ex r = 0
 ·rw [h0,Nat.pow_zero] at h1 h2
  have : n = rv r:=by omega
  rw [this]; omega
 ·have h3:=rv_big h0
  have h5:=Nat.mul_le_mul_left B h1
  have h6:=Nat.mul_le_mul_left B h2
  generalize 2 ^ ex r = e at *
  generalize rv r = v at *
  generalize B = b at *
  constructor <;> grind
end Fl
open Fl
theorem pw_cast : ∀ k : Nat,((2 ^ k : Nat) : Rat) = pw k
 | 0=>by simp [pw]
 | k + 1=>by
   have ih:=pw_cast k
   rw [Nat.pow_succ,Rat.natCast_mul,ih]
   simp only [pw]
   grind
theorem eta_ex : ∃ e : Rat,0 < e /\ e * pw 1074 = 1:=by
 have h : pw 1074 ≠ 0:=by have:=pw_pos 1074; grind
 have h1 : (pw 1074)⁻¹ * pw 1074 = 1:=Rat.inv_mul_cancel _ h
 refine ⟨(pw 1074)⁻¹,?_,h1⟩
 exact Rat.inv_pos.2 (pw_pos 1074)
noncomputable def eta : Rat:=Classical.choose eta_ex
theorem eta_pos : 0 < eta:=(Classical.choose_spec eta_ex).1
theorem eta_one : eta * pw 1074 = 1:=(Classical.choose_spec eta_ex).2
noncomputable def fv (w : Nat) : Rat:=(vl w : Rat) * eta
noncomputable def top : Rat:=((rv (2046 * B) : Nat) : Rat) * eta
def uu : Rat:=1 / 9007199254740991
theorem uu_pos : 0 < uu:=by decide +kernel
theorem ab_nonneg (a : Rat) : 0 <= ab a:=(ab_le a).2.2
theorem ab_of {a b : Rat} (h1 : a <= b) (h2 : -a <= b) : ab a <= b:=by unfold ab; split <;> grind
theorem ab_mul (a b : Rat) : ab (a * b) = ab a * ab b:=by
 unfold ab
 rcases (Rat.le_total : 0 <= a \/ a <= 0) with h1 | h1 <;> rcases (Rat.le_total : 0 <= b \/ b <= 0) with h2 | h2
 ·have:=Rat.mul_nonneg h1 h2
  rw [if_pos h1,if_pos h2,if_pos this]
 ·have h3:=Rat.mul_nonneg h1 (show 0 <= -b by grind)
  by_cases hb : 0 <= b
  ·have : b = 0:=by grind
   subst this; simp
  ·rw [if_pos h1,if_neg hb]
   by_cases hab : 0 <= a * b
   ·rw [if_pos hab]; grind
   ·rw [if_neg hab]; grind
 ·have h3:=Rat.mul_nonneg (show 0 <= -a by grind) h2
  by_cases ha : 0 <= a
  ·have : a = 0:=by grind
   subst this; simp
  ·rw [if_neg ha,if_pos h2]
   by_cases hab : 0 <= a * b
   ·rw [if_pos hab]; grind
   ·rw [if_neg hab]; grind
 ·have h3:=Rat.mul_nonneg (show 0 <= -a by grind) (show 0 <= -b by grind)
  have h4 : 0 <= a * b:=by grind
  rw [if_pos h4]
  by_cases ha : 0 <= a
  ·have : a = 0:=by grind
   subst this; simp
  ·by_cases hb : 0 <= b
   ·have : b = 0:=by grind
    subst this; simp
   ·rw [if_neg ha,if_neg hb]; grind
theorem ab_int (n : Int) : ab (n : Rat) = ((n.natAbs : Nat) : Rat):=by
 rcases Int.natAbs_eq n with h | h
 ·have h1 : (n : Rat) = ((n.natAbs : Nat) : Rat):=by rw [<- Rat.intCast_natCast,<- h]
  rw [h1]
  unfold ab
  rw [if_pos (Rat.natCast_nonneg)]
 ·have h1 : (n : Rat) = -((n.natAbs : Nat) : Rat):=by rw [<- Rat.intCast_natCast,<- Rat.intCast_neg,<- h]
  rw [h1]
  have h2 : (0 : Rat) <= ((n.natAbs : Nat) : Rat):=Rat.natCast_nonneg
  exact Rat.le_antisymm (ab_of (by grind) (by grind)) (by have:=(ab_le (-((n.natAbs : Nat) : Rat))).2.1; grind)
theorem ab_fv (w : Nat) : ab (fv w) = ((rv (rg w) : Nat) : Rat) * eta:=by
 unfold fv
 rw [ab_mul,ab_int,vl_abs]
 congr 1
 unfold ab
 rw [if_pos (Rat.le_of_lt eta_pos)]
end
section
open Cx (n2)
open Fl
open Ieee
theorem q_lt : 2046 * B < I:=by decide
theorem r_fin {n d r : Nat} (h : Rnd n d r) (hn : n <= rv (2046 * B) * 2 ^ d) : r < I:=by
 have h2:=Rnd.exact (2046 * B) d
 have h3:=Rnd.mono h h2 (Nat.mul_le_mul_right _ hn)
 exact Nat.lt_of_le_of_lt h3 q_lt
theorem add_int {x y : Nat} (fx : rg x < I) (fy : rg y < I) (hb : (vl x + vl y).natAbs <= rv (2046 * B)) : ∃ s,double.add x y = some s /\ s < 2 * W /\ rg s < I /\ (2 * B - 1) * (vl s - (vl x + vl y)).natAbs <= (vl x + vl y).natAbs:=by
 obtain ⟨N,hN⟩ : ∃ N,N = vl x + vl y:=⟨_,rfl⟩
 have ha:=add_fin x y fx fy
 rw [<- hN] at ha hb ⊢
 obtain ⟨r,h1,h2⟩:=rnd_spec (sgn2 (sg x) (sg y) N) N.natAbs
 have hr : r < I:=r_fin h2 (by rw [Nat.pow_zero,Nat.mul_one]; exact hb)
 have hrW : r < W:=Nat.lt_trans hr I_lt_W
 rw [Nat.min_eq_left (Nat.le_of_lt hr)] at h1
 refine ⟨_,ha,?_,?_,?_⟩
 ·rw [h1]; exact wd_lt _ _ hrW
 ·rw [h1,rg_wd _ _ hrW]; exact hr
 ·rw [h1,vl_wd _ _ hrW]
  obtain ⟨k1,k2⟩:=h2.rel0
  obtain ⟨v,hv⟩ : ∃ v,v = rv r:=⟨_,rfl⟩
  rw [<- hv] at k1 k2 ⊢
  have hB : B = 4503599627370496:=rfl
  rw [hB] at k1 k2 ⊢
  unfold sgn2
  by_cases h0 : N = 0
  ·subst h0
   have : v = 0:=by omega
   subst this
   split <;> simp
  ·rw [if_neg h0]
   by_cases hlt : N < 0
   ·rw [decide_eq_true hlt,if_pos rfl]
    omega
   ·rw [decide_eq_false hlt,if_neg (by decide)]
    omega
theorem ab_eta : ab eta = eta:=by unfold ab; rw [if_pos (Rat.le_of_lt eta_pos)]
theorem le_nat {a b : Nat} (h : a <= b) : (a : Rat) <= (b : Rat):=Rat.natCast_le_natCast.2 h
theorem nat_le {a b : Nat} (h : (a : Rat) <= (b : Rat)) : a <= b:=Rat.natCast_le_natCast.1 h
theorem eta_cancel {a b : Rat} (h : a * eta <= b * eta) : a <= b:=rdiv_le eta_pos (by rw [Rat.mul_comm eta a,Rat.mul_comm eta b]; exact h)
theorem uu_of {a b : Rat} (h : 9007199254740991 * a <= b) : a <= uu * b:=by
 unfold uu; grind
theorem fadd_ok {x y : Nat} (fx : rg x < I) (fy : rg y < I) (hb : ab (fv x + fv y) <= top) : ∃ s,double.add x y = some s /\ s < 2 * W /\ rg s < I /\ ab (fv s - (fv x + fv y)) <= uu * ab (fv x + fv y):=by
 have e1 : fv x + fv y = ((vl x + vl y : Int) : Rat) * eta:=by unfold fv; rw [Rat.intCast_add]; grind
 have e2 : ab (fv x + fv y) = (((vl x + vl y).natAbs : Nat) : Rat) * eta:=by rw [e1,ab_mul,ab_int,ab_eta]
 have hn : (vl x + vl y).natAbs <= rv (2046 * B):=by
  rw [e2] at hb
  exact nat_le (eta_cancel hb)
 obtain ⟨s,h1,h2,h3,h4⟩:=add_int fx fy hn
 refine ⟨s,h1,h2,h3,?_⟩
 have e3 : ab (fv s - (fv x + fv y)) = (((vl s - (vl x + vl y)).natAbs : Nat) : Rat) * eta:=by
  have : fv s - (fv x + fv y) = ((vl s - (vl x + vl y) : Int) : Rat) * eta:=by rw [e1,Rat.intCast_sub]; unfold fv; grind
  rw [this,ab_mul,ab_int,ab_eta]
 rw [e2,e3]
 apply uu_of
 have h5:=le_nat h4
 rw [Rat.natCast_mul] at h5
 have h6 : ((2 * B - 1 : Nat) : Rat) = 9007199254740991:=by rw [show 2 * B - 1 = 9007199254740991 from rfl]; rfl
 rw [h6] at h5
 have h7:=Rat.mul_le_mul_of_nonneg_right h5 (Rat.le_of_lt eta_pos)
 grind
theorem mul_int {x y D : Nat} (hD : D = 2 ^ 1074) (fx : rg x < I) (fy : rg y < I) (hb : rv (rg x) * rv (rg y) <= rv (2046 * B) * D) : ∃ s r,double.mul x y = some s /\ s < 2 * W /\ rg s < I /\ r = rv (rg s) /\ vl s = (if (sg x ^^ sg y) = true then -(r : Int) else (r : Int)) /\
  9007199254740991 * (rv (rg x) * rv (rg y)) <= 9007199254740992 * (r * D) + 4503599627370496 * D /\ 9007199254740991 * (r * D) <= 9007199254740992 * (rv (rg x) * rv (rg y)) + 4503599627370496 * D:=by
 have ha:=mul_fin x y fx fy
 obtain ⟨r,h1,h2⟩:=nearest_word (sg x ^^ sg y) (mant (rg x) * mant (rg y)) (pl x + pl y)
 have h3 : Rnd (rv (rg x) * rv (rg y)) 1074 r:=h2 1074 _ (by unfold pl; omega) (by
  have e : (pl x + pl y + 1074 + ((1074 : Nat) : Int)).toNat = ex (rg x) + ex (rg y):=by unfold pl; omega
  rw [e,Nat.pow_add]
  unfold rv
  rw [Nat.mul_assoc,Nat.mul_left_comm (2 ^ ex (rg x)),<- Nat.mul_assoc])
 have hr : r < I:=r_fin h3 (by rw [<- hD]; exact hb)
 have hrW : r < W:=Nat.lt_trans hr I_lt_W
 rw [Nat.min_eq_left (Nat.le_of_lt hr)] at h1
 obtain ⟨k1,k2⟩:=h3.rel
 rw [<- hD] at k1 k2
 clear h2 h3 hb hD
 refine ⟨_,rv r,ha,?_,?_,?_,?_,?_,?_⟩
 ·rw [h1]; exact wd_lt _ _ hrW
 ·rw [h1,rg_wd _ _ hrW]; exact hr
 ·rw [h1,rg_wd _ _ hrW]
 ·rw [h1,vl_wd _ _ hrW]
 ·generalize rv (rg x) * rv (rg y) = P at *
  generalize rv r * D = Q at *
  have hB : B = 4503599627370496:=rfl
  rw [hB] at k1 k2
  omega
 ·generalize rv (rg x) * rv (rg y) = P at *
  generalize rv r * D = Q at *
  have hB : B = 4503599627370496:=rfl
  rw [hB] at k1 k2
  omega
theorem fv_sg (w : Nat) : fv w = if sg w = true then -(((rv (rg w) : Nat) : Rat) * eta) else ((rv (rg w) : Nat) : Rat) * eta:=by
 unfold fv vl
 split
 ·rw [Rat.intCast_neg,Rat.intCast_natCast]; grind
 ·rw [Rat.intCast_natCast]
theorem fmul_ok {x y : Nat} (fx : rg x < I) (fy : rg y < I) (hb : ab (fv x * fv y) <= top) : ∃ s,double.mul x y = some s /\ s < 2 * W /\ rg s < I /\ ab (fv s - fv x * fv y) <= uu * ab (fv x * fv y) + eta:=by
 obtain ⟨p,hp⟩ : ∃ p : Rat,p = ((rv (rg x) : Nat) : Rat):=⟨_,rfl⟩
 obtain ⟨q,hq⟩ : ∃ q : Rat,q = ((rv (rg y) : Nat) : Rat):=⟨_,rfl⟩
 have hab : ab (fv x * fv y) = p * q * eta * eta:=by rw [ab_mul,ab_fv,ab_fv,<- hp,<- hq]; grind
 have e1:=eta_one
 have pe:=eta_pos
 obtain ⟨D,hD⟩ : ∃ D : Rat,D = pw 1074:=⟨_,rfl⟩
 rw [<- hD] at e1
 obtain ⟨D0,hD0,hDD⟩ : ∃ D0 : Nat,D0 = 2 ^ 1074 /\ ((D0 : Nat) : Rat) = D:=by
  obtain ⟨k,hk⟩ : ∃ k : Nat,k = 1074:=⟨_,rfl⟩
  rw [<- hk] at hD ⊢
  exact ⟨2 ^ k,rfl,by rw [pw_cast,hD]⟩
 have hn : rv (rg x) * rv (rg y) <= rv (2046 * B) * D0:=by
  apply nat_le
  rw [Rat.natCast_mul,Rat.natCast_mul,hDD,<- hp,<- hq]
  rw [hab] at hb
  unfold top at hb
  have h1:=eta_cancel (a:=p * q * eta) hb
  have h2:=Rat.mul_le_mul_of_nonneg_right h1 (show 0 <= D by rw [hD]; exact Rat.le_of_lt (pw_pos _))
  have h3 : p * q * eta * D = p * q:=by grind
  rw [h3] at h2
  exact h2
 obtain ⟨s,r,h1,h2,h3,h4,h5,h6,h7⟩:=mul_int hD0 fx fy hn
 refine ⟨s,h1,h2,h3,?_⟩
 obtain ⟨v,hv⟩ : ∃ v : Rat,v = ((r : Nat) : Rat):=⟨_,rfl⟩
 have k6:=le_nat h6
 have k7:=le_nat h7
 push_cast at k6 k7
 rw [hDD,<- hp,<- hq,<- hv] at k6 k7
 have pee:=Rat.mul_nonneg (Rat.le_of_lt pe) (Rat.le_of_lt pe)
 have m6:=Rat.mul_le_mul_of_nonneg_right k6 pee
 have m7:=Rat.mul_le_mul_of_nonneg_right k7 pee
 have q6 : 9007199254740991 * (p * q * eta * eta) <= 9007199254740992 * (v * eta) + 4503599627370496 * eta:=by
  have a1 : (9007199254740992 * (v * D) + 4503599627370496 * D) * (eta * eta) = 9007199254740992 * (v * eta) * (eta * D) + 4503599627370496 * eta * (eta * D):=by grind
  rw [a1,e1] at m6
  grind
 have q7 : 9007199254740991 * (v * eta) <= 9007199254740992 * (p * q * eta * eta) + 4503599627370496 * eta:=by
  have a1 : (9007199254740992 * (p * q) + 4503599627370496 * D) * (eta * eta) = 9007199254740992 * (p * q * eta * eta) + 4503599627370496 * eta * (eta * D):=by grind
  have a2 : 9007199254740991 * (v * D) * (eta * eta) = 9007199254740991 * (v * eta) * (eta * D):=by grind
  rw [a1,a2,e1] at m7
  grind
 have hs : fv s = if (sg x ^^ sg y) = true then -(v * eta) else v * eta:=by
  unfold fv
  rw [h5]
  split
  ·rw [Rat.intCast_neg,Rat.intCast_natCast,<- hv]; grind
  ·rw [Rat.intCast_natCast,<- hv]
 have hxy : fv x * fv y = if (sg x ^^ sg y) = true then -(p * q * eta * eta) else p * q * eta * eta:=by
  rw [fv_sg x,fv_sg y,<- hp,<- hq]
  cases sg x <;> cases sg y <;> simp <;> grind
 obtain ⟨t,ht⟩ : ∃ t,t = v * eta:=⟨_,rfl⟩
 obtain ⟨z,hz⟩ : ∃ z,z = p * q * eta * eta:=⟨_,rfl⟩
 rw [hab,hs,hxy,<- ht,<- hz]
 rw [<- ht,<- hz] at q6 q7
 have pz : 0 <= z:=by rw [hz,<- hab]; exact ab_nonneg _
 have key : t - z <= uu * z + eta /\ z - t <= uu * z + eta:=by
  unfold uu
  constructor <;> grind
 split
 ·exact ab_of (by grind) (by grind)
 ·exact ab_of (by grind) (by grind)
end
section
open Cx (n2)
open Fl
open Ieee
theorem pw_add (a : Nat) : ∀ b,pw (a + b) = pw a * pw b
 | 0=>by simp only [pw,Nat.add_zero]; grind
 | b + 1=>by rw [<- Nat.add_assoc]; simp only [pw]; rw [pw_add a b]; grind
theorem pw_le {a b : Nat} (h : a <= b) : pw a <= pw b:=by
 obtain ⟨c,rfl⟩ : ∃ c,b = a + c:=⟨b - a,by omega⟩
 rw [pw_add]
 have:=rmul_le (pw_one c) (Rat.le_of_lt (pw_pos a))
 grind
theorem top_eq : top = pw 1023:=by
 obtain ⟨k,hk⟩ : ∃ k : Nat,k = 2045:=⟨_,rfl⟩
 have h:=rv_of k B (by omega) (.inr (Nat.le_refl _))
 have e : k * B + B = 2046 * B:=by rw [hk]; omega
 rw [e] at h
 unfold top
 rw [h,Rat.natCast_mul,pw_cast]
 have hB : ((B : Nat) : Rat) = pw 52:=by rw [<- pw_cast]; rfl
 rw [hB,<- pw_add]
 obtain ⟨a,ha⟩ : ∃ a : Nat,a = 1074:=⟨_,rfl⟩
 have h1:=eta_one
 rw [<- ha] at h1
 rw [show 52 + k = a + 1023 by omega,pw_add]
 grind
noncomputable def tq : Rat:=pw 1019
theorem tq_top : 16 * tq = top:=by
 rw [top_eq]; unfold tq
 rw [show 1023 = 1019 + 4 by omega,pw_add]
 have : pw 4 = 16:=by decide +kernel
 rw [this]; grind
theorem tq_big : pw 1000 <= tq:=by unfold tq; exact pw_le (by omega)
theorem tq_pos : 0 < tq:=by unfold tq; exact pw_pos _
theorem pw_two {a : Nat} (h : 1 <= a) : 2 <= pw a:=by
 have h1:=pw_le h
 have : pw 1 = 2:=by decide +kernel
 grind
theorem eta_le : eta <= 1:=by
 have h1:=eta_one
 obtain ⟨a,ha⟩ : ∃ a : Nat,a = 1074:=⟨_,rfl⟩
 rw [<- ha] at h1
 have h2:=rmul_le (pw_one a) (Rat.le_of_lt eta_pos)
 grind
theorem ab_sq (a : Rat) : ab a * ab a = a * a:=by unfold ab; split <;> grind
theorem ab_tri (a b : Rat) : ab (a + b) <= ab a + ab b:=by
 have h1:=ab_le a
 have h2:=ab_le b
 exact ab_of (by grind) (by grind)
theorem ab_neg (a : Rat) : ab (-a) = ab a:=by
 have h1:=ab_le a
 have h2:=ab_le (-a)
 exact Rat.le_antisymm (ab_of (by grind) (by grind)) (ab_of (by grind) (by grind))
def fa (x y : Nat) : Nat:=(double.add x y).getD 0
def fs (x y : Nat) : Nat:=(double.sub x y).getD 0
def fm (x y : Nat) : Nat:=(double.mul x y).getD 0
def fok (x : Nat) : Prop:=x < 2 * W /\ rg x < I
theorem fa_ok {x y : Nat} (hx : fok x) (hy : fok y) (hb : ab (fv x + fv y) <= top) : fok (fa x y) /\ ab (fv (fa x y) - (fv x + fv y)) <= uu * ab (fv x + fv y) /\ double.add x y = some (fa x y):=by
 obtain ⟨s,h1,h2,h3,h4⟩:=fadd_ok hx.2 hy.2 hb
 have e : fa x y = s:=by unfold fa; rw [h1]; rfl
 rw [e]
 exact ⟨⟨h2,h3⟩,h4,h1⟩
theorem fv_ng {y : Nat} (hy : fok y) : fv (ng y) = -fv y /\ fok (ng y):=by
 refine ⟨?_,ng_lt y hy.1,by rw [rg_ng y hy.1]; exact hy.2⟩
 unfold fv
 rw [vl_ng y hy.1,Rat.intCast_neg]
 grind
theorem fs_ok {x y : Nat} (hx : fok x) (hy : fok y) (hb : ab (fv x - fv y) <= top) : fok (fs x y) /\ ab (fv (fs x y) - (fv x - fv y)) <= uu * ab (fv x - fv y) /\ double.sub x y = some (fs x y):=by
 obtain ⟨h1,h2⟩:=fv_ng hy
 have e : fv x + fv (ng y) = fv x - fv y:=by rw [h1]; grind
 have h:=fa_ok hx h2 (by rw [e]; exact hb)
 rw [e] at h
 have e2 : fs x y = fa x (ng y):=by unfold fs fa; rw [sub_any x y hy.1]
 rw [e2,sub_any x y hy.1]
 exact h
theorem fm_ok {x y : Nat} (hx : fok x) (hy : fok y) (hb : ab (fv x * fv y) <= top) : fok (fm x y) /\ ab (fv (fm x y) - fv x * fv y) <= uu * ab (fv x * fv y) + eta /\ double.mul x y = some (fm x y):=by
 obtain ⟨s,h1,h2,h3,h4⟩:=fmul_ok hx.2 hy.2 hb
 have e : fm x y = s:=by unfold fm; rw [h1]; rfl
 rw [e]
 exact ⟨⟨h2,h3⟩,h4,h1⟩
noncomputable def cval (z : Nat × Nat) : Cx:=⟨fv z.1,fv z.2⟩
def cok (z : Nat × Nat) : Prop:=fok z.1 /\ fok z.2
def cadd (a b : Nat × Nat) : Nat × Nat:=(fa a.1 b.1,fa a.2 b.2)
def csub (a b : Nat × Nat) : Nat × Nat:=(fs a.1 b.1,fs a.2 b.2)
def cmul (a b : Nat × Nat) : Nat × Nat:=(fs (fm a.1 b.1) (fm a.2 b.2),fa (fm a.1 b.2) (fm a.2 b.1))
theorem part_le {z : Cx} {t : Rat} (ht : 0 <= t) (h : n2 z <= t * t) : ab z.re <= t /\ ab z.im <= t:=by
 have h1:=sq_nonneg z.re
 have h2:=sq_nonneg z.im
 simp only [n2] at h
 exact ⟨le_of_sq ht (by rw [ab_sq]; grind),le_of_sq ht (by rw [ab_sq]; grind)⟩
theorem sq_of_ab {a b : Rat} (h : ab a <= b) : a * a <= b * b:=by
 rw [<- ab_sq a]
 exact sq_le (ab_nonneg a) (Rat.le_trans (ab_nonneg a) h) h
theorem sq_rel {d u s : Rat} (h : ab d <= u * ab s) : d * d <= u * u * (s * s):=by
 have h1:=sq_of_ab h
 rw [<- ab_sq s]
 grind
theorem two_rel {d1 d2 s1 s2 u : Rat} (h1 : ab d1 <= u * ab s1) (h2 : ab d2 <= u * ab s2) : d1 * d1 + d2 * d2 <= u * u * (s1 * s1 + s2 * s2):=by
 have k1:=sq_rel h1
 have k2:=sq_rel h2
 grind
theorem cadd_ok (a b : Nat × Nat) (ha : cok a) (hb : cok b) (h1 : n2 (cval a) <= tq * tq) (h2 : n2 (cval b) <= tq * tq) : cok (cadd a b) /\ n2 (Cx.sub (cval (cadd a b)) (Cx.add (cval a) (cval b))) <= uu * uu * n2 (Cx.add (cval a) (cval b)):=by
 have pt:=tq_pos
 have tt:=tq_top
 obtain ⟨a1,a2⟩:=part_le (Rat.le_of_lt pt) h1
 obtain ⟨b1,b2⟩:=part_le (Rat.le_of_lt pt) h2
 simp only [cval] at a1 a2 b1 b2
 have r:=fa_ok ha.1 hb.1 (by have:=ab_tri (fv a.1) (fv b.1); grind)
 have i:=fa_ok ha.2 hb.2 (by have:=ab_tri (fv a.2) (fv b.2); grind)
 refine ⟨⟨r.1,i.1⟩,?_⟩
 exact two_rel r.2.1 i.2.1
theorem csub_ok (a b : Nat × Nat) (ha : cok a) (hb : cok b) (h1 : n2 (cval a) <= tq * tq) (h2 : n2 (cval b) <= tq * tq) : cok (csub a b) /\ n2 (Cx.sub (cval (csub a b)) (Cx.sub (cval a) (cval b))) <= uu * uu * n2 (Cx.sub (cval a) (cval b)):=by
 have pt:=tq_pos
 have tt:=tq_top
 obtain ⟨a1,a2⟩:=part_le (Rat.le_of_lt pt) h1
 obtain ⟨b1,b2⟩:=part_le (Rat.le_of_lt pt) h2
 simp only [cval] at a1 a2 b1 b2
 have r:=fs_ok ha.1 hb.1 (by have:=ab_tri (fv a.1) (-fv b.1); rw [ab_neg] at this; have e : fv a.1 + -fv b.1 = fv a.1 - fv b.1:=by grind
                             rw [e] at this; grind)
 have i:=fs_ok ha.2 hb.2 (by have:=ab_tri (fv a.2) (-fv b.2); rw [ab_neg] at this; have e : fv a.2 + -fv b.2 = fv a.2 - fv b.2:=by grind
                             rw [e] at this; grind)
 refine ⟨⟨r.1,i.1⟩,?_⟩
 exact two_rel r.2.1 i.2.1
end
section
open Cx (n2)
open Fl
open Ieee
theorem part_err {P1 P2 f1 f2 g : Rat} (h1 : ab (f1 - P1) <= uu * ab P1 + eta) (h2 : ab (f2 - P2) <= uu * ab P2 + eta) (h3 : ab (g - (f1 + f2)) <= uu * ab (f1 + f2)) :
  ab (g - (P1 + P2)) <= uu * ab (P1 + P2) + ((uu + uu * uu) * (ab P1 + ab P2) + 3 * eta) /\ ab (f1 + f2) <= ab (P1 + P2) + uu * (ab P1 + ab P2) + 2 * eta:=by
 have pu:=uu_pos
 have pe:=eta_pos
 have ul : uu <= 1 / 4:=by decide +kernel
 have k1:=ab_tri (f1 - P1) (f2 - P2)
 have k2:=ab_tri (P1 + P2) ((f1 - P1) + (f2 - P2))
 have e2 : (P1 + P2) + ((f1 - P1) + (f2 - P2)) = f1 + f2:=by grind
 rw [e2] at k2
 have k3:=ab_tri (g - (f1 + f2)) ((f1 - P1) + (f2 - P2))
 have e3 : (g - (f1 + f2)) + ((f1 - P1) + (f2 - P2)) = g - (P1 + P2):=by grind
 rw [e3] at k3
 have hs : ab (f1 + f2) <= ab (P1 + P2) + uu * (ab P1 + ab P2) + 2 * eta:=by grind
 refine ⟨?_,hs⟩
 have k4:=rmul_le hs (Rat.le_of_lt pu)
 have k5:=Rat.mul_le_mul_of_nonneg_right ul (Rat.le_of_lt pe)
 generalize ab (P1 + P2) = x at *
 generalize ab P1 = a at *
 generalize ab P2 = b at *
 generalize eta = e at *
 generalize uu = u at *
 grind
theorem cs_le (p q c d : Rat) : (ab (p * c) + ab (q * d)) * (ab (p * c) + ab (q * d)) <= (p * p + q * q) * (c * c + d * d):=by
 rw [ab_mul,ab_mul]
 have h:=sq_nonneg (ab p * ab d - ab q * ab c)
 have e1:=ab_sq p
 have e2:=ab_sq q
 have e3:=ab_sq c
 have e4:=ab_sq d
 rw [<- e1,<- e2,<- e3,<- e4]
 generalize ab p = p at *
 generalize ab q = q at *
 generalize ab c = c at *
 generalize ab d = d at *
 grind
def muF : Rat:=24145 / 10000 * uu
noncomputable def thF : Rat:=2 * (1099511627776 + 1) * (9 * (eta * eta))
theorem one_tri {a b : Cx} {x y R : Rat} (hx : 0 <= x) (hy : 0 <= y) (hR : 0 <= R) (ha : n2 a <= x * x * R) (hb : n2 b <= y * y * R) : n2 (Cx.add a b) <= (x + y) * (x + y) * R:=by
 have e : ∀ z : Cx,N2 1 (fun _=>z) = n2 z:=fun z=>by unfold N2; simp only [sumN]; grind
 have h:=N2_tri (n:=1) (f:=fun _=>a) (g:=fun _=>b) hx hy hR (by rw [e]; exact ha) (by rw [e]; exact hb)
 rw [e] at h
 exact h
theorem mu_ok : (1 + 1 / 1099511627776) * ((uu + 14143 / 10000 * (uu + uu * uu)) * (uu + 14143 / 10000 * (uu + uu * uu))) <= muF * muF:=by decide +kernel
theorem sqrt_two : 2 <= (14143 / 10000 : Rat) * (14143 / 10000):=by decide +kernel
theorem both_err {er ei X Y S1 S2 M e : Rat} (h1 : ab er <= uu * ab X + ((uu + uu * uu) * S1 + 3 * e)) (h2 : ab ei <= uu * ab Y + ((uu + uu * uu) * S2 + 3 * e)) (hM : X * X + Y * Y = M) (p1 : 0 <= S1) (p2 : 0 <= S2) (s1 : S1 * S1 <= M) (s2 : S2 * S2 <= M) (pe : 0 <= e) :
  er * er + ei * ei <= muF * muF * M + 2 * (1099511627776 + 1) * (9 * (e * e)):=by
 have pu:=uu_pos
 obtain ⟨v,hv⟩ : ∃ v,v = uu + uu * uu:=⟨_,rfl⟩
 have pv : 0 <= v:=by have:=Rat.mul_nonneg (Rat.le_of_lt pu) (Rat.le_of_lt pu); rw [hv]; grind
 have pM : 0 <= M:=by rw [<- hM]; have:=sq_nonneg X; have:=sq_nonneg Y; grind
 rw [<- hv] at h1 h2
 have k1:=sq_of_ab h1
 have k2:=sq_of_ab h2
 have a1 : n2 ⟨uu * ab X,uu * ab Y⟩ <= uu * uu * M:=by
  have e1:=ab_sq X
  have e2:=ab_sq Y
  simp only [n2]
  rw [<- hM,<- e1,<- e2]
  generalize ab X = x at *
  generalize ab Y = y at *
  generalize uu = u at *
  grind
 have a2 : n2 ⟨v * S1,v * S2⟩ <= (14143 / 10000 * v) * (14143 / 10000 * v) * M:=by
  have k3:=rmul_le s1 (sq_nonneg v)
  have k4:=rmul_le s2 (sq_nonneg v)
  have k5:=Rat.mul_le_mul_of_nonneg_right sqrt_two (Rat.mul_nonneg (sq_nonneg v) pM)
  simp only [n2]
  grind
 have a3:=one_tri (Rat.le_of_lt pu) (show 0 <= 14143 / 10000 * v by grind) pM a1 a2
 have a4:=Cx.n2_tri (Cx.add ⟨uu * ab X,uu * ab Y⟩ ⟨v * S1,v * S2⟩) ⟨3 * e,3 * e⟩ 1099511627776 1
 have a5:=mu_ok
 rw [<- hv] at a5
 have a6:=Rat.mul_le_mul_of_nonneg_right a5 pM
 have a7 : n2 ⟨3 * e,3 * e⟩ = 2 * (9 * (e * e)):=by simp only [n2]; grind
 rw [a7] at a4
 have a8 : er * er + ei * ei <= n2 (Cx.add (Cx.add ⟨uu * ab X,uu * ab Y⟩ ⟨v * S1,v * S2⟩) ⟨3 * e,3 * e⟩):=by
  simp only [n2,Cx.add]
  grind
 generalize n2 (Cx.add (Cx.add ⟨uu * ab X,uu * ab Y⟩ ⟨v * S1,v * S2⟩) ⟨3 * e,3 * e⟩) = z at *
 generalize n2 (Cx.add ⟨uu * ab X,uu * ab Y⟩ ⟨v * S1,v * S2⟩) = y at *
 generalize uu + 14143 / 10000 * v = t at *
 generalize muF * muF = m at *
 generalize e * e = w at *
 clear a1 a2 k1 k2 h1 h2 s1 s2 hM hv
 grind
theorem cmul_ok (a b : Nat × Nat) (ha : cok a) (hb : cok b) (h1 : n2 (cval a) <= tq * tq) (h2 : n2 (cval b) <= tq * tq) (h3 : n2 (cval a) * n2 (cval b) <= tq * tq) :
  cok (cmul a b) /\ n2 (Cx.sub (cval (cmul a b)) (Cx.mul (cval a) (cval b))) <= muF * muF * (n2 (cval a) * n2 (cval b)) + thF:=by
 obtain ⟨p,hp⟩ : ∃ p,p = fv a.1:=⟨_,rfl⟩
 obtain ⟨q,hq⟩ : ∃ q,q = fv a.2:=⟨_,rfl⟩
 obtain ⟨c,hc⟩ : ∃ c,c = fv b.1:=⟨_,rfl⟩
 obtain ⟨d,hd⟩ : ∃ d,d = fv b.2:=⟨_,rfl⟩
 have pt:=tq_pos
 have tt:=tq_top
 have te : 2 <= tq:=by have:=tq_big; have:=pw_two (a:=1000) (by omega); grind
 have el:=eta_le
 have pe:=eta_pos
 have ul : uu <= 1 / 4:=by decide +kernel
 have pu:=uu_pos
 have hN : n2 (cval a) * n2 (cval b) = (p * p + q * q) * (c * c + d * d):=by simp only [n2,cval]; rw [hp,hq,hc,hd]
 rw [hN] at h3 ⊢
 have sP:=cs_le p q c d
 have sQ:=cs_le p q d c
 have eQ : (p * p + q * q) * (d * d + c * c) = (p * p + q * q) * (c * c + d * d):=by grind
 rw [eQ] at sQ
 have n1:=ab_nonneg (p * c)
 have n2':=ab_nonneg (q * d)
 have n3:=ab_nonneg (p * d)
 have n4:=ab_nonneg (q * c)
 have lP : ab (p * c) + ab (q * d) <= tq:=le_of_sq (Rat.le_of_lt pt) (Rat.le_trans sP h3)
 have lQ : ab (p * d) + ab (q * c) <= tq:=le_of_sq (Rat.le_of_lt pt) (Rat.le_trans sQ h3)
 have F1:=fm_ok ha.1 hb.1 (by rw [<- hp,<- hc]; grind)
 have F2:=fm_ok ha.2 hb.2 (by rw [<- hq,<- hd]; grind)
 have F3:=fm_ok ha.1 hb.2 (by rw [<- hp,<- hd]; grind)
 have F4:=fm_ok ha.2 hb.1 (by rw [<- hq,<- hc]; grind)
 rw [<- hp,<- hc] at F1
 rw [<- hq,<- hd] at F2
 rw [<- hp,<- hd] at F3
 rw [<- hq,<- hc] at F4
 obtain ⟨f1,hf1⟩ : ∃ f,f = fv (fm a.1 b.1):=⟨_,rfl⟩
 obtain ⟨f2,hf2⟩ : ∃ f,f = fv (fm a.2 b.2):=⟨_,rfl⟩
 obtain ⟨f3,hf3⟩ : ∃ f,f = fv (fm a.1 b.2):=⟨_,rfl⟩
 obtain ⟨f4,hf4⟩ : ∃ f,f = fv (fm a.2 b.1):=⟨_,rfl⟩
 have E1:=F1.2.1
 have E2:=F2.2.1
 have E3:=F3.2.1
 have E4:=F4.2.1
 rw [<- hf1] at E1
 rw [<- hf2] at E2
 rw [<- hf3] at E3
 rw [<- hf4] at E4
 have near : ∀ {P f : Rat},ab (f - P) <= uu * ab P + eta -> ab P <= tq -> ab f <= 2 * tq:=fun {P f} h hP=>by
  have h5:=ab_tri P (f - P)
  have e5 : P + (f - P) = f:=by grind
  rw [e5] at h5
  have h6:=Rat.mul_le_mul_of_nonneg_right ul (ab_nonneg P)
  grind
 have l1:=near E1 (by grind)
 have l2:=near E2 (by grind)
 have l3:=near E3 (by grind)
 have l4:=near E4 (by grind)
 have G1:=fs_ok F1.1 F2.1 (by rw [<- hf1,<- hf2]; have:=ab_tri f1 (-f2); rw [ab_neg] at this; have e : f1 + -f2 = f1 - f2:=by grind
                              rw [e] at this; grind)
 have G2:=fa_ok F3.1 F4.1 (by rw [<- hf3,<- hf4]; have:=ab_tri f3 f4; grind)
 rw [<- hf1,<- hf2] at G1
 rw [<- hf3,<- hf4] at G2
 refine ⟨⟨G1.1,G2.1⟩,?_⟩
 have g1:=G1.2.1
 have g2:=G2.2.1
 obtain ⟨w1,hw1⟩ : ∃ g,g = fv (fs (fm a.1 b.1) (fm a.2 b.2)):=⟨_,rfl⟩
 obtain ⟨w2,hw2⟩ : ∃ g,g = fv (fa (fm a.1 b.2) (fm a.2 b.1)):=⟨_,rfl⟩
 rw [<- hw1] at g1
 rw [<- hw2] at g2
 have E2' : ab (-f2 - -(q * d)) <= uu * ab (-(q * d)) + eta:=by
  have e : -f2 - -(q * d) = -(f2 - q * d):=by grind
  rw [e,ab_neg,ab_neg]
  exact E2
 have g1' : ab (w1 - (f1 + -f2)) <= uu * ab (f1 + -f2):=by
  have e : f1 + -f2 = f1 - f2:=by grind
  rw [e]
  exact g1
 have q1:=(part_err (P1:=p * c) (P2:=-(q * d)) (f1:=f1) (f2:=-f2) (g:=w1) E1 E2' g1').1
 have q2:=(part_err (P1:=p * d) (P2:=q * c) (f1:=f3) (f2:=f4) (g:=w2) E3 E4 g2).1
 rw [ab_neg] at q1
 have e1 : p * c + -(q * d) = p * c - q * d:=by grind
 rw [e1] at q1
 have hM : (p * c - q * d) * (p * c - q * d) + (p * d + q * c) * (p * d + q * c) = (p * p + q * q) * (c * c + d * d):=by grind
 have fin:=both_err (er:=w1 - (p * c - q * d)) (ei:=w2 - (p * d + q * c)) q1 q2 hM (by grind) (by grind) sP sQ (Rat.le_of_lt pe)
 have goal : n2 (Cx.sub (cval (cmul a b)) (Cx.mul (cval a) (cval b))) = (w1 - (p * c - q * d)) * (w1 - (p * c - q * d)) + (w2 - (p * d + q * c)) * (w2 - (p * d + q * c)):=by
  simp only [n2,Cx.sub,Cx.mul,cval,cmul]
  rw [<- hw1,<- hw2,<- hp,<- hq,<- hc,<- hd]
 rw [goal]
 unfold thF
 exact fin
noncomputable def NF : Near (Nat × Nat) where
 val:=cval
 ok:=cok
 add:=cadd
 sub:=csub
 mul:=cmul
 u:=uu
 mu:=muF
 theta:=thF
 big:=tq * tq
 pu:=Rat.le_of_lt uu_pos
 pmu:=by decide +kernel
 hadd:=cadd_ok
 hsub:=csub_ok
 hbig:=by
  have te : 2 <= tq:=by have:=tq_big; have:=pw_two (a:=1000) (by omega); grind
  have:=sq_le (show (0 : Rat) <= 2 by decide) (by grind) te
  grind
 hmul:=cmul_ok
end
section
open Cx (n2)
def tauF : Rat:=1 / 1267650600228229401496703205376
def omF : Rat:=1 + 1 / 1099511627776
def rhoF : Rat:=7072 / 10000 * uu
def kapF : Rat:=1 / 1208925819614629174706176
def epsF (k : Nat) : Rat:=(k : Rat) * (42 / 10 * uu)
noncomputable def phiF : Rat:=(pw 500)⁻¹
theorem phi_pos : 0 < phiF:=Rat.inv_pos.2 (pw_pos 500)
theorem phi_one : phiF * pw 500 = 1:=Rat.inv_mul_cancel _ (by have:=pw_pos 500; grind)
theorem stepF : ∀ k,k < 14 -> ((1 + tauF) * epsF k + ((muF * omF + rhoF) * (gamK tauF k + epsF k) + kapF)) + uu * ((1 + tauF) * gamK tauF k + ((1 + tauF) * epsF k + ((muF * omF + rhoF) * (gamK tauF k + epsF k) + kapF))) <= epsF (k + 1):=by decide +kernel
theorem lgeF : ∀ k,k < 15 -> gamK tauF k + epsF k <= 2:=by decide +kernel
theorem pepsF : ∀ k,k < 15 -> 0 <= epsF k:=by decide +kernel
theorem eta_phi : eta * pw 1000 <= 1:=by
 have h1:=eta_one
 have h2:=rmul_le (pw_le (show 1000 <= 1074 by omega)) (Rat.le_of_lt eta_pos)
 grind
theorem eta_phi2 : eta * pw 500 <= phiF:=by
 have h1:=phi_one
 have h2:=eta_phi
 have e : pw 1000 = pw 500 * pw 500:=by rw [<- pw_add]
 rw [e] at h2
 have h3:=pw_pos 500
 exact rdiv_le h3 (by grind)
theorem th_phi : thF <= kapF * kapF * phiF:=by
 have h1:=eta_phi2
 have pe:=eta_pos
 have h2 : pw 500 = pw 300 * pw 200:=by rw [<- pw_add]
 have h3 : pw 300 = 2037035976334486086268445688409378161051468393665936250636140449354381299763336706183397376:=by decide +kernel
 have h4 : eta <= 1:=eta_le
 have h5:=pw_one 200
 -- eta * eta <= eta <= phi / 2^500
 have k1 : eta * eta <= eta:=by have:=rmul_le h4 (Rat.le_of_lt pe); grind
 have k2 : eta * pw 300 <= phiF:=by
  have:=rmul_le h5 (Rat.mul_nonneg (Rat.le_of_lt pe) (Rat.le_of_lt (pw_pos 300)))
  rw [h2] at h1
  grind
 rw [h3] at k2
 have k3 : 2 * (1099511627776 + 1) * 9 <= kapF * kapF * 2037035976334486086268445688409378161051468393665936250636140449354381299763336706183397376:=by decide +kernel
 have k4:=Rat.mul_le_mul_of_nonneg_right k3 (Rat.le_of_lt pe)
 have k5:=rmul_le k2 (sq_nonneg kapF)
 unfold thF
 generalize kapF * kapF = kk at *
 grind
noncomputable def rootsF {W : Nat -> Nat -> Nat × Nat} {C : Nat -> Nat -> Cx} {K : Nat} (hK : K <= 14) (hW : ∀ k j,k < K -> j < 2 ^ k -> cok (W k j) /\ n2 (cval (W k j)) <= omF * omF /\ n2 (Cx.sub (cval (W k j)) (C k j)) <= rhoF * rhoF) (hC : ∀ k j,k < K -> j < 2 ^ k -> n2 (C k j) <= 1 + tauF) : Roots NF W C K where
 om:=omF
 rho:=rhoF
 tau:=tauF
 kap:=kapF
 phi:=phiF
 eps:=epsF
 pom:=by decide +kernel
 prho:=by decide +kernel
 ptau:=by decide +kernel
 pkap:=by decide +kernel
 pphi:=Rat.le_of_lt phi_pos
 peps:=fun k hk=>pepsF k (by omega)
 pth:=by
  show 0 <= thF
  have:=Rat.mul_nonneg (Rat.le_of_lt eta_pos) (Rat.le_of_lt eta_pos)
  unfold thF; grind
 lom:=by decide +kernel
 lmu:=by show muF <= 1; decide +kernel
 lkap:=by decide +kernel
 lge:=fun k hk=>lgeF k (by omega)
 hth:=th_phi
 hW:=hW
 hC:=hC
 step:=fun k hk=>stepF k (by omega)
def kpF : Rat:=kapF
def etaF (K : Nat) : Rat:=etaW muF (gamK tauF K) (epsF K) kpF
def ThF (K : Nat) : Rat:=epsF K * (gamK tauF K * gamK tauF K + etaF K) + gamK tauF K * etaF K
theorem ThF_le : ∀ K,K < 15 -> ThF K <= 13 * ((K : Rat) + 1) * uu:=by decide +kernel
theorem ThF_pos : ∀ K,K < 15 -> 0 <= ThF K:=by decide +kernel
theorem sizeF : ∀ K,K < 15 -> (gamK tauF K * gamK tauF K + etaF K) * (gamK tauF K * gamK tauF K + etaF K) <= 2:=by decide +kernel
end
section
open Cx (n2)
theorem phi_small : phiF * pw 200 <= 1:=by
 have h1:=phi_one
 have h2:=rmul_le (pw_le (show 200 <= 500 by omega)) (Rat.le_of_lt phi_pos)
 grind
theorem th_phi2 : thF <= kpF * kpF * (phiF * phiF):=by
 have h1:=eta_phi2
 have pe:=eta_pos
 have pp:=phi_pos
 have h3 : pw 300 = 2037035976334486086268445688409378161051468393665936250636140449354381299763336706183397376:=by decide +kernel
 have p5:=pw_pos 500
 have k1 : (eta * pw 500) * (eta * pw 500) <= phiF * phiF:=sq_le (Rat.mul_nonneg (Rat.le_of_lt pe) (Rat.le_of_lt p5)) (Rat.le_of_lt pp) h1
 have k2 : pw 300 <= pw 500 * pw 500:=by rw [<- pw_add]; exact pw_le (by omega)
 have pee:=Rat.mul_nonneg (Rat.le_of_lt pe) (Rat.le_of_lt pe)
 have k4:=Rat.mul_le_mul_of_nonneg_right k2 pee
 rw [h3] at k4
 have k3 : 2 * (1099511627776 + 1) * 9 <= kpF * kpF * 2037035976334486086268445688409378161051468393665936250636140449354381299763336706183397376:=by decide +kernel
 have k5:=Rat.mul_le_mul_of_nonneg_right k3 pee
 have k6:=rmul_le (show 2037035976334486086268445688409378161051468393665936250636140449354381299763336706183397376 * (eta * eta) <= phiF * phiF by grind) (sq_nonneg kpF)
 unfold thF
 generalize kpF * kpF = kk at *
 grind
theorem uu2 : uu * uu * pw 106 <= 1 + 1 / 1000000:=by
 have : pw 106 = 81129638414606681695789005144064:=by decide +kernel
 rw [this]
 decide +kernel
theorem Qf_le {K : Nat} {X : Nat -> Cx} {A2 : Rat} (h : ∀ i,i < 2 ^ K -> n2 (X i) <= A2) : pw K * Qf phiF K X <= pw K * pw K * (A2 + phiF):=by
 have h1 : N2 (2 ^ K) X <= pw K * A2:=by
  rw [<- sumN_const]
  exact sumN_le (fun i hi=>h i hi)
 have h2:=rmul_le h1 (Rat.le_of_lt (pw_pos K))
 unfold Qf
 grind
theorem Qf_ge {K : Nat} {X : Nat -> Cx} : phiF * pw K <= pw K * Qf phiF K X:=by
 have h:=Qf_floor (Rat.le_of_lt phi_pos) K X
 have:=rmul_le h (Rat.le_of_lt (pw_pos K))
 grind
theorem last_bound {k p A2 B2 t phi : Rat} (hk0 : 0 <= k) (hk : k <= 14) (hp1 : 1 <= p) (hp : p <= 16384) (pA : 0 <= A2) (pB : 0 <= B2) (lA : A2 <= pw 106) (lB : B2 <= pw 106) (pt : 0 <= t) (ht : t <= 13 * (k + 1) * uu) (pphi : 0 <= phi) (hphi : phi * pw 200 <= 1)
  (prem : 4096 * ((k + 1) * (k + 1)) * (p * p * p * (A2 * B2)) <= pw 106) : t * t * (p * p * p * ((A2 + phi) * (B2 + phi)) + phi) <= 21 / 100 * (21 / 100):=by
 have pu:=uu_pos
 have e106 : pw 106 = 81129638414606681695789005144064:=by decide +kernel
 have e200 : pw 200 = 1606938044258990275541962092341162602522202993782792835301376:=by decide +kernel
 rw [e200] at hphi
 rw [e106] at lA lB
 -- t * t <= 169 (k + 1)^2 uu^2
 have ht2:=sq_le pt (show 0 <= 13 * (k + 1) * uu by have:=Rat.mul_nonneg (show 0 <= 13 * (k + 1) by grind) (Rat.le_of_lt pu); grind) ht
 obtain ⟨P,hP⟩ : ∃ P,P = p * p * p:=⟨_,rfl⟩
 have pP : 0 <= P:=by rw [hP]; exact Rat.mul_nonneg (sq_nonneg p) (by grind)
 have lP : P <= 4398046511104:=by
  have h1:=sq_le (show 0 <= p by grind) (show (0 : Rat) <= 16384 by decide) hp
  have h2:=Rat.mul_le_mul_of_nonneg_right h1 (show 0 <= p by grind)
  have h3:=rmul_le hp (show (0 : Rat) <= 16384 * 16384 by decide +kernel)
  rw [hP]
  grind
 rw [<- hP] at prem ⊢
 obtain ⟨Z,hZ⟩ : ∃ Z,Z = A2 * B2:=⟨_,rfl⟩
 have pZ : 0 <= Z:=by rw [hZ]; exact Rat.mul_nonneg pA pB
 rw [<- hZ] at prem
 have pPZ:=Rat.mul_nonneg pP pZ
 -- what the floor adds is below 1
 have fl : P * ((A2 + phi) * (B2 + phi)) + phi <= P * Z + 1:=by
  have phi1 : phi <= 1 / 1606938044258990275541962092341162602522202993782792835301376:=by grind
  have s1 : (A2 + phi) * (B2 + phi) = Z + phi * (A2 + B2 + phi):=by rw [hZ]; grind
  have s2 : A2 + B2 + phi <= 162259276829213363391578010288129:=by grind
  have s3:=rmul_le s2 pphi
  have s4 : phi * (A2 + B2 + phi) <= 1 / 9000000000000:=by grind
  have s5:=rmul_le s4 pP
  have s6:=Rat.mul_le_mul_of_nonneg_right lP (show (0 : Rat) <= 1 / 9000000000000 by decide +kernel)
  rw [s1]
  grind
 have h1:=rmul_le fl (sq_nonneg t)
 obtain ⟨w,hw⟩ : ∃ w,w = uu * uu:=⟨_,rfl⟩
 obtain ⟨m,hm⟩ : ∃ m,m = (k + 1) * (k + 1):=⟨_,rfl⟩
 have ht3 : t * t <= 169 * (m * w):=by
  have e : 13 * (k + 1) * uu * (13 * (k + 1) * uu) = 169 * (((k + 1) * (k + 1)) * (uu * uu)):=by grind
  rw [e,<- hm,<- hw] at ht2
  exact ht2
 have h2:=Rat.mul_le_mul_of_nonneg_right ht3 (show 0 <= P * Z + 1 by grind)
 have h3:=uu2
 rw [<- hw] at h3
 have pw' : 0 <= w:=by rw [hw]; exact Rat.mul_nonneg (Rat.le_of_lt pu) (Rat.le_of_lt pu)
 rw [<- hm] at prem
 have h4:=rmul_le prem pw'
 have hk2 : m <= 225:=by rw [hm]; have:=sq_le (show 0 <= k + 1 by grind) (show (0 : Rat) <= 15 by decide) (show k + 1 <= 15 by grind); grind
 have hk3:=Rat.mul_le_mul_of_nonneg_right hk2 pw'
 have hu : w <= 1 / 1000000000000000000000000000000:=by rw [hw]; decide +kernel
 obtain ⟨q,hq⟩ : ∃ q,q = m * w * (P * Z):=⟨_,rfl⟩
 have h5 : 4096 * q <= 1 + 1 / 1000000:=by
  have e : w * (4096 * m * (P * Z)) = 4096 * q:=by rw [hq]; grind
  rw [e] at h4
  exact Rat.le_trans h4 h3
 have h6 : 169 * (m * w) * (P * Z + 1) = 169 * q + 169 * (m * w):=by rw [hq]; grind
 rw [h6] at h2
 have h7 : m * w <= 225 * (1 / 1000000000000000000000000000000):=by grind
 have h8 : 169 * ((1 + 1 / 1000000) / 4096) + 169 * (225 * (1 / 1000000000000000000000000000000)) <= (21 / 100 * (21 / 100) : Rat):=by decide +kernel
 clear hw hm hq hP hZ ht ht2 ht3 lP lA lB prem h4 h3
 grind
theorem round_off {K : Nat} (hK : K <= 14) {R : Nat -> Cx} {W W2 : Nat -> Nat -> Nat × Nat}
  (hW : ∀ k j,k < K -> j < 2 ^ k -> cok (W k j) /\ n2 (cval (W k j)) <= omF * omF /\ n2 (Cx.sub (cval (W k j)) (lev R K k j)) <= rhoF * rhoF) (hC : ∀ k j,k < K -> j < 2 ^ k -> n2 (lev R K k j) <= 1 + tauF)
  (hW2 : ∀ k j,k < K -> j < 2 ^ k -> cok (W2 k j) /\ n2 (cval (W2 k j)) <= omF * omF /\ n2 (Cx.sub (cval (W2 k j)) (lev (cj R) K k j)) <= rhoF * rhoF) (hC2 : ∀ k j,k < K -> j < 2 ^ k -> n2 (lev (cj R) K k j) <= 1 + tauF)
  (x y : Nat -> Nat × Nat) (hx : ∀ i,i < 2 ^ K -> cok (x i)) (hy : ∀ i,i < 2 ^ K -> cok (y i)) {A2 B2 : Rat} (pA : 0 <= A2) (pB : 0 <= B2) (lA : A2 <= pw 106) (lB : B2 <= pw 106)
  (hA : ∀ i,i < 2 ^ K -> n2 (cval (x i)) <= A2) (hB : ∀ i,i < 2 ^ K -> n2 (cval (y i)) <= B2) (prem : 4096 * (((K : Rat) + 1) * ((K : Rat) + 1)) * (pw K * pw K * pw K * (A2 * B2)) <= pw 106) (i : Nat) (hi : i < 2 ^ K) :
  cok (net cadd csub cmul W2 K (fun j=>cmul (net cadd csub cmul W K x j) (net cadd csub cmul W K y j)) i) /\
  n2 (Cx.sub (cval (net cadd csub cmul W2 K (fun j=>cmul (net cadd csub cmul W K x j) (net cadd csub cmul W K y j)) i)) (netC (lev (cj R) K) K (fun j=>Cx.mul (netC (lev R K) K (fun i=>cval (x i)) j) (netC (lev R K) K (fun i=>cval (y i)) j)) i)) <= (21 / 100 * pw K) * (21 / 100 * pw K):=by
 obtain ⟨Su,hSu⟩ : ∃ S,S = pw K * Qf phiF K (fun i=>cval (x i)):=⟨_,rfl⟩
 obtain ⟨Sv,hSv⟩ : ∃ S,S = pw K * Qf phiF K (fun i=>cval (y i)):=⟨_,rfl⟩
 have pp:=phi_pos
 have ps:=phi_small
 have pM:=pw_pos K
 have lM:=pw_one K
 have uM : pw K <= 16384:=by
  have h1:=pw_le hK
  have : pw 14 = 16384:=by decide +kernel
  grind
 have e106 : pw 106 = 81129638414606681695789005144064:=by decide +kernel
 have e200 : pw 200 = 1606938044258990275541962092341162602522202993782792835301376:=by decide +kernel
 have phi1 : phiF <= 1:=by rw [e200] at ps; grind
 have lSu : Su <= pw K * pw K * (A2 + phiF):=by rw [hSu]; exact Qf_le hA
 have lSv : Sv <= pw K * pw K * (B2 + phiF):=by rw [hSv]; exact Qf_le hB
 have gSu : phiF * pw K <= Su:=by rw [hSu]; exact Qf_ge
 have gSv : phiF * pw K <= Sv:=by rw [hSv]; exact Qf_ge
 have pSu : 0 <= Su:=Rat.le_trans (Rat.mul_nonneg (Rat.le_of_lt pp) (Rat.le_of_lt pM)) gSu
 have pSv : 0 <= Sv:=Rat.le_trans (Rat.mul_nonneg (Rat.le_of_lt pp) (Rat.le_of_lt pM)) gSv
 have pMM:=Rat.mul_nonneg (Rat.le_of_lt pM) (Rat.le_of_lt pM)
 have lMM : pw K * pw K <= 268435456:=by have:=sq_le (Rat.le_of_lt pM) (show (0 : Rat) <= 16384 by decide) uM; grind
 -- crude bounds: far below what floats hold
 have cu : Su <= 30000000000000000000000000000000000000000:=by
  have h1:=rmul_le (show A2 + phiF <= 81129638414606681695789005144065 by rw [e106] at lA; grind) pMM
  have h2:=Rat.mul_le_mul_of_nonneg_right lMM (show (0 : Rat) <= 81129638414606681695789005144065 by decide)
  grind
 have cv : Sv <= 30000000000000000000000000000000000000000:=by
  have h1:=rmul_le (show B2 + phiF <= 81129638414606681695789005144065 by rw [e106] at lB; grind) pMM
  have h2:=Rat.mul_le_mul_of_nonneg_right lMM (show (0 : Rat) <= 81129638414606681695789005144065 by decide)
  grind
 have pSS:=Rat.mul_nonneg pSu pSv
 have cSS : Su * Sv <= 900000000000000000000000000000000000000000000000000000000000000000000000000000000:=by
  have h1:=rmul_le cv pSu
  have h2:=Rat.mul_le_mul_of_nonneg_right cu (show (0 : Rat) <= 30000000000000000000000000000000000000000 by decide)
  grind
 have big : 100000000000000000000000000000000000000000000000000000000000000000000000000000000000000000000 <= tq * tq:=by
  have h1:=tq_big
  have h2 : pw 310 <= tq:=Rat.le_trans (pw_le (by omega)) h1
  have h3 : (100000000000000000000000000000000000000000000000000000000000000000000000000000000000000000000 : Rat) <= pw 310:=by decide +kernel
  have h4 : 1 <= tq:=by have:=pw_one 310; grind
  have h5:=rmul_le h4 (Rat.le_of_lt tq_pos)
  grind
 obtain ⟨S2,hS2⟩ : ∃ S2,S2 = Su * Sv + pw K * phiF:=⟨_,rfl⟩
 have pMp:=Rat.mul_nonneg (Rat.le_of_lt pM) (Rat.le_of_lt pp)
 have cS2 : S2 <= 900000000000000000000000000000000000000000000000000000000000000000000000000020000:=by
  have h1:=rmul_le phi1 (Rat.le_of_lt pM)
  rw [hS2]; grind
 have pS2 : 0 <= S2:=by rw [hS2]; grind
 have hkp : pw K * thF <= kpF * kpF * (Su * Sv):=by
  have h1:=rmul_le th_phi2 (Rat.le_of_lt pM)
  have h2 : phiF * phiF * pw K <= Su * Sv:=by
   have k1:=Rat.mul_le_mul_of_nonneg_right gSu pSv
   have k2:=rmul_le gSv (Rat.mul_nonneg (Rat.le_of_lt pp) (Rat.le_of_lt pM))
   have k3:=rmul_le lM (Rat.mul_nonneg (Rat.mul_nonneg (Rat.le_of_lt pp) (Rat.le_of_lt pp)) (Rat.le_of_lt pM))
   grind
  have h3:=rmul_le h2 (sq_nonneg kpF)
  grind
 have key:=cyc_err (rootsF hK hW hC) (rootsF hK hW2 hC2) x y hx hy (Su:=Su) (Sv:=Sv) (kp:=kpF) (S2:=S2) hSu hSv (by decide +kernel) hkp hS2
  (by show 40 * Su <= tq * tq; grind) (by show 40 * Sv <= tq * tq; grind) (by show 16 * (Su * Sv) <= tq * tq; grind)
  (by
   show 40 * (pw K * ((gamK tauF K * gamK tauF K + etaF K) * (gamK tauF K * gamK tauF K + etaF K) * S2)) <= tq * tq
   have h1:=Rat.mul_le_mul_of_nonneg_right (sizeF K (by omega)) pS2
   have h2:=rmul_le h1 (Rat.le_of_lt pM)
   have h3:=Rat.mul_le_mul_of_nonneg_right uM (show 0 <= 2 * S2 by grind)
   grind)
 refine ⟨key.1 i hi,?_⟩
 have h1:=N2_at (dif (fun i=>cval (net cadd csub cmul W2 K (fun j=>cmul (net cadd csub cmul W K x j) (net cadd csub cmul W K y j)) i)) (netC (lev (cj R) K) K (fun j=>Cx.mul (netC (lev R K) K (fun i=>cval (x i)) j) (netC (lev R K) K (fun i=>cval (y i)) j)))) hi
 have h2 : N2 (2 ^ K) (dif (fun i=>cval (net cadd csub cmul W2 K (fun j=>cmul (net cadd csub cmul W K x j) (net cadd csub cmul W K y j)) i)) (netC (lev (cj R) K) K (fun j=>Cx.mul (netC (lev R K) K (fun i=>cval (x i)) j) (netC (lev R K) K (fun i=>cval (y i)) j)))) <= ThF K * ThF K * (pw K * S2):=key.2
 refine Rat.le_trans h1 (Rat.le_trans h2 ?_)
 have hk14 : (K : Rat) <= 14:=Rat.natCast_le_natCast.2 hK
 have lb:=last_bound (k:=(K : Rat)) (p:=pw K) (A2:=A2) (B2:=B2) (t:=ThF K) (phi:=phiF) Rat.natCast_nonneg hk14 lM uM pA pB lA lB (ThF_pos K (by omega)) (ThF_le K (by omega)) (Rat.le_of_lt pp) ps prem
 -- pw K * S2 <= pw K ^ 2 * (pw K ^ 3 (A2 + phi) (B2 + phi) + phi)
 have s1 : Su * Sv <= (pw K * pw K * (A2 + phiF)) * (pw K * pw K * (B2 + phiF)):=by
  have k1:=Rat.mul_le_mul_of_nonneg_right lSu pSv
  have k2:=rmul_le lSv (show 0 <= pw K * pw K * (A2 + phiF) from Rat.mul_nonneg pMM (by grind))
  grind
 have s2 : pw K * S2 <= pw K * pw K * (pw K * pw K * pw K * ((A2 + phiF) * (B2 + phiF)) + phiF):=by
  have k1:=rmul_le s1 (Rat.le_of_lt pM)
  rw [hS2]
  grind
 have s3:=rmul_le s2 (sq_nonneg (ThF K))
 have s4:=rmul_le lb pMM
 generalize pw K * pw K * pw K * ((A2 + phiF) * (B2 + phiF)) + phiF = q at *
 clear key h1 h2 s1 prem
 grind
end
end Go.Proofs.YtnpanpkahbcecaaGreatDoor

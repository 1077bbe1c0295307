/-
Floats' roots held against the table, by whole numbers that the kernel reckons.
-/
import Derived.Test.YtnpanpkahbcecaaGreatDoorP10
import Derived.Lib.Hide
set_option linter.unusedVariables false
set_option linter.unusedSimpArgs false
namespace Go.Proofs.YtnpanpkahbcecaaGreatDoor
section
open Cx (n2)
def sumI : Nat -> (Nat -> Int) -> Int
 | 0,_=>0
 | n + 1,f=>sumI n f + f n
def convI (n : Nat) (X Y : Nat -> Int) (i : Nat) : Int:=sumI n (fun p=>X p * Y ((i + n - p) % n))
theorem sumC_int (n : Nat) (f : Nat -> Int) : sumC n (fun p=>⟨(f p : Rat),0⟩) = ⟨(sumI n f : Rat),0⟩:=by
 induction n with
 | zero=>rfl
 | succ n ih =>
   simp only [sumC,sumI,ih]
   apply Cx.ext <;> simp only [Cx.add]
   ·rw [Rat.intCast_add]
   ·grind
theorem conv_int {n : Nat} {x y : Nat -> Cx} {X Y : Nat -> Int} (hx : ∀ i,i < n -> x i = ⟨(X i : Rat),0⟩) (hy : ∀ i,i < n -> y i = ⟨(Y i : Rat),0⟩) (i : Nat) (hn : 0 < n) : conv n x y i = ⟨(convI n X Y i : Rat),0⟩:=by
 unfold conv convI
 rw [<- sumC_int]
 refine sumC_congr (fun p hp=>?_)
 rw [hx p hp,hy _ (Nat.mod_lt _ hn)]
 apply Cx.ext <;> simp only [Cx.mul]
 ·rw [Rat.intCast_mul]; grind
 ·grind
theorem tk_eq (tau : Rat) : ∀ k,3 * tk tau k = (pw (2 * k) - 1) * tau
 | 0=>by simp only [tk,pw]; grind
 | k + 1=>by
   have ih:=tk_eq tau k
   rw [show 2 * (k + 1) = 2 * k + 1 + 1 by omega]
   simp only [tk,pw]
   grind
theorem tk_le {tau : Rat} (h : 0 <= tau) (k : Nat) : tk tau k <= pw (2 * k) * tau:=by
 have h1:=tk_eq tau k
 have h2:=Rat.mul_nonneg (Rat.le_of_lt (pw_pos (2 * k))) h
 grind
theorem farT_le {K : Nat} (hK : K <= 14) {tau a b : Rat} (pt : 0 <= tau) (lt : tau * pw 150 <= 1) (pa : 0 <= a) (pb : 0 <= b) (lab : a * b <= pw 60) : farT K tau a b <= pw K * (1 / 100):=by
 have pab:=Rat.mul_nonneg pa pb
 have pM:=pw_pos K
 obtain ⟨d,hd⟩ : ∃ d,d = tk tau K:=⟨_,rfl⟩
 have pd : 0 <= d:=by rw [hd]; exact tk_pos pt K
 have ld : d <= pw 28 * tau:=by
  rw [hd]
  exact Rat.le_trans (tk_le pt K) (Rat.mul_le_mul_of_nonneg_right (pw_le (by omega)) pt)
 have e28 : pw 28 = 268435456:=by decide +kernel
 have e60 : pw 60 = 1152921504606846976:=by decide +kernel
 have e150 : pw 150 = 1427247692705959881058285969449495136382746624:=by decide +kernel
 rw [e28] at ld
 rw [e60] at lab
 rw [e150] at lt
 have d1 : d <= 1:=by grind
 obtain ⟨z,hz⟩ : ∃ z,z = a * b:=⟨_,rfl⟩
 rw [<- hz] at pab lab
 have pz:=pab
 have k1:=Rat.mul_nonneg pd pz
 have k2 : d * z * d <= d * z * 1:=rmul_le d1 k1
 have k2':=Rat.mul_nonneg k1 pd
 have k3 : d * z * d * d <= d * z * d * 1:=rmul_le d1 k2'
 have e : farT K tau a b = pw K * (4 * (4 * (d * z) + 4 * (d * z * d) + d * z * d * d) + 4 * (4 * (d * z) + 2 * (d * z * d) + 4 * (d * z)) + 9 * (tau * z)):=by
  unfold farT
  simp only
  rw [<- hd,hz]
  grind
 rw [e]
 refine rmul_le ?_ (Rat.le_of_lt pM)
 have k4:=Rat.mul_le_mul_of_nonneg_right ld pz
 have k5:=rmul_le lab pt
 have k6 : d * z <= 268435456 * (tau * z):=by grind
 have k7 : tau * z <= 1152921504606846976 * tau:=by grind
 generalize d * z = u at *
 generalize u * d = v at *
 grind
theorem X1_le {K : Nat} {x : Nat -> Cx} {m : Rat} (h : ∀ i,i < 2 ^ K -> s1 (x i) <= m) : X1 K x <= pw K * m:=by
 unfold X1
 rw [<- sumN_const]
 exact sumN_le h
theorem round_int {K : Nat} (hK : K <= 14) {R : Nat -> Cx} {tau0 : Rat} (T : Tab (2 ^ K) R tau0) (lt : tau0 * pw 150 <= 1) (hc : ∀ m,Cx.near (Cx.conj (R m)) (R (m * (2 ^ K - 1))) tau0) {W W2 : Nat -> Nat -> Nat × Nat}
  (hW : ∀ k j,k < K -> j < 2 ^ k -> cok (W k j) /\ n2 (cval (W k j)) <= omF * omF /\ n2 (Cx.sub (cval (W k j)) (lev R K k j)) <= rhoF * rhoF) (hC : ∀ k j,k < K -> j < 2 ^ k -> n2 (lev R K k j) <= 1 + tauF)
  (hW2 : ∀ k j,k < K -> j < 2 ^ k -> cok (W2 k j) /\ n2 (cval (W2 k j)) <= omF * omF /\ n2 (Cx.sub (cval (W2 k j)) (lev (cj R) K k j)) <= rhoF * rhoF) (hC2 : ∀ k j,k < K -> j < 2 ^ k -> n2 (lev (cj R) K k j) <= 1 + tauF)
  (x y : Nat -> Nat × Nat) (X Y : Nat -> Int) {ma mb : Rat} (hx : ∀ i,i < 2 ^ K -> cok (x i) /\ cval (x i) = ⟨(X i : Rat),0⟩) (hy : ∀ i,i < 2 ^ K -> cok (y i) /\ cval (y i) = ⟨(Y i : Rat),0⟩)
  (lX : ∀ i,i < 2 ^ K -> ab (X i : Rat) <= ma) (lY : ∀ i,i < 2 ^ K -> ab (Y i : Rat) <= mb) (pa : 0 <= ma) (pb : 0 <= mb) (la : ma <= pw 53) (lb : mb <= pw 53)
  (prem : 4096 * (((K : Rat) + 1) * ((K : Rat) + 1)) * (pw K * pw K * pw K * ((ma * ma) * (mb * mb))) <= pw 106) (i : Nat) (hi : i < 2 ^ K) :
  cok (net cadd csub cmul W2 K (fun j=>cmul (net cadd csub cmul W K x j) (net cadd csub cmul W K y j)) i) /\
  ab ((cval (net cadd csub cmul W2 K (fun j=>cmul (net cadd csub cmul W K x j) (net cadd csub cmul W K y j)) i)).re - pw K * (convI (2 ^ K) X Y i : Rat)) <= pw K * (22 / 100):=by
 have pM:=pw_pos K
 have sqA : ma * ma <= pw 106:=by have h:=sq_le pa (Rat.le_of_lt (pw_pos 53)) la; rw [<- pw_add] at h; exact h
 have sqB : mb * mb <= pw 106:=by have h:=sq_le pb (Rat.le_of_lt (pw_pos 53)) lb; rw [<- pw_add] at h; exact h
 have nX : ∀ i,i < 2 ^ K -> n2 (cval (x i)) <= ma * ma:=fun i hi=>by
  rw [(hx i hi).2]
  have h:=sq_of_ab (lX i hi)
  simp only [n2]
  grind
 have nY : ∀ i,i < 2 ^ K -> n2 (cval (y i)) <= mb * mb:=fun i hi=>by
  rw [(hy i hi).2]
  have h:=sq_of_ab (lY i hi)
  simp only [n2]
  grind
 have h:=round_off hK hW hC hW2 hC2 x y (fun i hi=>(hx i hi).1) (fun i hi=>(hy i hi).1) (Rat.mul_nonneg pa pa) (Rat.mul_nonneg pb pb) sqA sqB nX nY prem i hi
 refine ⟨h.1,?_⟩
 have e:=exact_near T hc (fun i=>cval (x i)) (fun i=>cval (y i)) i hi
 rw [conv_int (fun i hi=>(hx i hi).2) (fun i hi=>(hy i hi).2) i (Nat.two_pow_pos K)] at e
 -- the sums of sizes
 have sX : X1 K (fun i=>cval (x i)) <= pw K * ma:=X1_le (fun i hi=>by
  rw [(hx i hi).2]
  have h:=lX i hi
  unfold s1
  have h0 : ab (0 : Rat) = 0:=by unfold ab; grind
  simp only
  rw [h0]; grind)
 have sY : X1 K (fun i=>cval (y i)) <= pw K * mb:=X1_le (fun i hi=>by
  rw [(hy i hi).2]
  have h:=lY i hi
  unfold s1
  have h0 : ab (0 : Rat) = 0:=by unfold ab; grind
  simp only
  rw [h0]; grind)
 have p1:=X1_nonneg K (fun i=>cval (x i))
 have p2:=X1_nonneg K (fun i=>cval (y i))
 have lab : X1 K (fun i=>cval (x i)) * X1 K (fun i=>cval (y i)) <= pw 60:=by
  have k1:=Rat.mul_le_mul_of_nonneg_right sX p2
  have k2:=rmul_le sY (show 0 <= pw K * ma from Rat.mul_nonneg (Rat.le_of_lt pM) pa)
  -- (pw K ma pw K mb)^2 <= pw K * pw 106 / 4096
  refine Rat.le_trans (Rat.le_trans k1 k2) (le_of_sq (Rat.le_of_lt (pw_pos 60)) ?_)
  have uM : pw K <= 16384:=by
   have h1:=pw_le hK
   have : pw 14 = 16384:=by decide +kernel
   grind
  obtain ⟨q,hq⟩ : ∃ q,q = pw K * pw K * pw K * ((ma * ma) * (mb * mb)):=⟨_,rfl⟩
  have pq : 0 <= q:=by rw [hq]; exact Rat.mul_nonneg (Rat.mul_nonneg (Rat.mul_nonneg (Rat.le_of_lt pM) (Rat.le_of_lt pM)) (Rat.le_of_lt pM)) (Rat.mul_nonneg (sq_nonneg ma) (sq_nonneg mb))
  rw [<- hq] at prem
  have hk : 1 <= ((K : Rat) + 1) * ((K : Rat) + 1):=by
   have h0 : (0 : Rat) <= (K : Rat):=Rat.natCast_nonneg
   have:=sq_le (show (0 : Rat) <= 1 by decide) (show 0 <= (K : Rat) + 1 by grind) (show 1 <= (K : Rat) + 1 by grind)
   grind
  have k3:=Rat.mul_le_mul_of_nonneg_right hk pq
  have k4 : 4096 * q <= pw 106:=by grind
  have k5:=Rat.mul_le_mul_of_nonneg_right uM pq
  have e2 : pw K * ma * (pw K * mb) * (pw K * ma * (pw K * mb)) = pw K * q:=by rw [hq]; grind
  rw [e2,<- pw_add]
  have k6 : pw (60 + 60) = 16384 * pw 106:=by decide +kernel
  rw [k6]
  have p106:=pw_pos 106
  grind
 have ft:=farT_le hK T.ptau lt p1 p2 lab
 have c1:=(part_le (show 0 <= 21 / 100 * pw K by grind) h.2).1
 have e3 : ((2 ^ K : Nat) : Rat) = pw K:=pw_cast K
 rw [e3] at e
 obtain ⟨V,hV⟩ : ∃ V,V = netC (lev (cj R) K) K (fun j=>Cx.mul (netC (lev R K) K (fun i=>cval (x i)) j) (netC (lev R K) K (fun i=>cval (y i)) j)) i:=⟨_,rfl⟩
 rw [<- hV] at e c1
 unfold Cx.near at e
 simp only [Cx.mul] at e
 simp only [Cx.sub] at c1
 have c2:=ab_le ((cval (net cadd csub cmul W2 K (fun j=>cmul (net cadd csub cmul W K x j) (net cadd csub cmul W K y j)) i)).re - V.re)
 obtain ⟨e4,e5,_⟩:=e
 exact ab_of (by grind) (by grind)
end
section
open Cx (n2)
def sc : Int:=1606938044258990275541962092341162602522202993782792835301376
def stepT (g c : Int × Int) : Int × Int:=((c.1 * g.1 - c.2 * g.2) / sc,(c.1 * g.2 + c.2 * g.1) / sc)
def cT (g : Int × Int) : Nat -> Int × Int
 | 0=>(sc,0)
 | j + 1=>stepT g (cT g j)
def qr : Rat:=1606938044258990275541962092341162602522202993782792835301376
def cq (z : Int × Int) : Cx:=⟨(z.1 : Rat) / qr,(z.2 : Rat) / qr⟩
theorem qr_pos : (0 : Rat) < qr:=by decide +kernel
theorem div_off (a : Int) : ((a / sc : Int) : Rat) * qr <= (a : Rat) /\ (a : Rat) <= ((a / sc : Int) : Rat) * qr + qr:=by
 have hs : (0 : Int) < sc:=by decide
 have h1:=Int.emod_add_mul_ediv a sc
 have h2:=Int.emod_nonneg a (show sc ≠ 0 by decide)
 have h3:=Int.emod_lt_of_pos a hs
 have e : (sc : Rat) = qr:=by decide +kernel
 have k1 : sc * (a / sc) <= a:=by omega
 have k2 : a <= sc * (a / sc) + sc:=by omega
 have k3 : ((sc * (a / sc) : Int) : Rat) <= (a : Rat):=Rat.intCast_le_intCast.2 k1
 have k4 : (a : Rat) <= ((sc * (a / sc) + sc : Int) : Rat):=Rat.intCast_le_intCast.2 k2
 rw [Rat.intCast_mul,e] at k3
 rw [Rat.intCast_add,Rat.intCast_mul,e] at k4
 grind
def sig : Rat:=1 / 803469022129495137770981046170581301261101496891396417650688
theorem stepT_off (g c : Int × Int) : n2 (Cx.sub (cq (stepT g c)) (Cx.mul (cq c) (cq g))) <= sig * sig:=by
 have h1:=div_off (c.1 * g.1 - c.2 * g.2)
 have h2:=div_off (c.1 * g.2 + c.2 * g.1)
 rw [Rat.intCast_sub,Rat.intCast_mul,Rat.intCast_mul] at h1
 rw [Rat.intCast_add,Rat.intCast_mul,Rat.intCast_mul] at h2
 have hq:=qr_pos
 obtain ⟨i,hi⟩ : ∃ i,i = qr⁻¹:=⟨_,rfl⟩
 have hiq : i * qr = 1:=by rw [hi]; exact Rat.inv_mul_cancel _ (by grind)
 have pi : 0 < i:=by rw [hi]; exact Rat.inv_pos.2 hq
 have ei : i = 1 / 1606938044258990275541962092341162602522202993782792835301376:=by rw [hi]; decide +kernel
 obtain ⟨a,ha⟩ : ∃ a : Rat,a = (((c.1 * g.1 - c.2 * g.2) / sc : Int) : Rat):=⟨_,rfl⟩
 obtain ⟨b,hb⟩ : ∃ b : Rat,b = (((c.1 * g.2 + c.2 * g.1) / sc : Int) : Rat):=⟨_,rfl⟩
 rw [<- ha] at h1
 rw [<- hb] at h2
 have r1 : (cq (stepT g c)).re = a * i:=by show (((c.1 * g.1 - c.2 * g.2) / sc : Int) : Rat) / qr = _; rw [Rat.div_def,<- hi,ha]
 have r2 : (cq (stepT g c)).im = b * i:=by show (((c.1 * g.2 + c.2 * g.1) / sc : Int) : Rat) / qr = _; rw [Rat.div_def,<- hi,hb]
 have r3 : ∀ z : Int × Int,cq z = ⟨(z.1 : Rat) * i,(z.2 : Rat) * i⟩:=fun z=>by unfold cq; rw [Rat.div_def,Rat.div_def,hi]
 obtain ⟨x,hx⟩ : ∃ x : Rat,x = (c.1 : Rat) * (g.1 : Rat) - (c.2 : Rat) * (g.2 : Rat):=⟨_,rfl⟩
 obtain ⟨y,hy⟩ : ∃ y : Rat,y = (c.1 : Rat) * (g.2 : Rat) + (c.2 : Rat) * (g.1 : Rat):=⟨_,rfl⟩
 rw [<- hx] at h1
 rw [<- hy] at h2
 have m1 : Cx.mul (cq c) (cq g) = ⟨x * i * i,y * i * i⟩:=by
  rw [r3 c,r3 g,hx,hy]
  apply Cx.ext <;> simp only [Cx.mul] <;> grind
 rw [m1]
 have pii:=Rat.mul_nonneg (Rat.le_of_lt pi) (Rat.le_of_lt pi)
 have d1 : -(i) <= a * i - x * i * i /\ a * i - x * i * i <= i:=by
  have k1:=Rat.mul_le_mul_of_nonneg_right h1.1 pii
  have k2:=Rat.mul_le_mul_of_nonneg_right h1.2 pii
  have e1 : a * qr * (i * i) = a * i * (i * qr):=by grind
  have e2 : (a * qr + qr) * (i * i) = a * i * (i * qr) + i * (i * qr):=by grind
  rw [e1,hiq] at k1
  rw [e2,hiq] at k2
  grind
 have d2 : -(i) <= b * i - y * i * i /\ b * i - y * i * i <= i:=by
  have k1:=Rat.mul_le_mul_of_nonneg_right h2.1 pii
  have k2:=Rat.mul_le_mul_of_nonneg_right h2.2 pii
  have e1 : b * qr * (i * i) = b * i * (i * qr):=by grind
  have e2 : (b * qr + qr) * (i * i) = b * i * (i * qr) + i * (i * qr):=by grind
  rw [e1,hiq] at k1
  rw [e2,hiq] at k2
  grind
 have s1:=sq_of_ab (ab_of d1.2 (show -(a * i - x * i * i) <= i by grind))
 have s2:=sq_of_ab (ab_of d2.2 (show -(b * i - y * i * i) <= i by grind))
 have es : sig = 2 * i:=by rw [ei]; decide +kernel
 simp only [n2,Cx.sub]
 rw [r1,r2,es]
 grind
structure Gen (g : Int × Int) (h : Nat) : Prop where
 pos : 0 < h
 small : h <= 16384
 size : n2 (cq g) <= (1 + sig) * (1 + sig)
 turn : n2 (Cx.add (cq (cT g h)) Cx.one) <= (1024 * 1024 * sig) * (1024 * 1024 * sig)
theorem one_add {a b : Cx} {x y : Rat} (hx : 0 <= x) (hy : 0 <= y) (ha : n2 a <= x * x) (hb : n2 b <= y * y) : n2 (Cx.add a b) <= (x + y) * (x + y):=by
 have h:=one_tri (a:=a) (b:=b) (R:=1) hx hy (by decide) (by grind) (by grind)
 grind
theorem one_mul' {a b : Cx} {x y : Rat} (hx : 0 <= x) (hy : 0 <= y) (ha : n2 a <= x * x) (hb : n2 b <= y * y) : n2 (Cx.mul a b) <= (x * y) * (x * y):=by
 rw [Cx.n2_mul]
 have k1:=Rat.mul_le_mul_of_nonneg_right ha (Cx.n2_nonneg b)
 have k2:=rmul_le hb (sq_nonneg x)
 grind
theorem sig_pos : 0 < sig:=by decide +kernel
theorem sig_small : sig * 1000000000000000000000000000000 <= 1:=by decide +kernel
theorem cT_size {g : Int × Int} {h : Nat} (G : Gen g h) : ∀ j,j <= 16384 -> n2 (cq (cT g j)) <= (1 + 4 * (j : Rat) * sig) * (1 + 4 * (j : Rat) * sig)
 | 0,_=>by
   have e : cq (cT g 0) = Cx.one:=by
    show cq (sc,0) = Cx.one
    apply Cx.ext <;> decide +kernel
   rw [e]
   have : n2 Cx.one = 1:=by simp only [n2,Cx.one]; grind
   rw [this]; simp; grind
 | j + 1,hj=>by
   have ih:=cT_size G j (by omega)
   have hs:=sig_pos
   have hsm:=sig_small
   have pj : (0 : Rat) <= (j : Rat):=Rat.natCast_nonneg
   have lj : (j : Rat) <= ((16384 : Nat) : Rat):=Rat.natCast_le_natCast.2 (by omega)
   have e16 : ((16384 : Nat) : Rat) = 16384:=by decide +kernel
   rw [e16] at lj
   have p1:=Rat.mul_nonneg (show (0 : Rat) <= 4 * (j : Rat) by grind) (Rat.le_of_lt hs)
   have h1:=one_mul' (show 0 <= 1 + 4 * (j : Rat) * sig by grind) (show 0 <= 1 + sig by grind) ih G.size
   have h2:=one_add (show 0 <= (1 + 4 * (j : Rat) * sig) * (1 + sig) from Rat.mul_nonneg (by grind) (by grind)) (Rat.le_of_lt hs) h1 (stepT_off g (cT g j))
   have e : Cx.add (Cx.mul (cq (cT g j)) (cq g)) (Cx.sub (cq (stepT g (cT g j))) (Cx.mul (cq (cT g j)) (cq g))) = cq (cT g (j + 1)):=by
    show _ = cq (stepT g (cT g j))
    apply Cx.ext <;> simp only [Cx.add,Cx.sub] <;> grind
   rw [e] at h2
   refine Rat.le_trans h2 (sq_le (by have:=Rat.mul_nonneg (show 0 <= 1 + 4 * (j : Rat) * sig by grind) (show 0 <= 1 + sig by grind); grind) ?_ ?_)
   ·rw [Rat.natCast_add]; have:=Rat.mul_nonneg pj (Rat.le_of_lt hs); grind
   ·rw [Rat.natCast_add]
    have k1:=Rat.mul_le_mul_of_nonneg_right lj (Rat.mul_nonneg (Rat.le_of_lt hs) (Rat.le_of_lt hs))
    have k2 : sig * sig <= 1 / 1000000000000000000000000000000 * sig:=Rat.mul_le_mul_of_nonneg_right (by grind) (Rat.le_of_lt hs)
    grind
end
section
open Cx (n2)
def RT (g : Int × Int) (h m : Nat) : Cx:=if m / h % 2 = 0 then cq (cT g (m % h)) else Cx.neg (cq (cT g (m % h)))
theorem n2_neg (z : Cx) : n2 (Cx.neg z) = n2 z:=by simp only [n2,Cx.neg]; grind
def gm : Rat:=1 + 65536 * sig
def st1 : Rat:=(1024 * 1024 + 1) * sig
def tT : Rat:=32768 * (3 * st1)
theorem RT_size {g : Int × Int} {h : Nat} (G : Gen g h) (m : Nat) : n2 (RT g h m) <= gm * gm:=by
 have hj : m % h < h:=Nat.mod_lt _ G.pos
 have hs:=G.small
 have h1:=cT_size G (m % h) (by omega)
 have e : n2 (RT g h m) = n2 (cq (cT g (m % h))):=by unfold RT; split
                                                     ·rfl
                                                     ·exact n2_neg _
 rw [e]
 have lj : ((m % h : Nat) : Rat) <= ((16384 : Nat) : Rat):=Rat.natCast_le_natCast.2 (by omega)
 have e16 : ((16384 : Nat) : Rat) = 16384:=by decide +kernel
 rw [e16] at lj
 have pj : (0 : Rat) <= ((m % h : Nat) : Rat):=Rat.natCast_nonneg
 have k1:=Rat.mul_le_mul_of_nonneg_right lj (Rat.le_of_lt sig_pos)
 have k2:=Rat.mul_nonneg pj (Rat.le_of_lt sig_pos)
 exact Rat.le_trans h1 (sq_le (by grind) (by unfold gm; have:=sig_pos; grind) (by unfold gm; grind))
theorem RT_half {g : Int × Int} {h : Nat} (G : Gen g h) (m : Nat) : RT g h (m + h) = Cx.neg (RT g h m):=by
 have hp:=G.pos
 unfold RT
 rw [Nat.add_div_right _ hp,Nat.add_mod_right]
 by_cases h0 : m / h % 2 = 0
 ·rw [if_pos h0,if_neg (by omega)]
 ·rw [if_neg h0,if_pos (by omega)]
  apply Cx.ext <;> simp only [Cx.neg] <;> grind
theorem RT_zero {g : Int × Int} {h : Nat} (G : Gen g h) : RT g h 0 = Cx.one:=by
 unfold RT
 rw [Nat.zero_div,Nat.zero_mod,if_pos rfl]
 show cq (sc,0) = Cx.one
 apply Cx.ext <;> decide +kernel
theorem RT_step {g : Int × Int} {h : Nat} (G : Gen g h) (m : Nat) : n2 (Cx.sub (RT g h (m + 1)) (Cx.mul (RT g h m) (cq g))) <= st1 * st1:=by
 have hp:=G.pos
 have hs:=sig_pos
 have hm:=Nat.mod_add_div m h
 have hj : m % h < h:=Nat.mod_lt _ hp
 have off:=stepT_off g (cT g (m % h))
 by_cases hl : m % h + 1 < h
 ·have d1 : (m + 1) / h = m / h:=by
   rw [show m + 1 = (m % h + 1) + h * (m / h) by omega,Nat.add_mul_div_left _ _ hp,Nat.div_eq_of_lt hl,Nat.zero_add]
  have d2 : (m + 1) % h = m % h + 1:=by
   rw [show m + 1 = (m % h + 1) + h * (m / h) by omega,Nat.add_mul_mod_self_left,Nat.mod_eq_of_lt hl]
  have key : n2 (Cx.sub (RT g h (m + 1)) (Cx.mul (RT g h m) (cq g))) = n2 (Cx.sub (cq (stepT g (cT g (m % h)))) (Cx.mul (cq (cT g (m % h))) (cq g))):=by
   unfold RT
   rw [d1,d2]
   show n2 (Cx.sub (if m / h % 2 = 0 then cq (stepT g (cT g (m % h))) else Cx.neg (cq (stepT g (cT g (m % h))))) _) = _
   split
   ·rfl
   ·simp only [n2,Cx.sub,Cx.mul,Cx.neg]; grind
  rw [key]
  exact Rat.le_trans off (sq_le (Rat.le_of_lt hs) (by unfold st1; grind) (by unfold st1; grind))
 ·have he : m % h + 1 = h:=by omega
  have d1 : (m + 1) / h = m / h + 1:=by
   have : m + 1 = h * (m / h + 1):=by rw [Nat.mul_add]; omega
   rw [this,Nat.mul_div_cancel_left _ hp]
  have d2 : (m + 1) % h = 0:=by
   have : m + 1 = h * (m / h + 1):=by rw [Nat.mul_add]; omega
   rw [this,Nat.mul_mod_right]
  have e0 : cq (cT g 0) = Cx.one:=by
   show cq (sc,0) = Cx.one
   apply Cx.ext <;> decide +kernel
  have tn:=G.turn
  have eh : cT g h = stepT g (cT g (m % h)):=by
   obtain ⟨q,hq⟩ : ∃ q,q = m % h:=⟨_,rfl⟩
   rw [<- hq] at he ⊢
   rw [<- he]; rfl
  rw [eh] at tn
  have off2 : n2 (Cx.sub (Cx.mul (cq (cT g (m % h))) (cq g)) (cq (stepT g (cT g (m % h))))) <= sig * sig:=by rw [Cx.n2_sub_comm]; exact off
  have k:=one_add (show (0 : Rat) <= 1024 * 1024 * sig by grind) (Rat.le_of_lt hs) tn off2
  have key : n2 (Cx.sub (RT g h (m + 1)) (Cx.mul (RT g h m) (cq g))) = n2 (Cx.add (Cx.add (cq (stepT g (cT g (m % h)))) Cx.one) (Cx.sub (Cx.mul (cq (cT g (m % h))) (cq g)) (cq (stepT g (cT g (m % h)))))):=by
   unfold RT
   rw [d1,d2,e0]
   by_cases h0 : m / h % 2 = 0
   ·rw [if_pos h0,if_neg (by omega)]
    simp only [n2,Cx.sub,Cx.mul,Cx.neg,Cx.add,Cx.one]; grind
   ·rw [if_neg h0,if_pos (by omega)]
    simp only [n2,Cx.sub,Cx.mul,Cx.neg,Cx.add,Cx.one]; grind
  rw [key]
  have e : 1024 * 1024 * sig + sig = st1:=by unfold st1; grind
  rw [e] at k
  exact k
theorem st1_pos : 0 < st1:=by decide +kernel
theorem RT_mul {g : Int × Int} {h : Nat} (G : Gen g h) (a : Nat) : ∀ b,b <= 32768 -> n2 (Cx.sub (RT g h (a + b)) (Cx.mul (RT g h a) (RT g h b))) <= ((b : Rat) * (3 * st1)) * ((b : Rat) * (3 * st1))
 | 0,_=>by
   rw [RT_zero G,Cx.mul_one,Nat.add_zero]
   have : n2 (Cx.sub (RT g h a) (RT g h a)) = 0:=by simp only [n2,Cx.sub]; grind
   rw [this]; simp
 | b + 1,hb=>by
   have ih:=RT_mul G a b (by omega)
   have s1:=RT_step G (a + b)
   have s2:=RT_step G b
   have hs:=sig_pos
   have ht:=st1_pos
   have pb : (0 : Rat) <= (b : Rat):=Rat.natCast_nonneg
   have lb : (b : Rat) <= ((32768 : Nat) : Rat):=Rat.natCast_le_natCast.2 (by omega)
   have e32 : ((32768 : Nat) : Rat) = 32768:=by decide +kernel
   rw [e32] at lb
   have pe : 0 <= (b : Rat) * (3 * st1):=Rat.mul_nonneg pb (by grind)
   have pg : 0 <= gm:=by unfold gm; grind
   have k1:=one_mul' pe (show 0 <= 1 + sig by grind) ih G.size
   have k2:=one_mul' pg (Rat.le_of_lt ht) (RT_size G a) (show n2 (Cx.sub (Cx.mul (RT g h b) (cq g)) (RT g h (b + 1))) <= st1 * st1 by rw [Cx.n2_sub_comm]; exact s2)
   have k3:=one_add (show 0 <= (b : Rat) * (3 * st1) * (1 + sig) from Rat.mul_nonneg pe (by grind)) (show 0 <= gm * st1 from Rat.mul_nonneg pg (Rat.le_of_lt ht)) k1 k2
   have k4:=one_add (Rat.le_of_lt ht) (show 0 <= (b : Rat) * (3 * st1) * (1 + sig) + gm * st1 by have:=Rat.mul_nonneg pe (show 0 <= 1 + sig by grind); have:=Rat.mul_nonneg pg (Rat.le_of_lt ht); grind) s1 k3
   have e : Cx.add (Cx.sub (RT g h (a + b + 1)) (Cx.mul (RT g h (a + b)) (cq g))) (Cx.add (Cx.mul (Cx.sub (RT g h (a + b)) (Cx.mul (RT g h a) (RT g h b))) (cq g)) (Cx.mul (RT g h a) (Cx.sub (Cx.mul (RT g h b) (cq g)) (RT g h (b + 1))))) = Cx.sub (RT g h (a + (b + 1))) (Cx.mul (RT g h a) (RT g h (b + 1))):=by
    rw [<- Nat.add_assoc]
    apply Cx.ext <;> simp only [Cx.add,Cx.sub,Cx.mul] <;> grind
   rw [e] at k4
   refine Rat.le_trans k4 (sq_le (by have:=Rat.mul_nonneg pe (show 0 <= 1 + sig by grind); have:=Rat.mul_nonneg pg (Rat.le_of_lt ht); grind) (by rw [Rat.natCast_add]; have:=Rat.mul_nonneg pb (Rat.le_of_lt ht); grind) ?_)
   rw [Rat.natCast_add]
   have m1 : (b : Rat) * sig <= 1 / 2:=by
    have:=Rat.mul_le_mul_of_nonneg_right lb (Rat.le_of_lt hs)
    have h2 : 32768 * sig <= 1 / 6:=by decide +kernel
    grind
   have m1' : (b : Rat) * sig <= 1 / 6:=by
    have:=Rat.mul_le_mul_of_nonneg_right lb (Rat.le_of_lt hs)
    have h2 : 32768 * sig <= 1 / 6:=by decide +kernel
    grind
   have m2:=Rat.mul_le_mul_of_nonneg_right m1' (show 0 <= 3 * st1 by grind)
   have m3 : gm <= 3 / 2:=by decide +kernel
   have m4:=Rat.mul_le_mul_of_nonneg_right m3 (Rat.le_of_lt ht)
   have e1 : ((1 : Nat) : Rat) = 1:=by decide +kernel
   rw [e1]
   grind
end
section
open Cx (n2)
def tCC : Rat:=8 * tT
theorem tC_ok : tCC * pw 150 <= 1:=by
 have : pw 150 = 1427247692705959881058285969449495136382746624:=by decide +kernel
 rw [this]
 decide +kernel
theorem tC_pos : 0 <= tCC:=by decide +kernel
theorem tT_pos : 0 <= tT:=by decide +kernel
theorem RT_period {g : Int × Int} {h : Nat} (G : Gen g h) (m : Nat) : ∀ c,RT g h (m + c * (h + h)) = RT g h m
 | 0=>by rw [Nat.zero_mul,Nat.add_zero]
 | c + 1=>by
   rw [Nat.succ_mul,<- Nat.add_assoc,<- Nat.add_assoc,RT_half G,RT_half G,RT_period G m c]
   apply Cx.ext <;> simp only [Cx.neg] <;> grind
theorem near_of {z w : Cx} {t : Rat} (ht : 0 <= t) (h : n2 (Cx.sub z w) <= t * t) : Cx.near z w t:=by
 obtain ⟨h1,h2⟩:=part_le ht h
 have k1:=ab_le (Cx.sub z w).re
 have k2:=ab_le (Cx.sub z w).im
 simp only [Cx.sub] at h1 h2 k1 k2
 unfold Cx.near
 grind
theorem RT_mul_all {g : Int × Int} {h : Nat} (G : Gen g h) (a b : Nat) : n2 (Cx.sub (RT g h (a + b)) (Cx.mul (RT g h a) (RT g h b))) <= tT * tT:=by
 have hp:=G.pos
 have hs:=G.small
 have hm:=Nat.mod_add_div b (h + h)
 have hl : b % (h + h) < h + h:=Nat.mod_lt _ (by omega)
 have e1 : RT g h b = RT g h (b % (h + h)):=by
  have:=RT_period G (b % (h + h)) (b / (h + h))
  rw [Nat.mul_comm] at this
  rw [<- this,hm]
 have e2 : RT g h (a + b) = RT g h (a + b % (h + h)):=by
  have:=RT_period G (a + b % (h + h)) (b / (h + h))
  rw [Nat.mul_comm,Nat.add_assoc,hm] at this
  exact this
 rw [e1,e2]
 have k:=RT_mul G a (b % (h + h)) (by omega)
 have lb : ((b % (h + h) : Nat) : Rat) <= ((32768 : Nat) : Rat):=Rat.natCast_le_natCast.2 (by omega)
 have e32 : ((32768 : Nat) : Rat) = 32768:=by decide +kernel
 rw [e32] at lb
 have pb : (0 : Rat) <= ((b % (h + h) : Nat) : Rat):=Rat.natCast_nonneg
 have ht:=st1_pos
 have k1:=Rat.mul_le_mul_of_nonneg_right lb (show 0 <= 3 * st1 by grind)
 exact Rat.le_trans k (sq_le (Rat.mul_nonneg pb (by grind)) tT_pos (by unfold tT; exact k1))
theorem RT_tab {g : Int × Int} {h K : Nat} (G : Gen g h) (hK : 2 ^ K = h + h) : Tab (2 ^ K) (RT g h) tCC where
 ptau:=tC_pos
 zero:=RT_zero G
 half:=fun m=>by rw [hK,show (h + h) / 2 = h by omega]; exact RT_half G m
 even:=by rw [hK]; omega
 lim:=fun m=>by
  have h1:=RT_size G m
  have h2 : gm <= 2:=by decide +kernel
  have h3 : 0 <= gm:=by decide +kernel
  obtain ⟨k1,k2⟩:=part_le h3 h1
  have k3:=ab_le (RT g h m).re
  have k4:=ab_le (RT g h m).im
  unfold Cx.lim
  grind
 mul:=fun a b=>(near_of tT_pos (RT_mul_all G a b)).le (by decide +kernel)
theorem RT_conj {g : Int × Int} {h K : Nat} (G : Gen g h) (hK : 2 ^ K = h + h) (m : Nat) : Cx.near (Cx.conj (RT g h m)) (RT g h (m * (2 ^ K - 1))) tCC:=by
 have hn : 0 < 2 ^ K:=Nat.two_pow_pos K
 have h1:=RT_mul_all G m (m * (2 ^ K - 1))
 have e : m + m * (2 ^ K - 1) = 0 + m * (h + h):=by
  rw [<- hK,Nat.zero_add]
  obtain ⟨q,hq⟩ : ∃ q,2 ^ K = q + 1:=⟨2 ^ K - 1,by omega⟩
  rw [hq,Nat.add_sub_cancel,Nat.mul_add,Nat.mul_one,Nat.add_comm]
 rw [e,RT_period G 0 m,RT_zero G] at h1
 obtain ⟨z,hz⟩ : ∃ z,z = RT g h m:=⟨_,rfl⟩
 obtain ⟨w,hw⟩ : ∃ w,w = RT g h (m * (2 ^ K - 1)):=⟨_,rfl⟩
 have s1:=RT_size G m
 have s2:=RT_size G (m * (2 ^ K - 1))
 rw [<- hz,<- hw] at h1
 rw [<- hz] at s1
 rw [<- hw] at s2
 rw [<- hz,<- hw]
 have pt:=tT_pos
 have pg : 0 <= gm:=by decide +kernel
 -- the size of z is near 1
 have lo : 1 - 4 * tT <= n2 z:=by
  have d:=(part_le pt h1).1
  have d2:=ab_le (Cx.sub Cx.one (Cx.mul z w)).re
  have r : 1 - tT <= (Cx.mul z w).re:=by
   simp only [Cx.sub,Cx.one] at d d2
   simp only [Cx.mul] at d d2 ⊢
   grind
  have q1 : (1 - tT) * (1 - tT) <= n2 (Cx.mul z w):=by
   have k1:=sq_le (show 0 <= 1 - tT by have : tT <= 1:=by decide +kernel
                                       grind) (show 0 <= (Cx.mul z w).re by have : tT <= 1:=by decide +kernel
                                                                            grind) r
   have k2:=sq_nonneg (Cx.mul z w).im
   simp only [n2] at k1 k2 ⊢
   grind
  rw [Cx.n2_mul] at q1
  have q2:=rmul_le s2 (Cx.n2_nonneg z)
  have q3 : (1 - 4 * tT) * (gm * gm) <= (1 - tT) * (1 - tT):=by decide +kernel
  have q4 : 0 < gm * gm:=by decide +kernel
  exact rdiv_le q4 (by grind)
 have hi : n2 z <= 1 + 4 * tT:=by
  have : gm * gm <= 1 + 4 * tT:=by decide +kernel
  exact Rat.le_trans s1 this
 -- the difference in two parts
 have a1 : n2 (Cx.mul w ⟨1 - n2 z,0⟩) <= (gm * (4 * tT)) * (gm * (4 * tT)):=one_mul' pg (by grind) s2 (by
  have k : (1 - n2 z) * (1 - n2 z) <= 4 * tT * (4 * tT):=sq_of_ab (ab_of (by grind) (by grind))
  show (1 - n2 z) * (1 - n2 z) + 0 * 0 <= 4 * tT * (4 * tT)
  grind)
 have a2 : n2 (Cx.mul (Cx.conj z) (Cx.sub (Cx.mul z w) Cx.one)) <= (gm * tT) * (gm * tT):=one_mul' pg pt (by
  have : n2 (Cx.conj z) = n2 z:=by simp only [n2,Cx.conj]; grind
  rw [this]; exact s1) (by rw [Cx.n2_sub_comm]; exact h1)
 have a3:=one_add (Rat.mul_nonneg pg (show 0 <= 4 * tT by grind)) (Rat.mul_nonneg pg pt) a1 a2
 have e2 : Cx.add (Cx.mul w ⟨1 - n2 z,0⟩) (Cx.mul (Cx.conj z) (Cx.sub (Cx.mul z w) Cx.one)) = Cx.sub w (Cx.conj z):=by
  apply Cx.ext <;> simp only [n2,Cx.add,Cx.sub,Cx.mul,Cx.conj,Cx.one] <;> grind
 rw [e2,Cx.n2_sub_comm] at a3
 exact (near_of (show 0 <= gm * (4 * tT) + gm * tT by decide +kernel) a3).le (by decide +kernel)
theorem RT_lev {g : Int × Int} {h K : Nat} (G : Gen g h) (k j : Nat) : n2 (lev (RT g h) K k j) <= 1 + tauF:=by
 have h1 : gm * gm <= 1 + tauF:=by decide +kernel
 exact Rat.le_trans (RT_size G _) h1
theorem RT_levc {g : Int × Int} {h K : Nat} (G : Gen g h) (k j : Nat) : n2 (lev (cj (RT g h)) K k j) <= 1 + tauF:=by
 have e : n2 (lev (cj (RT g h)) K k j) = n2 (lev (RT g h) K k j):=by unfold lev cj; simp only [n2,Cx.conj]; grind
 rw [e]
 exact RT_lev G k j
end
section
open Cx (n2)
open Fl
def cvu (w : Nat × Nat) : Cx:=⟨(vl w.1 : Rat),(vl w.2 : Rat)⟩
def cokB (w : Nat × Nat) : Bool:=decide (w.1 < 2 * W) && decide (rg w.1 < I) && (decide (w.2 < 2 * W) && decide (rg w.2 < I))
def chkR (w : Nat × Nat) (r : Cx) (p : Rat) : Bool:=cokB w && decide (n2 (cvu w) <= (omF * p) * (omF * p)) && decide (n2 (Cx.sub (cvu w) ⟨r.re * p,r.im * p⟩) <= (rhoF * p) * (rhoF * p))
theorem chkR_ok {w : Nat × Nat} {r : Cx} (h : chkR w r (pw 1074) = true) : cok w /\ n2 (cval w) <= omF * omF /\ n2 (Cx.sub (cval w) r) <= rhoF * rhoF:=by
 unfold chkR cokB at h
 simp only [Bool.and_eq_true,decide_eq_true_eq] at h
 obtain ⟨⟨⟨⟨h1,h2⟩,h3,h4⟩,h5⟩,h6⟩:=h
 have e1:=eta_one
 have pe:=eta_pos
 obtain ⟨p,hp⟩ : ∃ p,p = pw 1074:=⟨_,rfl⟩
 rw [<- hp] at h5 h6 e1
 have pee:=Rat.mul_nonneg (Rat.le_of_lt pe) (Rat.le_of_lt pe)
 refine ⟨⟨⟨h1,h2⟩,⟨h3,h4⟩⟩,?_,?_⟩
 ·have k:=Rat.mul_le_mul_of_nonneg_right h5 pee
  have e2 : omF * p * (omF * p) * (eta * eta) = omF * omF * ((eta * p) * (eta * p)):=by grind
  rw [e2,e1] at k
  have e3 : n2 (cvu w) * (eta * eta) = n2 (cval w):=by simp only [n2,cvu,cval,fv]; grind
  rw [e3] at k
  grind
 ·have k:=Rat.mul_le_mul_of_nonneg_right h6 pee
  have e2 : rhoF * p * (rhoF * p) * (eta * eta) = rhoF * rhoF * ((eta * p) * (eta * p)):=by grind
  rw [e2,e1] at k
  have e3 : n2 (Cx.sub (cvu w) ⟨r.re * p,r.im * p⟩) * (eta * eta) = n2 (Cx.sub (cval w) r):=by
   have q1 : ((vl w.1 : Rat) - r.re * p) * eta = (vl w.1 : Rat) * eta - r.re:=by
    have : ((vl w.1 : Rat) - r.re * p) * eta = (vl w.1 : Rat) * eta - r.re * (eta * p):=by grind
    rw [this,e1]; grind
   have q2 : ((vl w.2 : Rat) - r.im * p) * eta = (vl w.2 : Rat) * eta - r.im:=by
    have : ((vl w.2 : Rat) - r.im * p) * eta = (vl w.2 : Rat) * eta - r.im * (eta * p):=by grind
    rw [this,e1]; grind
   simp only [n2,Cx.sub,cvu,cval,fv]
   rw [<- q1,<- q2]
   grind
  rw [e3] at k
  grind
def chkL (g : Int × Int) (p : Rat) : List (Nat × Nat) -> Int × Int -> Bool
 | [],_=>true
 | w :: l,c=>chkR w (cq c) p && chkL g p l (stepT g c)
theorem chkL_at {g : Int × Int} {p : Rat} : ∀ (l : List (Nat × Nat)) (j : Nat),chkL g p l (cT g j) = true -> ∀ i w,l[i]? = some w -> chkR w (cq (cT g (j + i))) p = true
 | [],j,_,i,w,hw=>by simp at hw
 | a :: l,j,h,i,w,hw=>by
   unfold chkL at h
   rw [Bool.and_eq_true] at h
   rcases i with _ | i
   ·simp at hw; subst hw; exact h.1
   ·have h2 : chkL g p l (cT g (j + 1)) = true:=h.2
    have:=chkL_at l (j + 1) h2 i w (by simpa using hw)
    rw [show j + (i + 1) = j + 1 + i by omega]
    exact this
theorem roots_of {g : Int × Int} {K : Nat} (G : Gen g (2 ^ (K - 1))) {l : List (Nat × Nat)} (hl : l.length = 2 ^ (K - 1)) (hc : chkL g (pw 1074) l (cT g 0) = true) {hf : Nat -> Nat × Nat} (hh : ∀ i w,l[i]? = some w -> hf i = w) (k j : Nat) (hk : k < K) (hj : j < 2 ^ k) :
  cok (hf (j * 2 ^ (K - 1 - k))) /\ n2 (cval (hf (j * 2 ^ (K - 1 - k)))) <= omF * omF /\ n2 (Cx.sub (cval (hf (j * 2 ^ (K - 1 - k)))) (lev (RT g (2 ^ (K - 1))) K k j)) <= rhoF * rhoF:=by
 have hi : j * 2 ^ (K - 1 - k) < 2 ^ (K - 1):=by
  have h1 : 2 ^ (K - 1) = 2 ^ k * 2 ^ (K - 1 - k):=by rw [<- Nat.pow_add,show k + (K - 1 - k) = K - 1 by omega]
  rw [h1]
  exact Nat.mul_lt_mul_of_pos_right hj (Nat.two_pow_pos _)
 obtain ⟨i,hi0⟩ : ∃ i,i = j * 2 ^ (K - 1 - k):=⟨_,rfl⟩
 unfold lev
 rw [<- hi0] at hi ⊢
 obtain ⟨w,hw⟩ : ∃ w,l[i]? = some w:=⟨_,List.getElem?_eq_getElem (by omega)⟩
 have h:=chkR_ok (chkL_at l 0 hc i w hw)
 rw [hh i w hw]
 have e : RT g (2 ^ (K - 1)) i = cq (cT g (0 + i)):=by
  unfold RT
  rw [Nat.div_eq_of_lt hi,Nat.mod_eq_of_lt hi,if_pos rfl,Nat.zero_add]
 rw [e]
 exact h
end
end Go.Proofs.YtnpanpkahbcecaaGreatDoor

/-
Walk of the reference's Nearest, of a number above 0.
-/
import Derived.Test.YtnpanpkahbcecaaGreatDoorP7
import Derived.Test.YtnpanpkahbcecaaGreatDoorP13
import Derived.Lib.Hide
set_option linter.unusedVariables false
set_option linter.unusedSimpArgs false
namespace Go.Proofs.YtnpanpkahbcecaaGreatDoor
section
open Go.RowKit
theorem Fl.cmp_self (x : Nat) (h : Fl.rg x <= Fl.I) : FloatKind.f64.format.order x x = some .eq:=Fl.order_eq x x h h rfl
theorem Fl.cmp_nan (x y : Nat) (h : Fl.I < Fl.rg x) : FloatKind.f64.format.order x y = none:=Fl.order_nan _ _ (.inl h)
theorem Fl.key0 : Fl.key 0 = 0:=by decide
theorem Fl.cmp0_eq (x : Nat) (h : Fl.rg x = 0) : FloatKind.f64.format.order x 0 = some .eq:=by
 refine Fl.order_eq x 0 (by rw [h]; exact Nat.zero_le _) (by decide) ?_
 rw [Fl.key0]; unfold Fl.key; rw [h]; simp
theorem Fl.cmp0_gt (x : Nat) (h0 : 0 < Fl.rg x) (h : Fl.rg x <= Fl.I) (hs : Fl.sg x = false) : FloatKind.f64.format.order x 0 = some .gt:=by
 refine Fl.order_gt x 0 h (by decide) ?_
 rw [Fl.key0]; unfold Fl.key; rw [hs]; simp; omega
theorem Fl.cmp0_lt (x : Nat) (h0 : 0 < Fl.rg x) (h : Fl.rg x <= Fl.I) (hs : Fl.sg x = true) : FloatKind.f64.format.order x 0 = some .lt:=by
 refine Fl.order_lt x 0 h (by decide) ?_
 rw [Fl.key0]; unfold Fl.key; rw [hs]; simp; omega
theorem u64_succ (x : Nat) (h : x + 1 < 2 * Fl.W) : (IntKind.u64.wrap ((x : Int) + 1)).toNat = x + 1:=by
 rw [IntKind.wrap_u64]; unfold Fl.W at h; omega
theorem u64_pred (x : Nat) (h : x < 2 * Fl.W) (h0 : 0 < x) : (IntKind.u64.wrap ((x : Int) - 1)).toNat = x - 1:=by
 rw [IntKind.wrap_u64]; unfold Fl.W at h; omega
theorem rg_succ_lt (x : Nat) (hx : x < 2 * Fl.W) (h : Fl.rg x <= Fl.I) : x + 1 < 2 * Fl.W:=by
 have:=Fl.wd_sg_rg x hx
 have : Fl.wd (Fl.sg x) (Fl.rg x) <= Fl.W + Fl.I:=by unfold Fl.wd; split <;> omega
 have : Fl.I + 1 < Fl.W:=by decide
 omega
theorem sg_pos (x : Nat) (hx : x < 2 * Fl.W) (h0 : 0 < Fl.rg x) : 0 < x:=by
 rcases Nat.eq_zero_or_pos x with h | h
 ·subst h; exact absurd h0 (by decide)
 ·exact h
theorem next_any (x : Nat) (up : Bool) (w : World) (hx : x < 2 * Fl.W) : Calls Tryz.prog 207 #[.float .f64 x,.bool up] w fun e w'=>e = .returned (.float .f64 (Fl.next x up)) /\ w = w':=by
 have hb:=run_bits
 have hf:=run_from
 have hn : ∀ w,(Op.unary .neg (.float .f64 1)).run Tryz.prog w = .ok (.float .f64 (Fl.W + 1)) w:=fun w=>by
  rw [show Fl.W + 1 = Fl.ng 1 from rfl,<- Fl.neg_word 1 (by decide)]; rfl
 unfold Fl.next
 rcases Nat.lt_or_ge Fl.I (Fl.rg x) with h | h
 ·have h1:=Fl.cmp_nan x x h
  rw [if_pos h]
  clear h hn
  go_enter Tryz.func207,Tryz.ntmps207
  go_wp2
  go_ret
  exact ⟨rfl,rfl⟩
 ·have h1:=Fl.cmp_self x h
  rw [if_neg (by omega)]
  by_cases hI : Fl.rg x = Fl.I
  ·have hI' : decide (Fl.rg x = Fl.I) = true:=decide_eq_true hI
   have h0 : 0 < Fl.rg x:=by rw [hI]; decide
   have H0:=Hd h0
   have HI:=Hd hI
   have HH:=Hd h
   cases hs : Fl.sg x
   ·have h2:=Fl.cmp0_gt x h0 h hs
    cases up
    ·rw [if_neg (by simp),if_neg (by omega),if_neg (by simp)]
     clear h h0 hI
     go_enter Tryz.func207,Tryz.ntmps207
     go_wp2_with (first | (go_at_call 167; refine (isinf_down _ _ hx).mono ?_; rintro e w' ⟨rfl,rfl⟩))
     go_ret
     exact ⟨ret_fl (u64_pred x hx (sg_pos x hx H0.out)),rfl⟩
    ·rw [if_pos ⟨hI,rfl⟩]
     clear h h0 hI
     go_enter Tryz.func207,Tryz.ntmps207
     go_wp2_with (first | (go_at_call 167; refine (isinf_up _ _).mono ?_; rintro e w' ⟨rfl,rfl⟩))
     go_ret
     exact ⟨rfl,rfl⟩
   ·have h2:=Fl.cmp0_lt x h0 h hs
    cases up
    ·rw [if_pos ⟨hI,rfl⟩]
     clear h h0 hI
     go_enter Tryz.func207,Tryz.ntmps207
     go_wp2_with (first | (go_at_call 167; refine (isinf_down _ _ hx).mono ?_; rintro e w' ⟨rfl,rfl⟩))
     go_ret
     exact ⟨rfl,rfl⟩
    ·rw [if_neg (by simp),if_neg (by omega),if_neg (by simp)]
     clear h h0 hI
     go_enter Tryz.func207,Tryz.ntmps207
     go_wp2_with (first | (go_at_call 167; refine (isinf_up _ _).mono ?_; rintro e w' ⟨rfl,rfl⟩))
     go_ret
     exact ⟨ret_fl (u64_pred x hx (sg_pos x hx H0.out)),rfl⟩
  ·have hI' : decide (Fl.rg x = Fl.I) = false:=decide_eq_false hI
   rw [if_neg (by simp [hI])]
   have HH:=Hd h
   by_cases hz : Fl.rg x = 0
   ·have h2:=Fl.cmp0_eq x hz
    rw [if_pos hz]
    cases up
    ·rw [if_neg (by simp)]
     clear h hz hI
     go_enter Tryz.func207,Tryz.ntmps207
     go_wp2_with (first | (go_at_call 167; refine (isinf_down _ _ hx).mono ?_; rintro e w' ⟨rfl,rfl⟩))
     go_ret
     exact ⟨rfl,rfl⟩
    ·rw [if_pos rfl]
     clear h hz hI
     go_enter Tryz.func207,Tryz.ntmps207
     go_wp2_with (first | (go_at_call 167; refine (isinf_up _ _).mono ?_; rintro e w' ⟨rfl,rfl⟩))
     go_ret
     exact ⟨rfl,rfl⟩
   ·have h0 : 0 < Fl.rg x:=by omega
    have H0:=Hd h0
    rw [if_neg hz]
    cases hs : Fl.sg x
    ·have h2:=Fl.cmp0_gt x h0 h hs
     cases up
     ·rw [if_neg (by simp)]
      clear h h0 hI hz
      go_enter Tryz.func207,Tryz.ntmps207
      go_wp2_with (first | (go_at_call 167; refine (isinf_down _ _ hx).mono ?_; rintro e w' ⟨rfl,rfl⟩))
      go_ret
      exact ⟨ret_fl (u64_pred x hx (sg_pos x hx H0.out)),rfl⟩
     ·rw [if_pos (by simp)]
      clear h h0 hI hz
      go_enter Tryz.func207,Tryz.ntmps207
      go_wp2_with (first | (go_at_call 167; refine (isinf_up _ _).mono ?_; rintro e w' ⟨rfl,rfl⟩))
      go_ret
      exact ⟨ret_fl (u64_succ x (rg_succ_lt x hx HH.out)),rfl⟩
    ·have h2:=Fl.cmp0_lt x h0 h hs
     cases up
     ·rw [if_pos (by simp)]
      clear h h0 hI hz
      go_enter Tryz.func207,Tryz.ntmps207
      go_wp2_with (first | (go_at_call 167; refine (isinf_down _ _ hx).mono ?_; rintro e w' ⟨rfl,rfl⟩))
      go_ret
      exact ⟨ret_fl (u64_succ x (rg_succ_lt x hx HH.out)),rfl⟩
     ·rw [if_neg (by simp)]
      clear h h0 hI hz
      go_enter Tryz.func207,Tryz.ntmps207
      go_wp2_with (first | (go_at_call 167; refine (isinf_up _ _).mono ?_; rintro e w' ⟨rfl,rfl⟩))
      go_ret
      exact ⟨ret_fl (u64_pred x hx (sg_pos x hx H0.out)),rfl⟩
end
section
open Go.RowKit
theorem Fl.next_lt (x : Nat) (up : Bool) (hx : x < 2 * Fl.W) : Fl.next x up < 2 * Fl.W:=by
 unfold Fl.next
 split
 ·exact hx
 ·rename_i h
  have:=rg_succ_lt x hx (by omega)
  split
  ·exact hx
  ·split
   ·split <;> decide
   ·split <;> omega
theorem run_neg (x : Nat) (hx : x < 2 * Fl.W) (w : World) : (Op.unary .neg (.float .f64 x)).run Tryz.prog w = .ok (.float .f64 (Fl.ng x)) w:=by
 rw [<- Fl.neg_word x hx]; rfl
end
section
open Go.RowKit
theorem decode64 (x : Nat) : FloatKind.f64.decode x = Ieee.double.read x:=rfl
theorem toIntegral_ex (x : Nat) (way : Ieee.Toward) (name : String) : ∃ f : Bool -> Nat -> Sem Value,Extern.MathFloor.toIntegral name way #[.float .f64 x] = (match FloatKind.f64.decode x with | .nan s t=>f s t | d=>pure (.float .f64 (FloatKind.f64.encode (d.integral way)))):=⟨_,rfl⟩
theorem integral_num (x : Nat) (h : Fl.rg x < Fl.I) (way : Ieee.Toward) (k : Nat) (hk : (Ieee.double.read x).integral way = .number (Fl.sg x) k 0) (name : String) (w : World) :
  (Extern.MathFloor.toIntegral name way #[.float .f64 x]).run Tryz.prog w = .ok (.float .f64 (Fl.rnd (Fl.sg x) (k * Fl.U))) w:=by
 have hr:=Fl.read_fin x h
 obtain ⟨f,hf⟩:=toIntegral_ex x way name
 rw [hf,decode64,<- Fl.write_whole,<- hk,hr]
 rfl
noncomputable def Fl.rte (x : Nat) : Nat:=Fl.rnd (Fl.sg x) (Fl.nk x * Fl.U)
theorem run_even (x : Nat) (h : Fl.rg x < Fl.I) (w : World) : (callFunc 134 #[.float .f64 x]).run Tryz.prog w = .ok (.value (.float .f64 (Fl.rte x))) w:=by
 rw [run_callFunc_extern (e := Extern.MathFloor.toIntegral "math.RoundToEven" .even) Tryz.func134 (by kernel_rfl) (by kernel_rfl) (by kernel_rfl) (by kernel_rfl)]
 rw [integral_num x h .even _ (Fl.integral_even x h)]
 rfl
theorem Fl.key_pos (r : Nat) (h : r < Fl.W) : Fl.key r = r:=by
 have h1 : Fl.rg r = r:=Nat.mod_eq_of_lt h
 have h2 : Fl.sg r = false:=by unfold Fl.sg; rw [Nat.div_eq_of_lt h]; rfl
 unfold Fl.key; rw [h1,h2]; rfl
theorem Fl.ord_pos (a b : Nat) (ha : a <= Fl.I) (hb : b <= Fl.I) : FloatKind.f64.format.order a b = some (compare (a : Int) (b : Int)):=by
 have hI : Fl.I < Fl.W:=by decide
 have:=Fl.order_key a b (by rw [Fl.rg,Nat.mod_eq_of_lt (by omega)]; exact ha) (by rw [Fl.rg,Nat.mod_eq_of_lt (by omega)]; exact hb)
 rw [Fl.key_pos a (by omega),Fl.key_pos b (by omega)] at this
 exact this
theorem Fl.abs53 (x : Nat) (h : Fl.rg x <= Fl.I) : FloatKind.f64.format.order (Fl.rg x) 4845873199050653696 = some (compare (Fl.rg x : Int) 4845873199050653696):=Fl.ord_pos _ _ h (by decide)
noncomputable def Fl.isW (x : Nat) : Bool:=decide (Fl.rg x <= Fl.c53 /\ Fl.wh x * Fl.U = Fl.rv (Fl.rg x))
noncomputable def Fl.whI (x : Nat) : Int:=if Fl.isW x then Fl.sgi (Fl.sg x) (Fl.wh x) else 0
theorem Fl.wh_eq (x : Nat) (h : Fl.rg x <= Fl.c53) (t : Bool) (ht : t = Fl.sg x \/ Fl.wh x = 0) :
  FloatKind.f64.format.order x (Fl.rnd t (Fl.wh x * Fl.U)) = some .eq /\ Fl.wh x * Fl.U = Fl.rv (Fl.rg x) \/
  (∃ o,FloatKind.f64.format.order x (Fl.rnd t (Fl.wh x * Fl.U)) = some o /\ o ≠ .eq) /\ Fl.wh x * Fl.U ≠ Fl.rv (Fl.rg x):=by
 have hc:=Fl.c53_lt
 obtain ⟨h1,h2⟩:=Fl.whole_rr (Fl.wh x) (Fl.wh_le x h)
 have e : FloatKind.f64.format.order x (Fl.rnd t (Fl.wh x * Fl.U)) = some (compare (Fl.key x) (Fl.key (Fl.rnd t (Fl.wh x * Fl.U)))):=Fl.order_key _ _ (by omega) (by rw [Fl.rg_rnd]; omega)
 have k : Fl.key (Fl.rnd t (Fl.wh x * Fl.U)) = if t then -(Fl.rr (Fl.wh x * Fl.U) : Int) else (Fl.rr (Fl.wh x * Fl.U) : Int):=by
  unfold Fl.key; rw [Fl.rg_rnd,Fl.sg_rnd]
 have hz : Fl.wh x = 0 -> Fl.rr (Fl.wh x * Fl.U) = 0:=fun h=>by rw [h,Nat.zero_mul,Fl.rr_zero]
 by_cases he : Fl.wh x * Fl.U = Fl.rv (Fl.rg x)
 ·left
  refine ⟨?_,he⟩
  have hr : Fl.rr (Fl.wh x * Fl.U) = Fl.rg x:=by rw [he]; exact Fl.rr_exact _ (by omega)
  rw [e,k,Fl.compare_int]
  unfold Fl.key
  rw [hr]
  rcases ht with rfl | ht
  ·cases Fl.sg x <;> simp
  ·have:=hz ht; rw [hr] at this; rw [this]; cases Fl.sg x <;> cases t <;> simp
 ·right
  refine ⟨⟨_,e,?_⟩,he⟩
  have hr : Fl.rr (Fl.wh x * Fl.U) ≠ Fl.rg x:=fun h3=>he (by rw [<- h1,h3])
  rw [k,Fl.compare_int]
  unfold Fl.key
  generalize Fl.rr (Fl.wh x * Fl.U) = q at *
  rcases ht with rfl | ht
  ·cases Fl.sg x
   ·simp only [Bool.false_eq_true,if_false]; split; decide; rw [if_neg (by omega)]; decide
   ·simp only [if_true]; split; decide; rw [if_neg (by omega)]; decide
  ·have:=hz ht; subst this
   cases Fl.sg x <;> cases t <;> simp only [Bool.false_eq_true,if_false,if_true] <;> (split; decide; rw [if_neg (by omega)]; decide)
theorem Fl.inInt (s : Bool) (k : Nat) (h : k <= 9007199254740992) : IntKind.i64.min <= Fl.sgi s k /\ Fl.sgi s k <= IntKind.i64.max:=by
 have h1 : IntKind.i64.min = -9223372036854775808:=rfl
 have h2 : IntKind.i64.max = 9223372036854775807:=rfl
 rw [h1,h2]
 unfold Fl.sgi
 split <;> omega
theorem run_int_trunc (src dst : TypeId) (hs : (Tryz.prog.underlying src).isSome = true) (hd : Tryz.prog.underlying dst = some (.int .i64)) (x : Nat) (h : Fl.rg x <= Fl.c53) (w : World) : (convert src dst (.float .f64 x)).run Tryz.prog w = .ok (.int .i64 (Fl.sgi (Fl.sg x) (Fl.wh x))) w:=by
 refine run_convert_float_int w src dst .f64 .i64 x _ hs hd ?_
 unfold floatToIntVal
 rw [decode64,Fl.toInt_zero x (Nat.lt_of_le_of_lt h Fl.c53_lt)]
 dsimp only
 rw [if_pos (Fl.inInt _ _ (Fl.wh_le x h))]
theorem run_int_whole (src dst : TypeId) (hs : (Tryz.prog.underlying src).isSome = true) (hd : Tryz.prog.underlying dst = some (.int .i64)) (s : Bool) (k : Nat) (h : k <= 9007199254740992) (w : World) : (convert src dst (.float .f64 (Fl.rnd s (k * Fl.U)))).run Tryz.prog w = .ok (.int .i64 (Fl.sgi s k)) w:=by
 obtain ⟨h1,h2⟩:=Fl.whole_rr k h
 have hr:=Fl.rg_rnd s (k * Fl.U)
 have hw : Fl.wh (Fl.rnd s (k * Fl.U)) = k:=by
  unfold Fl.wh; rw [hr,h1]; exact Nat.mul_div_cancel _ Fl.U_pos
 have hc : Fl.rg (Fl.rnd s (k * Fl.U)) <= Fl.c53:=by
  rw [hr,<- Fl.rv_le_iff,h1,Fl.rv_c53]; exact Nat.mul_le_mul_right _ h
 have:=run_int_trunc src dst hs hd _ hc w
 rw [hw,Fl.sg_rnd] at this
 exact this
theorem isW_yes (x : Nat) (h : Fl.rg x <= Fl.c53 /\ Fl.wh x * Fl.U = Fl.rv (Fl.rg x)) : Fl.isW x = true:=decide_eq_true h
theorem abs_le53 (x : Nat) (hc : Fl.rg x <= Fl.c53) : FloatKind.f64.format.order (Fl.rg x) 4845873199050653696 = some .lt \/ FloatKind.f64.format.order (Fl.rg x) 4845873199050653696 = some .eq:=by
 have cl:=Fl.c53_lt
 rw [Fl.abs53 x (by omega),Fl.compare_int]
 unfold Fl.c53 at hc
 by_cases h : (Fl.rg x : Int) < 4845873199050653696
 ·left; rw [if_pos h]
 ·right; rw [if_neg h,if_pos (by omega)]
theorem abs_gt53 (x : Nat) (hc : ¬ Fl.rg x <= Fl.c53) : FloatKind.f64.format.order (Fl.rg x) 4845873199050653696 = some .gt \/ FloatKind.f64.format.order (Fl.rg x) 4845873199050653696 = none:=by
 rcases Nat.lt_or_ge Fl.I (Fl.rg x) with h | h
 ·right; exact Fl.cmp_nan _ _ (by rw [show Fl.rg (Fl.rg x) = Fl.rg x from Nat.mod_eq_of_lt (Fl.rg_lt x)]; exact h)
 ·left
  rw [Fl.abs53 x h,Fl.compare_int]
  unfold Fl.c53 at hc
  rw [if_neg (by omega),if_neg (by omega)]
end
section
open Go.RowKit
def Fl.nearN (x : Nat) : Int:=if Fl.rg x <= Fl.c53 then Fl.sgi (Fl.sg x) (Fl.nk x) else 0
noncomputable def Fl.nearD (x : Nat) : Nat:=if Fl.rg x <= Fl.c53 then Fl.rr (Fl.dist (Fl.rv (Fl.rg x)) (Fl.nk x)) else 0
def Fl.nearE (x : Nat) : Int:=if Fl.rg x <= Fl.c53 then 0 else if Fl.rg x < Fl.I then 6 else 5
def NPost (x : Nat) (w : World) (e : Ending) (w' : World) : Prop:=e = .returned (.tuple #[.int .i64 (Fl.nearN x),.float .f64 (Fl.nearD x),.int .i64 (Fl.nearE x)]) /\ Dr w w'
theorem near_in (x : Nat) (w : World) (hx : x < 2 * Fl.W) (hf : Fl.rg x < Fl.I) (s : Nat) (hs : s < 2 * Fl.W)
  (o1 : Ordering) (h1 : FloatKind.f64.format.order (Fl.rg x) 4845873199050653696 = some o1) (ho1 : o1 = .lt \/ o1 = .eq) (n : Int)
  (hi : ∀ w,(convert 76 2 (.float .f64 (Fl.rte x))).run Tryz.prog w = .ok (.int .i64 n) w)
  (hsub : ∀ w,(binOp .sub 76 (.float .f64 x) (.float .f64 (Fl.rte x))).run Tryz.prog w = .ok (.float .f64 s) w) :
  Calls Tryz.prog 91 #[.float .f64 x] w fun e w'=>e = .returned (.tuple #[.int .i64 n,.float .f64 (Fl.rg s),.int .i64 0]) /\ w = w':=by
 have he:=run_even x hf
 rcases ho1 with rfl | rfl
 all_goals
  go_enter Tryz.func91,Tryz.ntmps91
  go_wp2_with fail
  refine (finite_yes x _ hx hf).mono ?_
  rintro e w' ⟨rfl,rfl⟩
  go_wp2_with fail
  refine (abs_any _ _ hx).mono ?_
  rintro e w' ⟨rfl,rfl⟩
  go_wp2_with fail
  refine (abs_any _ _ hs).mono ?_
  rintro e w' ⟨rfl,rfl⟩
  go_wp2
  go_ret3
  exact ⟨rfl,rfl⟩
theorem near_any (x : Nat) (w : World) (hx : x < 2 * Fl.W) : Calls Tryz.prog 91 #[.float .f64 x] w (NPost x w):=by
 have cl:=Fl.c53_lt
 by_cases hc : Fl.rg x <= Fl.c53
 ·obtain ⟨t,ht⟩:=Fl.sub_whole x hx (by omega) (Fl.sg x) (Fl.nk x) (Fl.nk_le x hc) (.inl rfl)
  have hi:=run_int_whole 76 2 (by kernel_rfl) (by kernel_rfl) (Fl.sg x) (Fl.nk x) (Fl.nk_le x hc)
  have hsub:=fun w=>run_float_arith (P:=Tryz.prog) w .sub 76 .f64 x (Fl.rte x) _ ht
  obtain ⟨o1,e1,f1⟩ : ∃ o1,FloatKind.f64.format.order (Fl.rg x) 4845873199050653696 = some o1 /\ (o1 = .lt \/ o1 = .eq):=by
   rcases abs_le53 x hc with h | h
   ·exact ⟨_,h,.inl rfl⟩
   ·exact ⟨_,h,.inr rfl⟩
  refine (near_in x w hx (by omega) _ (Fl.rnd_lt _ _) o1 e1 f1 _ hi hsub).mono ?_
  rintro e w' ⟨rfl,rfl⟩
  refine ⟨?_,Dr.refl _⟩
  unfold Fl.nearN Fl.nearD Fl.nearE
  rw [if_pos hc,if_pos hc,if_pos hc,Fl.rg_rnd]
 ·by_cases hf : Fl.rg x < Fl.I
  ·have ho : FloatKind.f64.format.order (Fl.rg x) 4845873199050653696 = some .gt:=by
    rcases abs_gt53 x hc with h | h
    ·exact h
    ·rw [Fl.abs53 x (by omega)] at h; cases h
   have hN : Hid (NPost x w (.returned (.tuple #[.int .i64 0,.float .f64 0,.int .i64 6])) w):=by
    refine ⟨?_,Dr.refl _⟩
    unfold Fl.nearN Fl.nearD Fl.nearE
    rw [if_neg hc,if_neg hc,if_neg hc,if_pos hf]
   clear hc cl
   go_enter Tryz.func91,Tryz.ntmps91
   go_wp2_with fail
   refine (finite_yes x _ hx hf).mono ?_
   rintro e w' ⟨rfl,rfl⟩
   go_wp2_with fail
   refine (abs_any _ _ hx).mono ?_
   rintro e w' ⟨rfl,rfl⟩
   go_wp2
   go_ret3
   exact hN.out
  ·have hN : Hid (∀ w',Dr w w' -> NPost x w (.returned (.tuple #[.int .i64 0,.float .f64 0,.int .i64 5])) w'):=by
    intro w' hd
    refine ⟨?_,hd⟩
    unfold Fl.nearN Fl.nearD Fl.nearE
    rw [if_neg hc,if_neg hc,if_neg hc,if_neg hf]
   clear hc cl
   go_enter Tryz.func91,Tryz.ntmps91
   go_wp2_with fail
   refine (finite_no x _ hf).mono ?_
   rintro e w' ⟨rfl,hd⟩
   have HD:=Hd hd
   clear hd hf
   go_wp2
   go_ret3
   exact hN.out _ HD.out
end
section
open Go.RowKit
end
section
open Go.RowKit
def Fl.greatW (x : Nat) (up : Bool) : Nat:=if up = !Fl.sg x then x else Fl.wd (Fl.sg x) 9218868437227405311
def Fl.nearS (a b : Nat) : Nat:=Fl.rnd (Fl.sgn2 (Fl.sg a) (Fl.sg b) (Fl.vl a + Fl.vl b)) (Fl.vl a + Fl.vl b).natAbs
def Fl.addF (a b : Nat) (up : Bool) : Nat :=
 if Fl.rg (Fl.nearS a b) = Fl.I then Fl.greatW (Fl.nearS a b) up
 else if Fl.rg (Fl.nearS a b) = 0 then (if Fl.rg a = 0 /\ Fl.sg a = Fl.sg b then a else if up then 0 else Fl.W)
 else Fl.sideW (Fl.nearS a b) (compare (Fl.vl a + Fl.vl b) (Fl.vl (Fl.nearS a b))) (Fl.next (Fl.nearS a b) up) up
def Fl.addS (a b : Nat) (up : Bool) : Option Nat:=if Fl.rg a < Fl.I /\ Fl.rg b < Fl.I then some (Fl.addF a b up) else Ieee.double.add a b
theorem Fl.ord0 (x : Nat) (h : Fl.rg x <= Fl.I) : FloatKind.f64.format.order x 0 = some (compare (Fl.key x) 0):=by
 have:=Fl.order_key x 0 h (by decide)
 rw [Fl.key0] at this; exact this
theorem side_any (near off : Nat) (up : Bool) (w : World) (hn : near < 2 * Fl.W) (o : Ordering) (ho : FloatKind.f64.format.order off 0 = some o) :
  Calls Tryz.prog 200 #[.float .f64 near,.float .f64 off,.bool up] w fun e w'=>e = .returned (.float .f64 (Fl.sideW near o (Fl.next near up) up)) /\ w = w':=by
 unfold Fl.sideW
 cases up <;> cases o
 all_goals
  simp only [reduceCtorEq,false_and,and_false,and_true,true_and,or_false,false_or,or_true,if_true,if_false]
  go_enter Tryz.func200,Tryz.ntmps200
  go_wp2_with (go_at_call 207; refine (next_any _ _ _ hn).mono ?_; rintro e w' ⟨rfl,rfl⟩)
  go_ret
  exact ⟨rfl,rfl⟩
theorem great_any (x : Nat) (up : Bool) (w : World) (hx : x < 2 * Fl.W) (h : Fl.rg x = Fl.I) :
  Calls Tryz.prog 198 #[.float .f64 x,.bool up] w fun e w'=>e = .returned (.float .f64 (Fl.greatW x up)) /\ w = w':=by
 unfold Fl.greatW
 have hm : (9218868437227405311 : Nat) < 2 * Fl.W:=by decide
 have hr : Fl.rg 9218868437227405311 = 9218868437227405311:=by decide
 have HR:=Hd hr
 clear hr
 have hi : 0 < Fl.rg x:=by rw [h]; decide
 cases hs : Fl.sg x
 ·have h0:=Fl.cmp0_gt x hi (Nat.le_of_eq h) hs
  clear hi h
  cases up
  ·simp only [Bool.not_false,Bool.false_eq_true,if_false]
   go_enter Tryz.func198,Tryz.ntmps198
   go_wp2_with (go_at_call 176; refine (copysign_any _ _ _ hm hx).mono ?_; rintro e w' ⟨rfl,rfl⟩)
   go_ret
   exact ⟨ret_fl (by rw [HR.out]),rfl⟩
  ·simp only [Bool.not_false,if_true]
   go_enter Tryz.func198,Tryz.ntmps198
   go_wp2
   go_ret
   exact ⟨rfl,rfl⟩
 ·have h0:=Fl.cmp0_lt x hi (Nat.le_of_eq h) hs
  clear hi h
  cases up
  ·simp only [Bool.not_true,if_true]
   go_enter Tryz.func198,Tryz.ntmps198
   go_wp2
   go_ret
   exact ⟨rfl,rfl⟩
  ·simp only [Bool.not_true,Bool.true_eq_false,if_false]
   go_enter Tryz.func198,Tryz.ntmps198
   go_wp2_with (go_at_call 176; refine (copysign_any _ _ _ hm hx).mono ?_; rintro e w' ⟨rfl,rfl⟩)
   go_ret
   exact ⟨ret_fl (by rw [HR.out]),rfl⟩
theorem add_not (a b : Nat) (up : Bool) (w : World) (ha : a < 2 * Fl.W) (hb : b < 2 * Fl.W) (h : ¬ (Fl.rg a < Fl.I /\ Fl.rg b < Fl.I)) :
  Calls Tryz.prog 185 #[.float .f64 a,.float .f64 b,.bool up] w (FlPost (Ieee.double.add a b) w):=by
 obtain ⟨s,w1,hr,hs,hw1⟩:=run_float_any .add 76 a b w (by simp)
 have HD : Hid (Dr w w1):=by rcases hw1 with rfl | rfl; exact Dr.refl _; exact Dr.drew _
 have HS : Hid (Fl.Is (Ieee.double.add a b) s):=hs
 clear hs hw1
 by_cases hfa : Fl.rg a < Fl.I
 ·have hfb : ¬ Fl.rg b < Fl.I:=fun h2=>h ⟨hfa,h2⟩
  clear h
  go_enter Tryz.func185,Tryz.ntmps185
  go_wp2_with fail
  refine (finite_yes a _ ha hfa).mono ?_
  rintro e w' ⟨rfl,rfl⟩
  go_wp2_with fail
  refine (finite_no b _ hfb).mono ?_
  rintro e w' ⟨rfl,hd⟩
  have HD2:=Hd hd
  clear hd
  go_wp2
  go_ret
  exact ⟨s,rfl,HS.out,HD.out.trans HD2.out⟩
 ·clear h
  go_enter Tryz.func185,Tryz.ntmps185
  go_wp2_with fail
  refine (finite_no a _ hfa).mono ?_
  rintro e w' ⟨rfl,hd⟩
  have HD2:=Hd hd
  clear hd
  go_wp2
  go_ret
  exact ⟨s,rfl,HS.out,HD.out.trans HD2.out⟩
theorem nearS_run (a b : Nat) (fa : Fl.rg a < Fl.I) (fb : Fl.rg b < Fl.I) (w : World) : (binOp .add 76 (.float .f64 a) (.float .f64 b)).run Tryz.prog w = .ok (.float .f64 (Fl.nearS a b)) w :=
 run_float_arith w .add _ .f64 a b _ (Fl.add_fin a b fa fb)
theorem nearS_lt (a b : Nat) : Fl.nearS a b < 2 * Fl.W:=Fl.rnd_lt _ _
theorem nearS_rg (a b : Nat) : Fl.rg (Fl.nearS a b) <= Fl.I:=by unfold Fl.nearS; rw [Fl.rg_rnd]; exact (Fl.rnd_rr false _).2
theorem add_great (a b : Nat) (up : Bool) (w : World) (ha : a < 2 * Fl.W) (hb : b < 2 * Fl.W) (fa : Fl.rg a < Fl.I) (fb : Fl.rg b < Fl.I) (hI : Fl.rg (Fl.nearS a b) = Fl.I) :
  Calls Tryz.prog 185 #[.float .f64 a,.float .f64 b,.bool up] w fun e w'=>e = .returned (.float .f64 (Fl.greatW (Fl.nearS a b) up)) /\ Dr w w':=by
 have h1:=nearS_run a b fa fb
 have h2:=nearS_lt a b
 have h3 : ¬ Fl.rg (Fl.nearS a b) < Fl.I:=by omega
 go_enter Tryz.func185,Tryz.ntmps185
 go_wp2_with fail
 refine (finite_yes a _ ha fa).mono ?_
 rintro e w' ⟨rfl,rfl⟩
 go_wp2_with fail
 refine (finite_yes b _ hb fb).mono ?_
 rintro e w' ⟨rfl,rfl⟩
 go_wp2_with fail
 refine (finite_no _ _ h3).mono ?_
 rintro e w' ⟨rfl,hd⟩
 have HD:=Hd hd
 clear hd
 go_wp2_with fail
 refine (great_any _ _ _ h2 hI).mono ?_
 rintro e w' ⟨rfl,rfl⟩
 go_wp2
 go_ret
 exact ⟨rfl,HD.out⟩
theorem nearS_zero (a b : Nat) (h0 : Fl.rg (Fl.nearS a b) = 0) : Fl.vl a + Fl.vl b = 0 /\ Fl.rg b = Fl.rg a:=by
 unfold Fl.nearS at h0
 rw [Fl.rg_rnd] at h0
 have hz : (Fl.vl a + Fl.vl b).natAbs = 0:=by
  rcases Nat.eq_zero_or_pos (Fl.vl a + Fl.vl b).natAbs with h | h
  ·exact h
  ·have:=Fl.rr_pos _ h; omega
 have hz2 : Fl.vl a + Fl.vl b = 0:=by omega
 refine ⟨hz2,Fl.rv_inj ?_⟩
 have h1:=Fl.vl_abs a
 have h2:=Fl.vl_abs b
 omega
theorem ord0_not (x : Nat) (h : Fl.rg x < Fl.I) (h0 : ¬ Fl.rg x = 0) : (FloatKind.f64.format.order x 0 == some .eq) = false:=by
 cases hs : Fl.sg x
 ·rw [Fl.cmp0_gt x (by omega) (by omega) hs]; rfl
 ·rw [Fl.cmp0_lt x (by omega) (by omega) hs]; rfl
theorem add_zero_same (a b : Nat) (up : Bool) (w : World) (ha : a < 2 * Fl.W) (hb : b < 2 * Fl.W) (fa : Fl.rg a < Fl.I) (fb : Fl.rg b < Fl.I) (h0 : Fl.rg (Fl.nearS a b) = 0) (hz : Fl.rg a = 0) (hs : Fl.sg a = Fl.sg b) :
  Calls Tryz.prog 185 #[.float .f64 a,.float .f64 b,.bool up] w fun e w'=>e = .returned (.float .f64 a) /\ w = w':=by
 have h1:=nearS_run a b fa fb
 have h2:=nearS_lt a b
 have h3 : Fl.rg (Fl.nearS a b) < Fl.I:=by rw [h0]; decide
 have h4:=Fl.cmp0_eq _ h0
 have h5:=Fl.cmp0_eq a hz
 have h6:=Fl.cmp0_eq b ((nearS_zero a b h0).2.trans hz)
 have h7 : (Fl.sg a == Fl.sg b) = true:=by rw [hs]; simp
 clear hs hz h0
 go_enter Tryz.func185,Tryz.ntmps185
 go_wp2_with fail
 refine (finite_yes a _ ha fa).mono ?_
 rintro e w' ⟨rfl,rfl⟩
 go_wp2_with fail
 refine (finite_yes b _ hb fb).mono ?_
 rintro e w' ⟨rfl,rfl⟩
 go_wp2_with fail
 refine (finite_yes _ _ h2 h3).mono ?_
 rintro e w' ⟨rfl,rfl⟩
 go_wp2_with fail
 refine (signbit_any a _ ha).mono ?_
 rintro e w' ⟨rfl,rfl⟩
 go_wp2_with fail
 refine (signbit_any b _ hb).mono ?_
 rintro e w' ⟨rfl,rfl⟩
 go_wp2
 go_ret
 exact ⟨rfl,rfl⟩
theorem add_zero_other (a b : Nat) (up : Bool) (w : World) (ha : a < 2 * Fl.W) (hb : b < 2 * Fl.W) (fa : Fl.rg a < Fl.I) (fb : Fl.rg b < Fl.I) (h0 : Fl.rg (Fl.nearS a b) = 0) (hn : ¬ (Fl.rg a = 0 /\ Fl.sg a = Fl.sg b)) :
  Calls Tryz.prog 185 #[.float .f64 a,.float .f64 b,.bool up] w fun e w'=>e = .returned (.float .f64 (if up then 0 else Fl.W)) /\ w = w':=by
 have h1:=nearS_run a b fa fb
 have h2:=nearS_lt a b
 have h3 : Fl.rg (Fl.nearS a b) < Fl.I:=by rw [h0]; decide
 have h4:=Fl.cmp0_eq _ h0
 have c1 : (0 : Nat) < 2 * Fl.W:=by decide
 have c2 : (13830554455654793216 : Nat) < 2 * Fl.W:=by decide
 by_cases hz : Fl.rg a = 0
 ·have h5:=Fl.cmp0_eq a hz
  have h6:=Fl.cmp0_eq b ((nearS_zero a b h0).2.trans hz)
  have h7 : (Fl.sg a == Fl.sg b) = false:=by
   have : ¬ Fl.sg a = Fl.sg b:=fun h=>hn ⟨hz,h⟩
   simpa using this
  clear hn hz h0
  cases up
  all_goals
   go_enter Tryz.func185,Tryz.ntmps185
   go_wp2_with fail
   refine (finite_yes a _ ha fa).mono ?_
   rintro e w' ⟨rfl,rfl⟩
   go_wp2_with fail
   refine (finite_yes b _ hb fb).mono ?_
   rintro e w' ⟨rfl,rfl⟩
   go_wp2_with fail
   refine (finite_yes _ _ h2 h3).mono ?_
   rintro e w' ⟨rfl,rfl⟩
   go_wp2_with fail
   refine (signbit_any a _ ha).mono ?_
   rintro e w' ⟨rfl,rfl⟩
   go_wp2_with fail
   refine (signbit_any b _ hb).mono ?_
   rintro e w' ⟨rfl,rfl⟩
   go_wp2_with (go_at_call 176; refine (copysign_any _ _ _ c1 c2).mono ?_; rintro e w' ⟨rfl,rfl⟩)
   go_ret
   exact ⟨rfl,rfl⟩
 ·have h5:=ord0_not a fa hz
  clear hn hz h0
  cases up
  all_goals
   go_enter Tryz.func185,Tryz.ntmps185
   go_wp2_with fail
   refine (finite_yes a _ ha fa).mono ?_
   rintro e w' ⟨rfl,rfl⟩
   go_wp2_with fail
   refine (finite_yes b _ hb fb).mono ?_
   rintro e w' ⟨rfl,rfl⟩
   go_wp2_with fail
   refine (finite_yes _ _ h2 h3).mono ?_
   rintro e w' ⟨rfl,rfl⟩
   go_wp2_with (go_at_call 176; refine (copysign_any _ _ _ c1 c2).mono ?_; rintro e w' ⟨rfl,rfl⟩)
   go_ret
   exact ⟨rfl,rfl⟩
theorem nearS_comm (a b : Nat) : Fl.nearS a b = Fl.nearS b a:=by
 unfold Fl.nearS Fl.sgn2
 rw [Int.add_comm,Bool.and_comm]
theorem add_side (a b : Nat) (up : Bool) (w : World) (ha : a < 2 * Fl.W) (hb : b < 2 * Fl.W) (fa : Fl.rg a < Fl.I) (fb : Fl.rg b < Fl.I) (h3 : Fl.rg (Fl.nearS a b) < Fl.I) (h0 : ¬ Fl.rg (Fl.nearS a b) = 0) :
  Calls Tryz.prog 185 #[.float .f64 a,.float .f64 b,.bool up] w fun e w'=>e = .returned (.float .f64 (Fl.sideW (Fl.nearS a b) (compare (Fl.vl a + Fl.vl b) (Fl.vl (Fl.nearS a b))) (Fl.next (Fl.nearS a b) up) up)) /\ w = w':=by
 have h1:=nearS_run a b fa fb
 have h2:=nearS_lt a b
 have h4:=ord0_not _ h3 h0
 rcases Nat.lt_or_ge (Fl.rg a) (Fl.rg b) with hlt | hge
 ·have ho : FloatKind.f64.format.order (Fl.rg a) (Fl.rg b) = some .lt:=by
   rw [Fl.ord_pos _ _ (by omega) (by omega),Fl.compare_int,if_pos (by omega)]
  obtain ⟨t,off,e1,e2,e3,e4⟩:=Fl.fast_sign b a hb ha fb fa (Nat.le_of_lt hlt) (Fl.nearS a b) (by rw [nearS_comm]; rfl) h3
  have s1:=fun w=>run_float_arith (P:=Tryz.prog) w .sub 76 .f64 (Fl.nearS a b) b t e1
  have s2:=fun w=>run_float_arith (P:=Tryz.prog) w .sub 76 .f64 a t off e2
  have hoff:=Fl.ord0 off e3
  rw [e4,Int.add_comm (Fl.vl b)] at hoff
  have HO:=Hd hoff
  clear e1 e2 e3 e4 hoff hlt h0
  go_enter Tryz.func185,Tryz.ntmps185
  go_wp2_with fail
  refine (finite_yes a _ ha fa).mono ?_
  rintro e w' ⟨rfl,rfl⟩
  go_wp2_with fail
  refine (finite_yes b _ hb fb).mono ?_
  rintro e w' ⟨rfl,rfl⟩
  go_wp2_with fail
  refine (finite_yes _ _ h2 h3).mono ?_
  rintro e w' ⟨rfl,rfl⟩
  go_wp2_with fail
  refine (abs_any a _ ha).mono ?_
  rintro e w' ⟨rfl,rfl⟩
  go_wp2_with fail
  refine (abs_any b _ hb).mono ?_
  rintro e w' ⟨rfl,rfl⟩
  go_wp2_with fail
  refine (side_any _ off up _ h2 _ HO.out).mono ?_
  rintro e w' ⟨rfl,rfl⟩
  go_wp2
  go_ret
  exact ⟨rfl,rfl⟩
 ·have ho : (FloatKind.f64.format.order (Fl.rg a) (Fl.rg b) == some .lt) = false:=by
   rw [Fl.ord_pos _ _ (by omega) (by omega),Fl.compare_int,if_neg (by omega)]
   split <;> rfl
  obtain ⟨t,off,e1,e2,e3,e4⟩:=Fl.fast_sign a b ha hb fa fb hge (Fl.nearS a b) rfl h3
  have s1:=fun w=>run_float_arith (P:=Tryz.prog) w .sub 76 .f64 (Fl.nearS a b) a t e1
  have s2:=fun w=>run_float_arith (P:=Tryz.prog) w .sub 76 .f64 b t off e2
  have hoff:=Fl.ord0 off e3
  rw [e4] at hoff
  have HO:=Hd hoff
  clear e1 e2 e3 e4 hoff hge h0
  go_enter Tryz.func185,Tryz.ntmps185
  go_wp2_with fail
  refine (finite_yes a _ ha fa).mono ?_
  rintro e w' ⟨rfl,rfl⟩
  go_wp2_with fail
  refine (finite_yes b _ hb fb).mono ?_
  rintro e w' ⟨rfl,rfl⟩
  go_wp2_with fail
  refine (finite_yes _ _ h2 h3).mono ?_
  rintro e w' ⟨rfl,rfl⟩
  go_wp2_with fail
  refine (abs_any a _ ha).mono ?_
  rintro e w' ⟨rfl,rfl⟩
  go_wp2_with fail
  refine (abs_any b _ hb).mono ?_
  rintro e w' ⟨rfl,rfl⟩
  go_wp2_with fail
  refine (side_any _ off up _ h2 _ HO.out).mono ?_
  rintro e w' ⟨rfl,rfl⟩
  go_wp2
  go_ret
  exact ⟨rfl,rfl⟩
theorem add_any (a b : Nat) (up : Bool) (w : World) (ha : a < 2 * Fl.W) (hb : b < 2 * Fl.W) : Calls Tryz.prog 185 #[.float .f64 a,.float .f64 b,.bool up] w (FlPost (Fl.addS a b up) w):=by
 unfold Fl.addS
 by_cases h : Fl.rg a < Fl.I /\ Fl.rg b < Fl.I
 ·rw [if_pos h]
  unfold Fl.addF
  by_cases hI : Fl.rg (Fl.nearS a b) = Fl.I
  ·rw [if_pos hI]
   exact (add_great a b up w ha hb h.1 h.2 hI).mono fun e w' ⟨h1,h2⟩=>⟨_,h1,rfl,h2⟩
  ·rw [if_neg hI]
   by_cases h0 : Fl.rg (Fl.nearS a b) = 0
   ·rw [if_pos h0]
    by_cases hz : Fl.rg a = 0 /\ Fl.sg a = Fl.sg b
    ·rw [if_pos hz]
     exact (add_zero_same a b up w ha hb h.1 h.2 h0 hz.1 hz.2).mono fun e w' ⟨h1,h2⟩=>⟨_,h1,rfl,h2 ▸ Dr.refl w⟩
    ·rw [if_neg hz]
     exact (add_zero_other a b up w ha hb h.1 h.2 h0 hz).mono fun e w' ⟨h1,h2⟩=>⟨_,h1,rfl,h2 ▸ Dr.refl w⟩
   ·rw [if_neg h0]
    have:=nearS_rg a b
    exact (add_side a b up w ha hb h.1 h.2 (by omega) h0).mono fun e w' ⟨h1,h2⟩=>⟨_,h1,rfl,h2 ▸ Dr.refl w⟩
 ·rw [if_neg h]
  exact add_not a b up w ha hb h
end
section
open Go.RowKit
theorem isnan_no (x : Nat) (w : World) (h : Fl.rg x <= Fl.I) : Calls Tryz.prog 174 #[.float .f64 x] w fun e w'=>e = .returned (.bool false) /\ w = w':=by
 have h1:=Fl.cmp_self x h
 go_enter Tryz.func174,Tryz.ntmps174
 go_wp2
 go_ret
 exact ⟨rfl,rfl⟩
def Fl.nzW (x : Nat) : Nat:=if Fl.rg x < Fl.B then Fl.wd (Fl.sg x) ((Fl.nE (Fl.rg x) + 52).toNat * Fl.B + Fl.nM (Fl.rg x)) else x
def Fl.nzP (x : Nat) : Int:=if Fl.rg x < Fl.B then -52 else 0
theorem normalize_fin (x : Nat) (w : World) (hx : x < 2 * Fl.W) (h0 : 0 < Fl.rg x) (hf : Fl.rg x < Fl.I) :
  Calls Tryz.prog 175 #[.float .f64 x] w fun e w'=>e = .returned (.tuple #[.float .f64 (Fl.nzW x),.int .i64 (Fl.nzP x)]) /\ w = w':=by
 unfold Fl.nzW Fl.nzP
 by_cases h : Fl.rg x < Fl.B
 ·rw [if_pos h,if_pos h]
  have ho : FloatKind.f64.format.order (Fl.rg x) 4503599627370496 = some .lt:=by
   rw [Fl.ord_pos _ _ (Nat.le_of_lt hf) (by decide),Fl.compare_int]
   unfold Fl.B at h
   rw [if_pos (by omega)]
  have hm:=fun w=>run_float_arith (P:=Tryz.prog) w .mul 76 .f64 x 4841369599423283200 _ (Fl.up52 x h0 h).1
  clear h h0 hf
  go_enter Tryz.func175,Tryz.ntmps175
  go_wp2_with fail
  refine (abs_any x _ hx).mono ?_
  rintro e w' ⟨rfl,rfl⟩
  go_wp2
  go_ret2
  exact ⟨rfl,rfl⟩
 ·rw [if_neg h,if_neg h]
  have ho : (FloatKind.f64.format.order (Fl.rg x) 4503599627370496 == some .lt) = false:=by
   rw [Fl.ord_pos _ _ (Nat.le_of_lt hf) (by decide),Fl.compare_int]
   unfold Fl.B at h
   rw [if_neg (by omega)]
   split <;> rfl
  clear h h0 hf
  go_enter Tryz.func175,Tryz.ntmps175
  go_wp2_with fail
  refine (abs_any x _ hx).mono ?_
  rintro e w' ⟨rfl,rfl⟩
  go_wp2
  go_ret2
  exact ⟨rfl,rfl⟩
theorem Fl.nzW_facts (x : Nat) (hx : x < 2 * Fl.W) (h0 : 0 < Fl.rg x) (hf : Fl.rg x < Fl.I) : ∃ r,Fl.nzW x = Fl.wd (Fl.sg x) r /\ r < Fl.I /\ r = (Fl.nE (Fl.rg x) - Fl.nzP x).toNat * Fl.B + Fl.nM (Fl.rg x) /\ 0 <= Fl.nE (Fl.rg x) - Fl.nzP x /\ (Fl.nzP x = 0 \/ Fl.nzP x = -52):=by
 unfold Fl.nzW Fl.nzP
 by_cases h : Fl.rg x < Fl.B
 ·rw [if_pos h,if_pos h]
  obtain ⟨_,a2,a3⟩:=Fl.up52 x h0 h
  have hr:=Fl.nE_range (Fl.rg x) h0 hf
  exact ⟨_,rfl,a2,by rw [show Fl.nE (Fl.rg x) - -52 = Fl.nE (Fl.rg x) + 52 by omega],by omega,.inr rfl⟩
 ·rw [if_neg h,if_neg h]
  obtain ⟨b1,b2⟩:=Fl.norm_rung (Fl.rg x) (by omega)
  exact ⟨Fl.rg x,(Fl.wd_sg_rg x hx).symm,hf,by rw [show Fl.nE (Fl.rg x) - 0 = Fl.nE (Fl.rg x) by omega]; exact b1,by omega,.inl rfl⟩
theorem Fl.div_rung (e m : Nat) (h1 : Fl.B <= m) (h2 : m < 2 * Fl.B) : (e * Fl.B + m) / Fl.B = e + 1 /\ (e * Fl.B + m) % Fl.B = m - Fl.B:=by
 unfold Fl.B at *; omega
theorem and2047 (n : Nat) : n &&& 2047 = n % 2048:=Nat.and_two_pow_sub_one_eq_mod n 11
theorem exp_u64 (s : Bool) (r : Nat) (h : r < Fl.W) : bits BinOp.and IntKind.u64 (((Fl.wd s r : Nat) : Int) / 4503599627370496) 2047 = ((r / Fl.B : Nat) : Int):=by
 have hl:=Fl.wd_lt s r h
 have e1 : (((Fl.wd s r : Nat) : Int) / 4503599627370496) = ((Fl.wd s r / 4503599627370496 : Nat) : Int):=by omega
 have e2 : (2047 : Int) = ((2047 : Nat) : Int):=rfl
 rw [e1,e2,u64_and_nat _ _ (by unfold Fl.W at hl; omega) (by decide),and2047,Fl.field_exp s r h]
theorem exp_i64 (s : Bool) (r : Nat) (h : r < Fl.W) : bits BinOp.and IntKind.i64 (wrap64 (((Fl.wd s r : Nat) : Int) / 4503599627370496)) 2047 = ((r / Fl.B : Nat) : Int):=by
 have hl:=Fl.wd_lt s r h
 have e1 : wrap64 (((Fl.wd s r : Nat) : Int) / 4503599627370496) = ((Fl.wd s r / 4503599627370496 : Nat) : Int):=by
  unfold wrap64 Fl.W at *; omega
 have hb:=bits_nat .i64 62 (by decide) (by intro n h0 h1; rw [IntKind.wrap_i64]; omega) (Fl.wd s r / 4503599627370496) 2047 (by unfold Fl.W at hl; omega) (by decide)
 have e2 : (2047 : Int) = ((2047 : Nat) : Int):=rfl
 rw [e1,e2]
 rw [hb.1,and2047,Fl.field_exp s r h]
theorem sign_or (s : Bool) (q : Nat) (h : q < Fl.W) : (if s then Fl.W else 0) ||| q = Fl.wd s q:=by
 cases s
 ·simp [Fl.wd]
 ·simp only [if_true,Fl.wd]
  exact nat_join 63 Fl.W q (by decide) (by rw [<- Fl.W_eq]; exact h)
theorem clear_exp (s : Bool) (r : Nat) (h : r < Fl.W) : bits BinOp.andNot IntKind.u64 ((Fl.wd s r : Nat) : Int) 9218868437227405312 = ((Fl.wd s (r % Fl.B) : Nat) : Int):=by
 have hl:=Fl.wd_lt s r h
 have e2 : (9218868437227405312 : Int) = ((9218868437227405312 : Nat) : Int):=rfl
 rw [e2,u64_andNot_nat _ _ (by unfold Fl.W at hl; omega) (by decide)]
 rw [show 18446744073709551615 - 9218868437227405312 = Fl.W ||| (2 ^ 52 - 1) by decide,Nat.and_or_distrib_left,Fl.and_sign,Nat.and_two_pow_sub_one_eq_mod]
 have h1 : Fl.wd s r / Fl.W % 2 * Fl.W = if s then Fl.W else 0:=by
  have:=Fl.sg_wd s r h
  unfold Fl.sg at this
  cases s
  ·have h2 : ¬ Fl.wd false r / Fl.W % 2 = 1:=by simpa using this
   have : Fl.wd false r / Fl.W % 2 = 0:=by omega
   rw [this]; simp
  ·have h2 : Fl.wd true r / Fl.W % 2 = 1:=by simpa using this
   rw [h2]; simp
 have h2 : Fl.wd s r % 2 ^ 52 = r % Fl.B:=by
  unfold Fl.wd Fl.W Fl.B; cases s
  ·simp
  ·simp only [if_true]; omega
 rw [h1,h2,sign_or s _ (Nat.lt_of_le_of_lt (Nat.mod_le _ _) h)]
theorem set_exp (s : Bool) (q n : Nat) (hq : q < Fl.B) (hn : n <= 2047) (e : Int) (he : e = (n : Int)) : bits BinOp.or IntKind.u64 ((Fl.wd s q : Nat) : Int) (e * 4503599627370496) = ((Fl.wd s (n * Fl.B + q) : Nat) : Int):=by
 subst he
 have hqW : q < Fl.W:=Nat.lt_trans hq (by decide)
 have hl:=Fl.wd_lt s q hqW
 have e1 : ((n : Int) * 4503599627370496) = ((n * 4503599627370496 : Nat) : Int):=by omega
 rw [e1,u64_or_nat _ _ (by unfold Fl.W at hl; omega) (by omega)]
 rw [<- sign_or s q hqW,Nat.or_assoc,Nat.or_comm q,nat_join 52 (n * 4503599627370496) q (by omega) (by unfold Fl.B at hq; omega)]
 rw [sign_or s _ (by unfold Fl.B Fl.W at *; omega)]
 rfl
theorem set_exp_lit (s : Bool) (q : Nat) (hq : q < Fl.B) : bits BinOp.or IntKind.u64 ((Fl.wd s q : Nat) : Int) 4602678819172646912 = ((Fl.wd s (1022 * Fl.B + q) : Nat) : Int):=by
 have:=set_exp s q 1022 hq (by decide) 1022 rfl
 rw [show (1022 : Int) * 4503599627370496 = 4602678819172646912 by decide] at this
 exact this
theorem ret_fi {a b : Nat} {n m : Int} (h1 : a = b) (h2 : n = m) : Ending.returned (.tuple #[.float .f64 a,.int .i64 n]) = .returned (.tuple #[.float .f64 b,.int .i64 m]):=by rw [h1,h2]
theorem frexp_walk (x : Nat) (w : World) (hx : x < 2 * Fl.W) (h0 : 0 < Fl.rg x) (hf : Fl.rg x < Fl.I) (p : Nat) (q f : Int) (c r : Nat)
  (hn : ∀ w,Calls Tryz.prog 175 #[.float .f64 x] w fun e w'=>e = .returned (.tuple #[.float .f64 p,.int .i64 q]) /\ w = w')
  (hq1 : -52 <= q) (hq2 : q <= 0) (hf1 : 0 <= f) (hf2 : f <= 2047)
  (h1 : bits BinOp.and IntKind.u64 ((p : Int) / 4503599627370496) 2047 = f)
  (h2 : bits BinOp.andNot IntKind.u64 (p : Int) 9218868437227405312 = (c : Int))
  (h3 : bits BinOp.or IntKind.u64 (c : Int) 4602678819172646912 = (r : Int)) :
  Calls Tryz.prog 203 #[.float .f64 x] w fun e w'=>e = .returned (.tuple #[.float .f64 r,.int .i64 (q + (f - 1023 + 1))]) /\ w = w':=by
 have hb:=run_bits
 have hf':=run_from
 have o1:=ord0_not x hf (by omega)
 have o2 : decide (Fl.rg x = Fl.I) = false:=decide_eq_false (by omega)
 have HN:=Hd hn
 have hle : Fl.rg x <= Fl.I:=Nat.le_of_lt hf
 clear hn
 go_enter Tryz.func203,Tryz.ntmps203
 go_wp2_with fail
 refine (isinf_any x _ hx).mono ?_
 rintro e w' ⟨rfl,rfl⟩
 go_wp2_with fail
 refine (isnan_no x _ hle).mono ?_
 rintro e w' ⟨rfl,rfl⟩
 go_wp2_with fail
 refine (HN.out _).mono ?_
 rintro e w' ⟨rfl,rfl⟩
 go_wp2
 go_ret2
 exact ⟨ret_fi rfl rfl,rfl⟩
theorem shift_b (b m : Nat) (h : b <= m) : 1022 * b + (m - b) = 1021 * b + m:=by omega
theorem frexp_fin (x : Nat) (w : World) (hx : x < 2 * Fl.W) (h0 : 0 < Fl.rg x) (hf : Fl.rg x < Fl.I) :
  Calls Tryz.prog 187 #[.float .f64 x] w fun e w'=>e = .returned (.tuple #[.float .f64 (Fl.frx x),.int .i64 (Fl.fri x)]) /\ w = w':=by
 obtain ⟨r,e1,e2,e3,e4,e5⟩:=Fl.nzW_facts x hx h0 hf
 obtain ⟨m1,m2⟩:=Fl.nM_range (Fl.rg x) h0
 have hr:=Fl.nE_range (Fl.rg x) h0 hf
 have hW : r < Fl.W:=Nat.lt_trans e2 Fl.I_lt_W
 obtain ⟨d1,d2⟩:=Fl.div_rung (Fl.nE (Fl.rg x) - Fl.nzP x).toNat (Fl.nM (Fl.rg x)) m1 m2
 rw [<- e3] at d1 d2
 have hn:=fun w=>normalize_fin x w hx h0 hf
 rw [e1] at hn
 have hm : Fl.nM (Fl.rg x) - Fl.B < Fl.B:=by omega
 have h1:=exp_u64 (Fl.sg x) r hW
 have h2:=clear_exp (Fl.sg x) r hW
 rw [d2] at h2
 have h3:=set_exp_lit (Fl.sg x) (Fl.nM (Fl.rg x) - Fl.B) hm
 have hfr : Fl.wd (Fl.sg x) (1022 * Fl.B + (Fl.nM (Fl.rg x) - Fl.B)) = Fl.frx x:=by
  unfold Fl.frx; rw [shift_b _ _ m1]
 have hb1 : r / Fl.B <= 2047:=by unfold Fl.B Fl.I at *; omega
 have main:=fun w=>frexp_walk x w hx h0 hf _ _ _ _ _ hn (by omega) (by omega) (by omega) (by omega) h1 h2 h3
 have hi : Fl.nzP x + (((r / Fl.B : Nat) : Int) - 1023 + 1) = Fl.fri x:=by
  rw [d1]; unfold Fl.fri; omega
 rw [hi,hfr] at main
 clear h1 h2 h3 hn hfr hi d1 d2 e1 e2 e3 e4 e5 m1 m2 hr hW hm hb1
 go_enter Tryz.func187,Tryz.ntmps187
 go_wp2_with fail
 refine (main _).mono ?_
 rintro e w' ⟨rfl,rfl⟩
 go_wp2
 go_ret2
 exact ⟨rfl,rfl⟩
end
section
open Go.RowKit
theorem Fl.nearest_tiny (s : Bool) (m : Nat) (p : Int) (h : m < 2 * Fl.B) (hp : p + 1074 <= -54) : Ieee.double.nearest s m p = Fl.wd s 0:=by
 obtain ⟨r,h1,h2⟩:=Fl.nearest_word s m p
 have hr:=h2 (-(p + 1074)).toNat m (by omega) (by rw [show (p + 1074 + ((-(p + 1074)).toNat : Nat)).toNat = 0 by omega]; simp)
 have h0 : Fl.Rnd m (-(p + 1074)).toNat 0:=by
  have hd : 2 ^ 54 <= 2 ^ (-(p + 1074)).toNat:=Nat.pow_le_pow_right (by omega) (by omega)
  have e1 : Fl.rv (0 + 1) = 1:=by decide
  refine ⟨?_,fun _=>rfl,fun h=>absurd h (by omega),fun h=>absurd h (by omega)⟩
  rw [Fl.rv_zero,e1,Nat.zero_add,Nat.one_mul]
  rw [Fl.B_eq] at h
  omega
 rw [h1,hr.eq h0]; rfl
theorem Fl.pow_le {a b : Nat} (h : a <= b) : 2 ^ a <= 2 ^ b:=Nat.pow_le_pow_right (by decide) h
theorem Fl.huge_exp (e : Nat) (p : Int) (he : e = 1074) (hp : 972 <= p) : e + 972 <= (p + 1074 + ((0 : Nat) : Int)).toNat:=by omega
theorem Fl.huge_aux (b m u v : Nat) (h : b <= m) (hu : u <= v) : b * u * 2 ^ 0 * 2 ^ 0 <= m * v * 2 ^ 0:=by
 simp only [Nat.pow_zero,Nat.mul_one]; exact Nat.mul_le_mul h hu
theorem Fl.nearest_huge (s : Bool) (m : Nat) (p : Int) (h : Fl.B <= m) (hp : 972 <= p) : Ieee.double.nearest s m p = Fl.wd s Fl.I:=by
 obtain ⟨r,h1,h2⟩:=Fl.nearest_word s m p
 have hr:=h2 0 _ (by omega) rfl
 have hE:=Fl.E_eq
 have hi:=Fl.rv_of (Fl.E + 972) Fl.B (by unfold Fl.B; omega) (.inr (Nat.le_refl _))
 rw [show (Fl.E + 972) * Fl.B + Fl.B = Fl.I by rw [Fl.E_eq]; decide] at hi
 have hI:=Fl.Rnd.exact Fl.I 0
 have hle : Fl.I <= r:=by
  refine hI.mono hr ?_
  rw [hi]
  have ht : Fl.E + 972 <= (p + 1074 + ((0 : Nat) : Int)).toNat:=Fl.huge_exp _ _ hE hp
  exact Fl.huge_aux Fl.B m _ _ h (Fl.pow_le ht)
 rw [h1,Nat.min_eq_right hle]
theorem inf_pos (w : World) : Calls Tryz.prog 137 #[.int .i64 1] w fun e w'=>e = .returned (.float .f64 Fl.I) /\ w = w':=by
 have hf:=run_from
 go_enter Tryz.func137,Tryz.ntmps137
 go_wp2
 go_ret
 exact ⟨ret_fl (by decide),rfl⟩
theorem inf_neg (w : World) : Calls Tryz.prog 137 #[.int .i64 (-1)] w fun e w'=>e = .returned (.float .f64 (Fl.W + Fl.I)) /\ w = w':=by
 have hf:=run_from
 go_enter Tryz.func137,Tryz.ntmps137
 go_wp2
 go_ret
 exact ⟨ret_fl (by decide),rfl⟩
section
variable (x : Nat) (k : Int) (w : World) (hx : x < 2 * Fl.W) (h0 : 0 < Fl.rg x) (hf : Fl.rg x < Fl.I) (p : Nat) (q f : Int)
  (hn : ∀ w,Calls Tryz.prog 175 #[.float .f64 x] w fun e w'=>e = .returned (.tuple #[.float .f64 p,.int .i64 q]) /\ w = w')
  (hk1 : -1000000 <= k) (hk2 : k <= 1000000) (hq1 : -52 <= q) (hq2 : q <= 0) (hf1 : 0 <= f) (hf2 : f <= 2047)
  (h1 : bits BinOp.and IntKind.i64 (wrap64 ((p : Int) / 4503599627370496)) 2047 = f)
include hx h0 hf hn hk1 hk2 hq1 hq2 hf1 hf2 h1
theorem ldexp_tiny (hE : k + q + (f - 1023) < -1075) (hp : p < 2 * Fl.W) :
  Calls Tryz.prog 136 #[.float .f64 x,.int .i64 k] w fun e w'=>e = .returned (.float .f64 (Fl.wd (Fl.sg p) 0)) /\ w = w':=by
 have hb:=run_bits
 have hf':=run_from
 have o1:=ord0_not x hf (by omega)
 have o2 : decide (Fl.rg x = Fl.I) = false:=decide_eq_false (by omega)
 have HN:=Hd hn
 have hle : Fl.rg x <= Fl.I:=Nat.le_of_lt hf
 have c1 : (0 : Nat) < 2 * Fl.W:=by decide
 clear hn
 go_enter Tryz.func136,Tryz.ntmps136
 go_wp2_with fail
 refine (isinf_any x _ hx).mono ?_
 rintro e w' ⟨rfl,rfl⟩
 go_wp2_with fail
 refine (isnan_no x _ hle).mono ?_
 rintro e w' ⟨rfl,rfl⟩
 go_wp2_with fail
 refine (HN.out _).mono ?_
 rintro e w' ⟨rfl,rfl⟩
 go_wp2_with fail
 refine (copysign_any 0 p _ c1 hp).mono ?_
 rintro e w' ⟨rfl,rfl⟩
 go_wp2
 go_ret
 exact ⟨rfl,rfl⟩
theorem ldexp_huge (hE : 1023 < k + q + (f - 1023)) (s : Bool) (hp : FloatKind.f64.format.order p 0 = some (if s then .lt else .gt)) :
  Calls Tryz.prog 136 #[.float .f64 x,.int .i64 k] w fun e w'=>e = .returned (.float .f64 (Fl.wd s Fl.I)) /\ w = w':=by
 have hb:=run_bits
 have hf':=run_from
 have o1:=ord0_not x hf (by omega)
 have o2 : decide (Fl.rg x = Fl.I) = false:=decide_eq_false (by omega)
 have HN:=Hd hn
 have hle : Fl.rg x <= Fl.I:=Nat.le_of_lt hf
 clear hn
 cases s
 all_goals
  simp only [Bool.false_eq_true,if_false,if_true] at hp
  go_enter Tryz.func136,Tryz.ntmps136
  go_wp2_with fail
  refine (isinf_any x _ hx).mono ?_
  rintro e w' ⟨rfl,rfl⟩
  go_wp2_with fail
  refine (isnan_no x _ hle).mono ?_
  rintro e w' ⟨rfl,rfl⟩
  go_wp2_with fail
  refine (HN.out _).mono ?_
  rintro e w' ⟨rfl,rfl⟩
  go_wp2_with fail
  first
   | ((with_reducible refine (inf_pos _).mono ?_)
      rintro e w' ⟨rfl,rfl⟩
      go_wp2
      go_ret
      exact ⟨rfl,rfl⟩)
   | ((with_reducible refine (inf_neg _).mono ?_)
      rintro e w' ⟨rfl,rfl⟩
      go_wp2
      go_ret
      exact ⟨rfl,rfl⟩)
theorem ldexp_mid (hE1 : -1022 <= k + q + (f - 1023)) (hE2 : k + q + (f - 1023) <= 1023) (c z r : Nat)
  (h2 : bits BinOp.andNot IntKind.u64 (p : Int) 9218868437227405312 = (c : Int))
  (h3 : bits BinOp.or IntKind.u64 (c : Int) ((k + q + (f - 1023) + 1023) * 4503599627370496) = (z : Int))
  (h4 : ∀ w,(binOp .mul 76 (.float .f64 4607182418800017408) (.float .f64 z)).run Tryz.prog w = .ok (.float .f64 r) w) :
  Calls Tryz.prog 136 #[.float .f64 x,.int .i64 k] w fun e w'=>e = .returned (.float .f64 r) /\ w = w':=by
 have hb:=run_bits
 have hf':=run_from
 have o1:=ord0_not x hf (by omega)
 have o2 : decide (Fl.rg x = Fl.I) = false:=decide_eq_false (by omega)
 have HN:=Hd hn
 have hle : Fl.rg x <= Fl.I:=Nat.le_of_lt hf
 clear hn
 go_enter Tryz.func136,Tryz.ntmps136
 go_wp2_with fail
 refine (isinf_any x _ hx).mono ?_
 rintro e w' ⟨rfl,rfl⟩
 go_wp2_with fail
 refine (isnan_no x _ hle).mono ?_
 rintro e w' ⟨rfl,rfl⟩
 go_wp2_with fail
 refine (HN.out _).mono ?_
 rintro e w' ⟨rfl,rfl⟩
 go_wp2
 go_ret
 exact ⟨rfl,rfl⟩
theorem ldexp_low (hE1 : -1075 <= k + q + (f - 1023)) (hE2 : k + q + (f - 1023) < -1022) (c z r : Nat)
  (h2 : bits BinOp.andNot IntKind.u64 (p : Int) 9218868437227405312 = (c : Int))
  (h3 : bits BinOp.or IntKind.u64 (c : Int) ((k + q + (f - 1023) + 53 + 1023) * 4503599627370496) = (z : Int))
  (h4 : ∀ w,(binOp .mul 76 (.float .f64 4368491638549381120) (.float .f64 z)).run Tryz.prog w = .ok (.float .f64 r) w) :
  Calls Tryz.prog 136 #[.float .f64 x,.int .i64 k] w fun e w'=>e = .returned (.float .f64 r) /\ w = w':=by
 have hb:=run_bits
 have hf':=run_from
 have o1:=ord0_not x hf (by omega)
 have o2 : decide (Fl.rg x = Fl.I) = false:=decide_eq_false (by omega)
 have HN:=Hd hn
 have hle : Fl.rg x <= Fl.I:=Nat.le_of_lt hf
 clear hn
 go_enter Tryz.func136,Tryz.ntmps136
 go_wp2_with fail
 refine (isinf_any x _ hx).mono ?_
 rintro e w' ⟨rfl,rfl⟩
 go_wp2_with fail
 refine (isnan_no x _ hle).mono ?_
 rintro e w' ⟨rfl,rfl⟩
 go_wp2_with fail
 refine (HN.out _).mono ?_
 rintro e w' ⟨rfl,rfl⟩
 go_wp2
 go_ret
 exact ⟨rfl,rfl⟩
end
theorem Fl.key_pos_of (s : Bool) (r : Nat) (h0 : 0 < r) (h : r <= Fl.I) : FloatKind.f64.format.order (Fl.wd s r) 0 = some (if s then .lt else .gt):=by
 have hW : r < Fl.W:=Nat.lt_of_le_of_lt h Fl.I_lt_W
 cases s
 ·exact Fl.cmp0_gt _ (by rw [Fl.rg_wd _ _ hW]; exact h0) (by rw [Fl.rg_wd _ _ hW]; exact h) (Fl.sg_wd _ _ hW)
 ·exact Fl.cmp0_lt _ (by rw [Fl.rg_wd _ _ hW]; exact h0) (by rw [Fl.rg_wd _ _ hW]; exact h) (Fl.sg_wd _ _ hW)
theorem Fl.low_mul (y : Nat) (h : Fl.rg y < Fl.I) : Ieee.double.mul 4368491638549381120 y = some (Ieee.double.nearest (Fl.sg y) (Fl.mant (Fl.rg y)) (Fl.pl y - 53)):=by
 have hc : Fl.rg 4368491638549381120 = 4368491638549381120:=by decide
 rw [Fl.mul_fin _ y (by rw [hc]; decide) h,show Fl.sg 4368491638549381120 = false from by decide,Bool.false_xor]
 have hp : Fl.pl 4368491638549381120 = -105:=by decide
 have hm : Fl.mant (Fl.rg 4368491638549381120) = 2 ^ 52:=by rw [hc]; decide
 rw [hp,hm]
 rw [Fl.nearest_congr (Fl.sg y) (2 ^ 52 * Fl.mant (Fl.rg y)) (Fl.mant (Fl.rg y)) (-105 + Fl.pl y) (Fl.pl y - 53) 0 52 (by rw [Nat.pow_zero,Nat.mul_one,Nat.mul_comm]) (by omega)]
theorem Fl.scl_nat (x : Nat) (h0 : 0 < Fl.rg x) (k : Int) (n : Nat) (h : Fl.nE (Fl.rg x) + k = n) (hn : n <= 2045) : Fl.scl x k = Fl.wd (Fl.sg x) (n * Fl.B + Fl.nM (Fl.rg x)):=by
 have:=(Fl.scl_exact x h0 k (by rw [h]; exact Int.natCast_nonneg _) (by rw [h]; exact Int.ofNat_le.2 hn)).1
 rw [h,Int.toNat_natCast] at this
 exact this
theorem Fl.exp_le (r : Nat) (h : r < Fl.I) : r / Fl.B <= 2047:=by unfold Fl.B Fl.I at *; omega
theorem Fl.ldexp_parts (x : Nat) (hx : x < 2 * Fl.W) (h0 : 0 < Fl.rg x) (hf : Fl.rg x < Fl.I) : ∃ r g M : Nat,Fl.nzW x = Fl.wd (Fl.sg x) r /\ r < Fl.I /\ r < Fl.W /\ 0 < r /\ g = r / Fl.B /\ r % Fl.B = M - Fl.B /\ M - Fl.B < Fl.B /\ Fl.B <= M /\ M < 2 * Fl.B /\ M = Fl.nM (Fl.rg x) /\ (g : Int) = Fl.nE (Fl.rg x) - Fl.nzP x + 1 /\ (g : Int) <= 2047:=by
 obtain ⟨r,e1,e2,e3,e4,e5⟩:=Fl.nzW_facts x hx h0 hf
 obtain ⟨m1,m2⟩:=Fl.nM_range (Fl.rg x) h0
 obtain ⟨d1,d2⟩:=Fl.div_rung (Fl.nE (Fl.rg x) - Fl.nzP x).toNat (Fl.nM (Fl.rg x)) m1 m2
 rw [<- e3] at d1 d2
 refine ⟨r,_,_,e1,e2,Nat.lt_trans e2 Fl.I_lt_W,?_,rfl,d2,?_,m1,m2,rfl,?_⟩
 ·rcases Nat.eq_zero_or_pos r with h | h
  ·rw [h,Nat.zero_div] at d1; exact absurd d1 (by clear e1 e2 e3 m1 m2 d1 d2; omega)
  ·exact h
 ·generalize Fl.nM (Fl.rg x) = M at *
  generalize Fl.B = b at *
  clear d1 d2 e3
  omega
 ·refine ⟨?_,?_⟩
  ·rw [d1]; clear e1 e2 e3 m1 m2 d1 d2; omega
  ·have:=Fl.exp_le r e2
   exact Int.ofNat_le.2 this
theorem Fl.reB (n b m : Nat) (h : b <= m) : (n + 1) * b + (m - b) = n * b + m:=by rw [Nat.add_mul,Nat.one_mul]; omega
theorem Fl.rung_lt (n m : Nat) (hn : n <= 2045) (h : m < 2 * Fl.B) : n * Fl.B + m < Fl.I:=by unfold Fl.B Fl.I at *; omega
theorem Fl.low_word (s : Bool) (n M : Nat) (hn : n <= 2045) (m1 : Fl.B <= M) (m2 : M < 2 * Fl.B) : Ieee.double.mul 4368491638549381120 (Fl.wd s (n * Fl.B + M)) = some (Ieee.double.nearest s M (-1074 + (n : Int) - 53)):=by
 have hyI:=Fl.rung_lt n M hn m2
 have hyW:=Nat.lt_trans hyI Fl.I_lt_W
 rw [Fl.low_mul _ (by rw [Fl.rg_wd _ _ hyW]; exact hyI)]
 unfold Fl.pl
 rw [Fl.rg_wd _ _ hyW,Fl.sg_wd _ _ hyW,Fl.ex_of n _ m2 (.inr m1),Fl.mant_of n _ m2 (.inr m1)]
theorem Fl.one_word (s : Bool) (n M : Nat) (hn : n <= 2045) (m2 : M < 2 * Fl.B) : Ieee.double.mul 4607182418800017408 (Fl.wd s (n * Fl.B + M)) = some (Fl.wd s (n * Fl.B + M)):=by
 have hyI:=Fl.rung_lt n M hn m2
 have hyW:=Nat.lt_trans hyI Fl.I_lt_W
 exact Fl.one_mul _ (Fl.wd_lt _ _ hyW) (by rw [Fl.rg_wd _ _ hyW]; exact hyI)
theorem ldexp_inner (x : Nat) (k : Int) (w : World) (hx : x < 2 * Fl.W) (h0 : 0 < Fl.rg x) (hf : Fl.rg x < Fl.I) (hk1 : -1000000 <= k) (hk2 : k <= 1000000) :
  Calls Tryz.prog 136 #[.float .f64 x,.int .i64 k] w fun e w'=>e = .returned (.float .f64 (Fl.scl x k)) /\ w = w':=by
 obtain ⟨r,g,M,e1,e2,hW,hr0,hg,d2,hm,m1,m2,hM,hd,b3⟩:=Fl.ldexp_parts x hx h0 hf
 have hr:=Fl.nE_range (Fl.rg x) h0 hf
 have hn:=fun w=>normalize_fin x w hx h0 hf
 rw [e1] at hn
 have h1:=exp_i64 (Fl.sg x) r hW
 have h2:=clear_exp (Fl.sg x) r hW
 rw [d2] at h2
 rw [<- hg] at h1
 have hz : Fl.nzP x = 0 \/ Fl.nzP x = -52:=by unfold Fl.nzP; split <;> simp
 have hscl:=Fl.scl_norm x h0 k
 rw [<- hM] at hscl
 have hse:=fun n hn' e he=>set_exp (Fl.sg x) (M - Fl.B) (n + 1) hm hn' e he
 have hreB:=fun n=>Fl.reB n Fl.B M m1
 have hex:=Fl.scl_nat x h0 k
 rw [<- hM] at hex
 have HT:=Fl.nearest_tiny (Fl.sg x) M (-1074 + k + Fl.nE (Fl.rg x)) m2
 have HH:=Fl.nearest_huge (Fl.sg x) M (-1074 + k + Fl.nE (Fl.rg x)) m1
 have HL:=fun n hn'=>Fl.low_word (Fl.sg x) n M hn' m1 m2
 have HO:=fun n hn'=>Fl.one_word (Fl.sg x) n M hn' m2
 have hko:=Fl.key_pos_of (Fl.sg x) r hr0 (Nat.le_of_lt e2)
 have hwl:=Fl.wd_lt (Fl.sg x) r hW
 have hws:=Fl.sg_wd (Fl.sg x) r hW
 clear m1 m2 hm d2 hg hM e1 e2 hW
 generalize Fl.nzP x = z at *
 have L1:=fun h1' h2'=>ldexp_tiny x k w hx h0 hf _ z g hn hk1 hk2 h1' h2'
 have L2:=fun h1' h2'=>ldexp_huge x k w hx h0 hf _ z g hn hk1 hk2 h1' h2'
 have L3:=fun h1' h2'=>ldexp_mid x k w hx h0 hf _ z g hn hk1 hk2 h1' h2'
 have L4:=fun h1' h2'=>ldexp_low x k w hx h0 hf _ z g hn hk1 hk2 h1' h2'
 generalize Fl.nE (Fl.rg x) = E at *
 have b1 : -52 <= z:=by clear HT HH HL HO hex hse hreB; omega
 have b2 : z <= 0:=by clear HT HH HL HO hex hse hreB; omega
 have hsum : k + z + ((g : Int) - 1023) = k + E - 1022:=by clear HT HH HL HO hex hse hreB; omega
 by_cases c1 : k + E - 1022 < -1075
 ·have:=L1 b1 b2 (Int.natCast_nonneg _) b3 h1 (by rw [hsum]; exact c1) hwl
  rw [hws] at this
  rw [hscl,HT (by clear HT HH HL HO hex hse hreB L1 L2 L3 L4; omega)]
  exact this
 ·by_cases c2 : 1023 < k + E - 1022
  ·have:=L2 b1 b2 (Int.natCast_nonneg _) b3 h1 (by rw [hsum]; exact c2) (Fl.sg x) hko
   rw [hscl,HH (by clear HT HH HL HO hex hse hreB L1 L2 L3 L4; omega)]
   exact this
  ·by_cases c3 : k + E - 1022 < -1022
   ·obtain ⟨n,hn'⟩:=Int.eq_ofNat_of_zero_le (show 0 <= k + E + 53 by clear HT HH HL HO hex hse hreB L1 L2 L3 L4; omega)
    have hn2 : n <= 2045:=by clear HT HH HL HO hex hse hreB L1 L2 L3 L4; omega
    have h3:=hse n (by omega) (k + z + ((g : Int) - 1023) + 53 + 1023) (by rw [hsum]; clear HT HH HL HO hex hse hreB L1 L2 L3 L4; omega)
    rw [hreB] at h3
    have hmul:=HL n hn2
    rw [show -1074 + (n : Int) - 53 = -1074 + k + E by rw [<- hn']; clear HT HH HL HO hex hse hreB L1 L2 L3 L4; omega,<- hscl] at hmul
    exact L4 b1 b2 (Int.natCast_nonneg _) b3 h1 (by rw [hsum]; exact Int.not_lt.1 c1) (by rw [hsum]; exact c3) _ _ _ h2 h3 (fun w=>run_float_arith w .mul _ .f64 _ _ _ hmul)
   ·obtain ⟨n,hn'⟩:=Int.eq_ofNat_of_zero_le (show 0 <= k + E by clear HT HH HL HO hex hse hreB L1 L2 L3 L4; omega)
    have hn2 : n <= 2045:=by clear HT HH HL HO hex hse hreB L1 L2 L3 L4; omega
    have h3:=hse n (by omega) (k + z + ((g : Int) - 1023) + 1023) (by rw [hsum]; clear HT HH HL HO hex hse hreB L1 L2 L3 L4; omega)
    rw [hreB] at h3
    have hmul:=HO n hn2
    have a1:=hex n (by clear HT HH HL HO hex hse hreB L1 L2 L3 L4; omega) hn2
    refine (L3 b1 b2 (Int.natCast_nonneg _) b3 h1 (by rw [hsum]; exact Int.not_lt.1 c3) (by rw [hsum]; exact Int.not_lt.1 c2) _ _ _ h2 h3 (fun w=>run_float_arith w .mul _ .f64 _ _ _ hmul)).mono ?_
    rintro e w' ⟨q1,q2⟩
    exact ⟨q1.trans (ret_fl a1.symm),q2⟩
theorem ldexp_fin (x : Nat) (k : Int) (w : World) (hx : x < 2 * Fl.W) (h0 : 0 < Fl.rg x) (hf : Fl.rg x < Fl.I) (hk1 : -1000000 <= k) (hk2 : k <= 1000000) :
  Calls Tryz.prog 94 #[.float .f64 x,.int .i64 k] w fun e w'=>e = .returned (.float .f64 (Fl.scl x k)) /\ w = w':=by
 have main:=fun w=>ldexp_inner x k w hx h0 hf hk1 hk2
 have HM:=Hd main
 clear main h0 hf hk1 hk2
 go_enter Tryz.func94,Tryz.ntmps94
 go_wp2_with fail
 refine (HM.out _).mono ?_
 rintro e w' ⟨rfl,rfl⟩
 go_wp2
 go_ret
 exact ⟨rfl,rfl⟩
theorem ldexp_zero (x : Nat) (k : Int) (w : World) (h0 : Fl.rg x = 0) :
  Calls Tryz.prog 94 #[.float .f64 x,.int .i64 k] w fun e w'=>e = .returned (.float .f64 x) /\ w = w':=by
 have h1:=Fl.cmp0_eq x h0
 clear h0
 go_enter Tryz.func94,Tryz.ntmps94
 go_wp2
 go_ret
 exact ⟨rfl,rfl⟩
end
section
open Go.RowKit
theorem int_word (n : Nat) (hn : n <= 9007199254740992) : floatOfInt .f64 ((n : Nat) : Int) < 2 * Fl.W /\ Fl.rg (floatOfInt .f64 ((n : Nat) : Int)) < Fl.I /\ Fl.rg (floatOfInt .f64 ((n : Nat) : Int)) = Fl.rr (n * Fl.U) /\ (n ≠ 0 -> 0 < Fl.rg (floatOfInt .f64 ((n : Nat) : Int))):=by
 have e : floatOfInt .f64 ((n : Nat) : Int) = Fl.rnd false (n * Fl.U):=Fl.ofInt_sgi false n
 obtain ⟨h1,h2⟩:=Fl.whole_rr n hn
 rw [e,Fl.rg_rnd]
 exact ⟨Fl.rnd_lt _ _,h2,rfl,fun h0=>Fl.rr_pos _ (Nat.mul_pos (Nat.pos_of_ne_zero h0) Fl.U_pos)⟩
def fL (n : Nat) (last : Int) : Nat:=if n = 0 then floatOfInt .f64 ((n : Nat) : Int) else Fl.scl (floatOfInt .f64 ((n : Nat) : Int)) last
def nearN (n0 : Nat) (T : Int) : Nat:=if 0 < T \/ (T = 0 /\ n0 % 2 = 1) then n0 + 1 else n0
end
end Go.Proofs.YtnpanpkahbcecaaGreatDoor

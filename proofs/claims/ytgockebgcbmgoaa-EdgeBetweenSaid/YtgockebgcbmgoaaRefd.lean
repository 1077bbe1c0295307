/-
  Walks: the reference's quotients and roots.
-/
import Derived.Test.YtgockebgcbmgoaaRefb
import Derived.Test.YtgockebgcbmgoaaDird
set_option linter.unusedVariables false
set_option linter.unusedSimpArgs false
namespace Go.Proofs.Ytgockebgcbmgoaa
open Go.RowKit

theorem rdiv_not (a b : Nat) (up : Bool) (w : World) (ha : a < 2 * Fl.W) (hb : b < 2 * Fl.W) (h : ¬ (Fl.rg a < Fl.I ∧ Fl.rg b < Fl.I)) :
    Calls Try.prog 32 #[.float .f64 a, .float .f64 b, .bool up] w (FlPost (Ieee.double.div a b) w) := by
  obtain ⟨s, w1, hr, hs, hw1⟩ := run_float_any .quo 22 a b w (by simp)
  have HD : Hid (Dr w w1) := by rcases hw1 with rfl | rfl; exact Dr.refl _; exact Dr.drew _
  have HS : Hid (Fl.Is (Ieee.double.div a b) s) := hs
  clear hs hw1
  by_cases hfa : Fl.rg a < Fl.I
  · have hfb : ¬ Fl.rg b < Fl.I := fun h2 => h ⟨hfa, h2⟩
    clear h
    go_enter Try.func32, Try.ntmps32
    go_wp2_with fail
    refine (rfinite_yes a _ ha hfa).mono ?_
    rintro e w' ⟨rfl, rfl⟩
    go_wp2_with fail
    refine (rfinite_no b _ hfb).mono ?_
    rintro e w' ⟨rfl, hd⟩
    have HD2 := Lib.hid hd
    clear hd
    go_wp2
    go_ret
    exact ⟨s, rfl, HS.out, HD.out.trans HD2.out⟩
  · clear h
    go_enter Try.func32, Try.ntmps32
    go_wp2_with fail
    refine (rfinite_no a _ hfa).mono ?_
    rintro e w' ⟨rfl, hd⟩
    have HD2 := Lib.hid hd
    clear hd
    go_wp2
    go_ret
    exact ⟨s, rfl, HS.out, HD.out.trans HD2.out⟩

theorem rdiv_zero (a b : Nat) (up : Bool) (w : World) (ha : a < 2 * Fl.W) (hb : b < 2 * Fl.W) (fa : Fl.rg a < Fl.I) (fb : Fl.rg b < Fl.I) (h : ¬ (0 < Fl.rg a ∧ 0 < Fl.rg b)) :
    Calls Try.prog 32 #[.float .f64 a, .float .f64 b, .bool up] w (FlPost (Ieee.double.div a b) w) := by
  obtain ⟨s, w1, hr, hs, hw1⟩ := run_float_any .quo 22 a b w (by simp)
  have HD : Hid (Dr w w1) := by rcases hw1 with rfl | rfl; exact Dr.refl _; exact Dr.drew _
  have HS : Hid (Fl.Is (Ieee.double.div a b) s) := hs
  clear hs hw1
  by_cases a0 : Fl.rg a = 0
  · have h2 := Fl.cmp0_eq a a0
    clear h a0
    go_enter Try.func32, Try.ntmps32
    go_wp2_with fail
    refine (rfinite_yes a _ ha fa).mono ?_
    rintro e w' ⟨rfl, rfl⟩
    go_wp2_with fail
    refine (rfinite_yes b _ hb fb).mono ?_
    rintro e w' ⟨rfl, rfl⟩
    go_wp2
    go_ret
    exact ⟨s, rfl, HS.out, HD.out⟩
  · have b0 : Fl.rg b = 0 := by omega
    have h2 := ord0_not a fa a0
    have h3 := Fl.cmp0_eq b b0
    clear h a0 b0
    go_enter Try.func32, Try.ntmps32
    go_wp2_with fail
    refine (rfinite_yes a _ ha fa).mono ?_
    rintro e w' ⟨rfl, rfl⟩
    go_wp2_with fail
    refine (rfinite_yes b _ hb fb).mono ?_
    rintro e w' ⟨rfl, rfl⟩
    go_wp2
    go_ret
    exact ⟨s, rfl, HS.out, HD.out⟩

theorem rsqrt_not (a : Nat) (up : Bool) (w : World) (ha : a < 2 * Fl.W) (h : ¬ (Fl.rg a < Fl.I ∧ 0 < Fl.rg a ∧ Fl.sg a = false)) :
    Calls Try.prog 33 #[.float .f64 a, .bool up] w (FlPost (Ieee.double.sqrt a) w) := by
  by_cases hf : Fl.rg a < Fl.I
  · have ho : FloatKind.f64.format.order a 0 = some .lt ∨ FloatKind.f64.format.order a 0 = some .eq := by
      by_cases h0 : Fl.rg a = 0
      · exact .inr (Fl.cmp0_eq a h0)
      · left
        refine Fl.cmp0_lt a (by omega) (by omega) ?_
        cases hs : Fl.sg a
        · exact absurd ⟨hf, by omega, hs⟩ h
        · rfl
    clear h
    rcases ho with ho | ho
    all_goals
      go_enter Try.func33, Try.ntmps33
      go_wp2_with fail
      refine (msqrt_any a _).mono ?_
      rintro e w1 ⟨s, rfl, hs, hd⟩
      have HS := Lib.hid hs
      have HD := Lib.hid hd
      clear hs hd
      go_wp2_with fail
      refine (rfinite_yes a _ ha hf).mono ?_
      rintro e w' ⟨rfl, rfl⟩
      go_wp2
      go_ret
      exact ⟨s, rfl, HS.out, HD.out⟩
  · clear h
    go_enter Try.func33, Try.ntmps33
    go_wp2_with fail
    refine (msqrt_any a _).mono ?_
    rintro e w1 ⟨s, rfl, hs, hd⟩
    have HS := Lib.hid hs
    have HD := Lib.hid hd
    clear hs hd
    go_wp2_with fail
    refine (rfinite_no a _ hf).mono ?_
    rintro e w2 ⟨rfl, hd⟩
    have HD2 := Lib.hid hd
    clear hd
    go_wp2
    go_ret
    exact ⟨s, rfl, HS.out, HD.out.trans HD2.out⟩


/-- A nearest rung to a number of 55 digits and more ends in noughts. -/
theorem near_even (n u r : Nat) (hn : 2 ^ 54 ≤ n) (h : Fl.Rnd (n * 2 ^ u) 0 r) : u + 1 ≤ Fl.ex r := by
  have hN : 0 < n * 2 ^ u := Nat.mul_pos (Nat.lt_of_lt_of_le (by decide) hn) (Nat.two_pow_pos u)
  have h1 := h.hi
  rw [Nat.pow_zero, Nat.mul_one] at h1
  have hr : 0 < r := by
    rcases Nat.eq_zero_or_pos r with h0 | h0
    · subst h0
      have e1 : Fl.rv 1 = 1 := by decide
      rw [Fl.rv_zero, e1] at h1
      have : 2 ^ 54 * 1 ≤ n * 2 ^ u := Nat.mul_le_mul hn (Nat.two_pow_pos u)
      omega
    · exact h0
  have h2 := Fl.rv_succ_le r hr
  have h3 : 2 ^ 54 * 2 ^ u ≤ n * 2 ^ u := Nat.mul_le_mul_right _ hn
  have h4 : 2 ^ 53 * 2 ^ u < Fl.rv r := by
    generalize n * 2 ^ u = X at *
    generalize 2 ^ u = P at *
    generalize Fl.rv r = R at *
    omega
  have h5 : Fl.rv r < 2 ^ 53 * 2 ^ Fl.ex r := by
    unfold Fl.rv
    have := Fl.mant_lt r
    unfold Fl.B at this
    exact Nat.mul_lt_mul_of_pos_right this (Nat.two_pow_pos _)
  have h6 : (2 : Nat) ^ (53 + u) < 2 ^ (53 + Fl.ex r) := by rw [Nat.pow_add, Nat.pow_add]; omega
  have := Fl.pow_lt_pow_exp h6
  omega
theorem half_rung (r u : Nat) (h : u + 1 ≤ Fl.ex r) : ∃ k, Fl.rv r = 2 * k * 2 ^ u := by
  obtain ⟨t, ht⟩ : ∃ t, Fl.ex r = t + (u + 1) := ⟨Fl.ex r - (u + 1), by omega⟩
  refine ⟨Fl.mant r * 2 ^ t, ?_⟩
  unfold Fl.rv
  rw [ht, Nat.pow_add, Nat.pow_succ]
  generalize 2 ^ t = T
  generalize 2 ^ u = P
  generalize Fl.mant r = m
  grind
/-! ### quotients -/
theorem sg_nearQ (a b : Nat) : Fl.sg (Fl.nearQ a b) = (Fl.sg a ^^ Fl.sg b) := by
  obtain ⟨r, h1, _⟩ := Fl.nearest_word (Fl.sg a ^^ Fl.sg b) (Fl.dM a b) (Fl.pD a b)
  unfold Fl.nearQ
  rw [h1, Fl.sg_wd _ _ (Fl.min_I_lt r)]
theorem dM_ge (a b : Nat) (a0 : 0 < Fl.rg a) (b0 : 0 < Fl.rg b) : 2 ^ 54 ≤ Fl.dM a b := by
  obtain ⟨h1, h2, h3, h4⟩ := Fl.dM_range a b a0 b0
  exact Nat.le_trans (Nat.pow_le_pow_right (by decide) h3) (Nat.log2_self_le h1)
theorem alg_div (A P Q R S T k n m : Nat) (h1 : A * P = n * Q) : n * T * (Q * R * S) = A * (T * P * R * S) := by grind
/-- A quotient's nearest float holds against the dividend as float times divisor does. -/
theorem div_cmp2 (a b : Nat) (a0 : 0 < Fl.rg a) (b0 : 0 < Fl.rg b) (hf : Fl.rg (Fl.nearQ a b) < Fl.I) : Fl.cmpR (Fl.dM a b) (Fl.pD a b) (Fl.rg (Fl.nearQ a b)) = compare (Fl.rv (Fl.rg a) * 2 ^ Fl.E) (Fl.rv (Fl.rg (Fl.nearQ a b)) * Fl.rv (Fl.rg b)) := by
  obtain ⟨a1, a2, ha, ea⟩ := Fl.rv_norm (Fl.rg a) a0
  obtain ⟨b1, b2, hb, eb⟩ := Fl.rv_norm (Fl.rg b) b0
  have hE := E_int
  have hp : Fl.pD a b = Fl.nE (Fl.rg a) - Fl.nE (Fl.rg b) - 55 := rfl
  -- the scale
  obtain ⟨u, v, k, huv, hk⟩ : ∃ u v k : Nat, (u : Int) - v = Fl.pD a b + 1074 ∧ Fl.rv (Fl.rg (Fl.nearQ a b)) * 2 ^ v = 2 * k * 2 ^ u := by
    by_cases hneg : Fl.pD a b + 1074 ≤ -1
    · obtain ⟨v, hv⟩ : ∃ v : Nat, Fl.pD a b + 1074 = -((v : Int) + 1) := ⟨(-(Fl.pD a b + 1074) - 1).toNat, by omega⟩
      refine ⟨0, v + 1, Fl.rv (Fl.rg (Fl.nearQ a b)) * 2 ^ v, by omega, ?_⟩
      rw [Nat.pow_succ, Nat.pow_zero, Nat.mul_one, ← Nat.mul_assoc, Nat.mul_comm]
    · obtain ⟨u, hu⟩ : ∃ u : Nat, Fl.pD a b + 1074 = u := ⟨(Fl.pD a b + 1074).toNat, by omega⟩
      obtain ⟨r, e1, e2⟩ := Fl.nearest_rnd (Fl.sg a ^^ Fl.sg b) (Fl.dM a b) (Fl.pD a b) u 0 (by omega)
      have hr : Fl.rg (Fl.nearQ a b) = r := by
        have e3 : Fl.rg (Fl.nearQ a b) = min r Fl.I := by unfold Fl.nearQ; rw [e1, Fl.rg_wd _ _ (Fl.min_I_lt r)]
        exact (Fl.of_min e3 hf).2
      obtain ⟨k, hk⟩ := half_rung r u (near_even _ u r (dM_ge a b a0 b0) e2)
      exact ⟨u, 0, k, by omega, by rw [hr, hk, Nat.pow_zero, Nat.mul_one]⟩
  rw [Fl.cmpR_scale _ _ _ u v huv, hk, Fl.compare_mul _ _ _ (Nat.two_pow_pos u)]
  have hN : 0 < Fl.nM (Fl.rg b) := Nat.lt_of_lt_of_le (by decide) (Fl.nM_range (Fl.rg b) b0).1
  rw [show Fl.dM a b = Fl.stick (Fl.nM (Fl.rg a) * 2 ^ 54) (Fl.nM (Fl.rg b)) from rfl, Fl.stick_cmp _ _ _ hN]
  rw [← Fl.compare_mul (Fl.nM (Fl.rg a) * 2 ^ 54) (k * Fl.nM (Fl.rg b)) (2 ^ a2 * 2 ^ b2 * 2 ^ (u + 1)) (Nat.mul_pos (Nat.mul_pos (Nat.two_pow_pos _) (Nat.two_pow_pos _)) (Nat.two_pow_pos _))]
  rw [← Fl.compare_mul (Fl.rv (Fl.rg a) * 2 ^ Fl.E) _ (2 ^ b1 * 2 ^ a2 * 2 ^ v) (Nat.mul_pos (Nat.mul_pos (Nat.two_pow_pos _) (Nat.two_pow_pos _)) (Nat.two_pow_pos _))]
  congr 1
  · -- nM a 2^54 2^a2 2^b2 2^(u+1) = rv a 2^E 2^b1 2^a2 2^v
    have e1 : Fl.nM (Fl.rg a) * 2 ^ 54 * (2 ^ a2 * 2 ^ b2 * 2 ^ (u + 1)) = Fl.rv (Fl.rg a) * (2 ^ a1 * 2 ^ (54 + b2 + (u + 1))) := by
      have e0 : (2 : Nat) ^ (54 + b2 + (u + 1)) = 2 ^ 54 * 2 ^ b2 * 2 ^ (u + 1) := by rw [Nat.pow_add, Nat.pow_add]
      rw [e0]
      generalize (2 : Nat) ^ 54 = T
      generalize 2 ^ b2 = R
      generalize 2 ^ (u + 1) = S
      generalize 2 ^ a2 = Q at *
      generalize 2 ^ a1 = P at *
      generalize Fl.nM (Fl.rg a) = n at *
      generalize Fl.rv (Fl.rg a) = A at *
      grind
    rw [e1, Nat.mul_assoc (Fl.rv (Fl.rg a)), ← Nat.pow_add, ← Nat.pow_add, ← Nat.pow_add, ← Nat.pow_add]
    congr 2
    omega
  · have e2 : k * Fl.nM (Fl.rg b) * (2 ^ a2 * 2 ^ b2 * 2 ^ (u + 1)) = 2 * k * 2 ^ u * (Fl.nM (Fl.rg b) * 2 ^ b2) * 2 ^ a2 := by
      rw [Nat.pow_succ]
      generalize 2 ^ u = S
      generalize 2 ^ a2 = Q
      generalize 2 ^ b2 = R
      generalize Fl.nM (Fl.rg b) = n
      grind
    rw [e2, ← hk, ← hb]
    generalize 2 ^ v = V
    generalize 2 ^ b1 = P
    generalize 2 ^ a2 = Q
    ac_rfl
/-- What the reference tells the side of a quotient by. -/
def cD (a b : Nat) : Ordering := if Fl.rg (Fl.nearQ a b) = Fl.I then (if Fl.sg (Fl.nearQ a b) then .gt else .lt) else
  Fl.cmpS (Fl.sg b) (compare (Nt.nv (Fl.sg a) (Fl.mant (Fl.rg a)) (Fl.pl a) 2148) (Nt.nv (Fl.sg (Fl.nearQ a b) != Fl.sg b) (Fl.mant (Fl.rg (Fl.nearQ a b)) * Fl.mant (Fl.rg b)) (Fl.pl (Fl.nearQ a b) + Fl.pl b) 2148))
theorem cD_eq (a b : Nat) (a0 : 0 < Fl.rg a) (b0 : 0 < Fl.rg b) : cD a b = if Fl.rg (Fl.nearQ a b) = Fl.I then (if Fl.sg (Fl.nearQ a b) then .gt else .lt) else Fl.cmpS (Fl.sg a ^^ Fl.sg b) (Fl.cmpR (Fl.dM a b) (Fl.pD a b) (Fl.rg (Fl.nearQ a b))) := by
  unfold cD
  by_cases hI : Fl.rg (Fl.nearQ a b) = Fl.I
  · rw [if_pos hI, if_pos hI]
  · rw [if_neg hI, if_neg hI]
    have hf : Fl.rg (Fl.nearQ a b) < Fl.I := Nat.lt_of_le_of_ne (nearQ_rg a b) hI
    rw [nv_prod _ b 2148 (by decide), nv_float2 _ 2148 (by rw [E_int]; decide), sg_nearQ, div_cmp2 a b a0 b0 hf, show ((Fl.sg a ^^ Fl.sg b) != Fl.sg b) = Fl.sg a by cases Fl.sg a <;> cases Fl.sg b <;> rfl, compare_sz]
    generalize compare (Fl.rv (Fl.rg a) * 2 ^ Fl.E) (Fl.rv (Fl.rg (Fl.nearQ a b)) * Fl.rv (Fl.rg b)) = c
    unfold Fl.cmpS
    cases Fl.sg a <;> cases Fl.sg b <;> simp
theorem oi_swap (c : Ordering) : oi c.swap = - oi c := by cases c <;> rfl
theorem rside_k (near : Nat) (c : Ordering) (k : Int) (up : Bool) (w : World) (hk : k = oi c) (hn : near < 2 * Fl.W) :
    Calls Try.prog 56 #[.float .f64 near, .int .i64 k, .bool up] w fun e w' => e = .returned (.float .f64 (Fl.sideW near c (Fl.next near up) up)) ∧ w = w' := by
  subst hk; exact rside_any near c up w hn
set_option maxRecDepth 400000 in
set_option maxHeartbeats 8000000 in
theorem rdiv_side (a b : Nat) (up : Bool) (w : World) (ha : a < 2 * Fl.W) (hb : b < 2 * Fl.W) (fa : Fl.rg a < Fl.I) (fb : Fl.rg b < Fl.I) (a0 : 0 < Fl.rg a) (b0 : 0 < Fl.rg b) :
    Calls Try.prog 32 #[.float .f64 a, .float .f64 b, .bool up] w fun e w' => e = .returned (.float .f64 (Fl.sideW (Fl.nearQ a b) (cD a b) (Fl.next (Fl.nearQ a b) up) up)) ∧ Below w.heap.size w w' := by
  have h1 := fun w => run_float_arith (P := Try.prog) w .quo 22 .f64 a b _ (Fl.div_near a b fa fb a0 b0)
  have h2 := nearQ_lt a b
  have h3 := nearQ_rg a b
  have h4 := ord0_not' a (Nat.le_of_lt fa) (by omega)
  have h5 := ord0_not' b (Nat.le_of_lt fb) (by omega)
  obtain ⟨q, hq⟩ : ∃ q, q = Fl.nearQ a b := ⟨_, rfl⟩
  obtain ⟨cc, hcc⟩ : ∃ cc, cc = cD a b := ⟨_, rfl⟩
  unfold cD at hcc
  rw [show cD a b = cc by rw [hcc]; rfl]
  rw [← hq] at h1 h2 h3 hcc ⊢
  clear hq
  by_cases hI : Fl.rg q = Fl.I
  · rw [if_pos hI] at hcc
    have hnf : ¬ Fl.rg q < Fl.I := by omega
    have hq0 : 0 < Fl.rg q := by rw [hI]; decide
    cases hs : Fl.sg q
    · rw [hs] at hcc
      have o1 := Fl.cmp0_gt q hq0 h3 hs
      have hcl : cc = .lt := hcc
      clear hcc hI
      subst hcl
      have hsd := fun x => rside_any q .lt up x h2
      unfold oi at hsd
      go_enter Try.func32, Try.ntmps32
      go_wp2_with fail
      refine (rfinite_yes a _ ha fa).mono ?_
      rintro e w' ⟨rfl, rfl⟩
      go_wp2_with fail
      refine (rfinite_yes b _ hb fb).mono ?_
      rintro e w' ⟨rfl, rfl⟩
      go_wp2_with fail
      refine (rfinite_no q _ hnf).mono ?_
      rintro e w1 ⟨rfl, hd⟩
      have HD := Lib.hid (hd.below w.heap.size)
      clear hd
      go_wp2_with fail
      refine (hsd _).mono ?_
      rintro e w5 ⟨rfl, rfl⟩
      go_wp2
      go_ret
      exact ⟨rfl, HD.out⟩
    · rw [hs] at hcc
      have o1 := Fl.cmp0_lt q hq0 h3 hs
      have hcl : cc = .gt := hcc
      clear hcc hI
      subst hcl
      have hsd := fun x => rside_any q .gt up x h2
      unfold oi at hsd
      go_enter Try.func32, Try.ntmps32
      go_wp2_with fail
      refine (rfinite_yes a _ ha fa).mono ?_
      rintro e w' ⟨rfl, rfl⟩
      go_wp2_with fail
      refine (rfinite_yes b _ hb fb).mono ?_
      rintro e w' ⟨rfl, rfl⟩
      go_wp2_with fail
      refine (rfinite_no q _ hnf).mono ?_
      rintro e w1 ⟨rfl, hd⟩
      have HD := Lib.hid (hd.below w.heap.size)
      clear hd
      go_wp2_with fail
      refine (hsd _).mono ?_
      rintro e w5 ⟨rfl, rfl⟩
      go_wp2
      go_ret
      exact ⟨rfl, HD.out⟩
  · rw [if_neg hI] at hcc
    have hf : Fl.rg q < Fl.I := Nat.lt_of_le_of_ne h3 hI
    have s1 := float_small a (Nat.le_of_lt fa)
    have s2 := float_small b (Nat.le_of_lt fb)
    have sq := float_small q h3
    have s3 := prod_small q b h3 (Nat.le_of_lt fb)
    have HP := Lib.hid (fun x u v (hu : NumV x u (Fl.sg q) (Fl.mant (Fl.rg q)) (Fl.pl q)) (hv : NumV x v (Fl.sg b) (Fl.mant (Fl.rg b)) (Fl.pl b)) => times_any u _ _ _ v _ _ _ x hu hv (by have := sq.len; omega) (by have := s2.len; omega) (by have := sq.2; omega) (by have := sq.2; omega) (by have := s2.2; omega) (by have := s2.2; omega))
    have HC := Lib.hid (fun x u v (hu : NumV x u (Fl.sg a) (Fl.mant (Fl.rg a)) (Fl.pl a)) hv => compare_b u _ _ _ v (Fl.sg q != Fl.sg b) (Fl.mant (Fl.rg q) * Fl.mant (Fl.rg b)) (Fl.pl q + Fl.pl b) 2148 x hu hv s1 s3 (by unfold Fl.pl; omega) (by unfold Fl.pl; omega))
    obtain ⟨c0, hc0⟩ : ∃ c0, c0 = compare (Nt.nv (Fl.sg a) (Fl.mant (Fl.rg a)) (Fl.pl a) 2148) (Nt.nv (Fl.sg q != Fl.sg b) (Fl.mant (Fl.rg q) * Fl.mant (Fl.rg b)) (Fl.pl q + Fl.pl b) 2148) := ⟨_, rfl⟩
    rw [← hc0] at hcc HC
    clear hc0 s1 s2 sq s3 hI
    cases hs : Fl.sg b
    · have o1 : (FloatKind.f64.format.order b 0 == some .lt) = false := by rw [Fl.cmp0_gt b b0 (Nat.le_of_lt fb) hs]; rfl
      rw [hs] at hcc
      have hcl : cc = c0 := hcc
      clear hcc
      subst hcl
      have HSG := Lib.hid hs
      clear hs
      go_enter Try.func32, Try.ntmps32
      go_wp2_with fail
      refine (rfinite_yes a _ ha fa).mono ?_
      rintro e w' ⟨rfl, rfl⟩
      go_wp2_with fail
      refine (rfinite_yes b _ hb fb).mono ?_
      rintro e w' ⟨rfl, rfl⟩
      go_wp2_with fail
      refine (rfinite_yes q _ h2 hf).mono ?_
      rintro e w' ⟨rfl, rfl⟩
      go_wp2_with fail
      refine (float_any a _ ha).mono ?_
      rintro e w1 ⟨va, rfl, hva, hb1⟩
      have HVA := Lib.hid hva
      have HB1 := Lib.hid hb1
      clear hva hb1
      go_wp2_with fail
      refine (float_any q _ h2).mono ?_
      rintro e w2 ⟨vq, rfl, hvq, hb2⟩
      have HVQ := Lib.hid hvq
      have HVA2 := Lib.hid (HVA.out.below hb2)
      have HB2 := Lib.hid (HB1.out.trans (hb2.mono HB1.out.size))
      clear hvq hb2 HVA
      go_wp2_with fail
      refine (float_any b _ hb).mono ?_
      rintro e w3 ⟨vb, rfl, hvb, hb3⟩
      have HVB := Lib.hid hvb
      have HVQ3 := Lib.hid (HVQ.out.below hb3)
      have HVA3 := Lib.hid (HVA2.out.below hb3)
      have HB3 := Lib.hid (HB2.out.trans (hb3.mono HB2.out.size))
      clear hvb hb3 HVQ HVA2
      go_wp2_with fail
      refine (HP.out w3 vq vb HVQ3.out HVB.out).mono ?_
      rintro e w4 ⟨vs, rfl, hvs, hb4⟩
      have HVS := Lib.hid hvs
      have HVA4 := Lib.hid (HVA3.out.below hb4)
      have HB4 := Lib.hid (HB3.out.trans (hb4.mono HB3.out.size))
      clear hvs hb4 HVA3
      go_wp2_with fail
      refine (HC.out w4 va vs HVA4.out HVS.out).mono ?_
      rintro e w5 ⟨rfl, hb5⟩
      have HB5 := Lib.hid (HB4.out.trans (hb5.mono HB4.out.size))
      clear hb5
      go_wp2_with fail
      refine (rside_any _ cc up _ h2).mono ?_
      rintro e w6 ⟨rfl, rfl⟩
      go_wp2
      go_ret
      exact ⟨rfl, HB5.out⟩
    · have o1 : (FloatKind.f64.format.order b 0 == some .lt) = true := by rw [Fl.cmp0_lt b b0 (Nat.le_of_lt fb) hs]; rfl
      rw [hs] at hcc
      have hcl : cc = c0.swap := hcc
      clear hcc
      subst hcl
      have HSG := Lib.hid hs
      have hoib : -1 ≤ oi c0 ∧ oi c0 ≤ 1 := by cases c0 <;> decide
      clear hs
      go_enter Try.func32, Try.ntmps32
      go_wp2_with fail
      refine (rfinite_yes a _ ha fa).mono ?_
      rintro e w' ⟨rfl, rfl⟩
      go_wp2_with fail
      refine (rfinite_yes b _ hb fb).mono ?_
      rintro e w' ⟨rfl, rfl⟩
      go_wp2_with fail
      refine (rfinite_yes q _ h2 hf).mono ?_
      rintro e w' ⟨rfl, rfl⟩
      go_wp2_with fail
      refine (float_any a _ ha).mono ?_
      rintro e w1 ⟨va, rfl, hva, hb1⟩
      have HVA := Lib.hid hva
      have HB1 := Lib.hid hb1
      clear hva hb1
      go_wp2_with fail
      refine (float_any q _ h2).mono ?_
      rintro e w2 ⟨vq, rfl, hvq, hb2⟩
      have HVQ := Lib.hid hvq
      have HVA2 := Lib.hid (HVA.out.below hb2)
      have HB2 := Lib.hid (HB1.out.trans (hb2.mono HB1.out.size))
      clear hvq hb2 HVA
      go_wp2_with fail
      refine (float_any b _ hb).mono ?_
      rintro e w3 ⟨vb, rfl, hvb, hb3⟩
      have HVB := Lib.hid hvb
      have HVQ3 := Lib.hid (HVQ.out.below hb3)
      have HVA3 := Lib.hid (HVA2.out.below hb3)
      have HB3 := Lib.hid (HB2.out.trans (hb3.mono HB2.out.size))
      clear hvb hb3 HVQ HVA2
      go_wp2_with fail
      refine (HP.out w3 vq vb HVQ3.out HVB.out).mono ?_
      rintro e w4 ⟨vs, rfl, hvs, hb4⟩
      have HVS := Lib.hid hvs
      have HVA4 := Lib.hid (HVA3.out.below hb4)
      have HB4 := Lib.hid (HB3.out.trans (hb4.mono HB3.out.size))
      clear hvs hb4 HVA3
      go_wp2_with fail
      refine (HC.out w4 va vs HVA4.out HVS.out).mono ?_
      rintro e w5 ⟨rfl, hb5⟩
      have HB5 := Lib.hid (HB4.out.trans (hb5.mono HB4.out.size))
      clear hb5
      go_wp2_with fail
      refine (rside_k _ c0.swap _ up _ (oi_swap c0).symm h2).mono ?_
      rintro e w6 ⟨rfl, rfl⟩
      go_wp2
      go_ret
      exact ⟨rfl, HB5.out⟩
theorem rdiv_any (a b : Nat) (up : Bool) (w : World) (ha : a < 2 * Fl.W) (hb : b < 2 * Fl.W) : Calls Try.prog 32 #[.float .f64 a, .float .f64 b, .bool up] w (FlPostB (Fl.divS a b up) w) := by
  unfold Fl.divS
  by_cases h : Fl.rg a < Fl.I ∧ Fl.rg b < Fl.I
  · by_cases h0 : 0 < Fl.rg a ∧ 0 < Fl.rg b
    · rw [if_pos ⟨h.1, h.2, h0.1, h0.2⟩]
      have hr := rdiv_side a b up w ha hb h.1 h.2 h0.1 h0.2
      rw [cD_eq a b h0.1 h0.2] at hr
      unfold Fl.divF
      by_cases hI : Fl.rg (Fl.nearQ a b) = Fl.I
      · rw [if_pos hI, side_great _ up (nearQ_lt a b) hI] at hr
        rw [if_pos hI]
        exact hr.mono fun e w' ⟨h1, h2⟩ => ⟨_, h1, rfl, h2⟩
      · rw [if_neg hI] at hr
        rw [if_neg hI]
        exact hr.mono fun e w' ⟨h1, h2⟩ => ⟨_, h1, rfl, h2⟩
    · rw [if_neg (fun h2 => h0 h2.2.2)]
      exact (rdiv_zero a b up w ha hb h.1 h.2 h0).mono fun e w' ⟨s, h1, h2, h3⟩ => ⟨s, h1, h2, h3.below _⟩
  · rw [if_neg (fun h2 => h ⟨h2.1, h2.2.1⟩)]
    exact (rdiv_not a b up w ha hb h).mono fun e w' ⟨s, h1, h2, h3⟩ => ⟨s, h1, h2, h3.below _⟩
end Go.Proofs.Ytgockebgcbmgoaa

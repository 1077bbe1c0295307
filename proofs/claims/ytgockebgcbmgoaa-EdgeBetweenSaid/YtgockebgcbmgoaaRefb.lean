/-
  Walks: the reference's sums.
  Walks: the reference's products.
-/
import Derived.Test.YtgockebgcbmgoaaRefa
set_option linter.unusedVariables false
set_option linter.unusedSimpArgs false
namespace Go.Proofs.Ytgockebgcbmgoaa
open Go.RowKit

/-- A float is handed back; new memory was made. -/
def FlPostB (o : Option Nat) (w : World) (e : Ending) (w' : World) : Prop := ∃ s, e = .returned (.float .f64 s) ∧ Fl.Is o s ∧ Below w.heap.size w w'
theorem Dr.below {w w' : World} (h : Dr w w') (B : Nat) : Below B w w' := by
  obtain ⟨n, rfl⟩ := h
  exact below_drewN (Below.refl _ _) n
theorem plusN_exp (s : Bool) (N : Nat) (e : Int) (s' : Bool) (M : Nat) (f : Int) : (plusN s N e s' M f).2.2 = e ∨ (plusN s N e s' M f).2.2 = f := by
  unfold plusN plusC
  split
  · exact .inr rfl
  · split
    · exact .inl rfl
    · split
      · split
        · exact .inr rfl
        · split
          · exact .inr rfl
          · exact .inr rfl
      · split
        · exact .inl rfl
        · split
          · exact .inl rfl
          · exact .inl rfl
theorem nv_float (f : Nat) : Nt.nv (Fl.sg f) (Fl.mant (Fl.rg f)) (Fl.pl f) 1074 = Fl.vl f := by
  unfold Nt.nv Nt.sz Fl.pl Fl.vl Fl.rv
  rw [show (-1074 + ((Fl.ex (Fl.rg f) : Nat) : Int) + 1074).toNat = Fl.ex (Fl.rg f) by omega]
theorem sum_small (a b : Nat) (ha : Fl.rg a ≤ Fl.I) (hb : Fl.rg b ≤ Fl.I) (s t : Bool) : Small (plusN s (Fl.mant (Fl.rg a)) (Fl.pl a) t (Fl.mant (Fl.rg b)) (Fl.pl b)).2.1 (plusN s (Fl.mant (Fl.rg a)) (Fl.pl a) t (Fl.mant (Fl.rg b)) (Fl.pl b)).2.2 := by
  have h1 := (float_small a ha).2
  have h2 := (float_small b hb).2
  have e1 : Fl.pl a ≤ 1100 ∧ -1074 ≤ Fl.pl a := by
    unfold Fl.pl Fl.ex; unfold Fl.I at ha; unfold Fl.B; omega
  have e2 : Fl.pl b ≤ 1100 ∧ -1074 ≤ Fl.pl b := by
    unfold Fl.pl Fl.ex; unfold Fl.I at hb; unfold Fl.B; omega
  have m1 := Fl.mant_lt (Fl.rg a)
  have m2 := Fl.mant_lt (Fl.rg b)
  unfold Fl.B at m1 m2
  refine ⟨⟨53 + 3000 + 1, by decide, Nt.plusN_lt _ _ _ _ _ _ 53 3000 m1 m2 (by omega) (by omega)⟩, ?_⟩
  rcases plusN_exp s (Fl.mant (Fl.rg a)) (Fl.pl a) t (Fl.mant (Fl.rg b)) (Fl.pl b) with h | h <;> rw [h] <;> omega
theorem ord0_not' (x : Nat) (h : Fl.rg x ≤ Fl.I) (h0 : ¬ Fl.rg x = 0) : (FloatKind.f64.format.order x 0 == some .eq) = false := by
  cases hs : Fl.sg x
  · rw [Fl.cmp0_gt x (by omega) h hs]; rfl
  · rw [Fl.cmp0_lt x (by omega) h hs]; rfl
/-- Beyond the floats the step back is what 'great' tells. -/
theorem side_great (x : Nat) (up : Bool) (hx : x < 2 * Fl.W) (h : Fl.rg x = Fl.I) : Fl.sideW x (if Fl.sg x then .gt else .lt) (Fl.next x up) up = Fl.greatW x up := by
  have h1 : x = Fl.wd (Fl.sg x) Fl.I := by have := Fl.wd_sg_rg x hx; rw [h] at this; exact this.symm
  rw [h1]
  cases Fl.sg x <;> cases up <;> decide
theorem radd_zero (a b : Nat) (up : Bool) (w : World) (ha : a < 2 * Fl.W) (hb : b < 2 * Fl.W) (fa : Fl.rg a < Fl.I) (fb : Fl.rg b < Fl.I) (h0 : Fl.rg (Fl.nearS a b) = 0) :
    Calls Try.prog 29 #[.float .f64 a, .float .f64 b, .bool up] w fun e w' => e = .returned (.float .f64 (if Fl.rg a = 0 ∧ Fl.sg a = Fl.sg b then a else if up then 0 else Fl.W)) ∧ w = w' := by
  have h1 := nearS_run a b fa fb
  have h4 := Fl.cmp0_eq _ h0
  have c1 : (0 : Nat) < 2 * Fl.W := by decide
  have c2 : (13830554455654793216 : Nat) < 2 * Fl.W := by decide
  by_cases hz : Fl.rg a = 0
  · have h5 := Fl.cmp0_eq a hz
    by_cases hs : Fl.sg a = Fl.sg b
    · rw [if_pos ⟨hz, hs⟩]
      have h7 : (Fl.sg a == Fl.sg b) = true := by rw [hs]; simp
      clear hs hz h0
      go_enter Try.func29, Try.ntmps29
      go_wp2_with fail
      refine (rfinite_yes a _ ha fa).mono ?_
      rintro e w' ⟨rfl, rfl⟩
      go_wp2_with fail
      refine (rfinite_yes b _ hb fb).mono ?_
      rintro e w' ⟨rfl, rfl⟩
      go_wp2_with fail
      refine (signbit_any a _ ha).mono ?_
      rintro e w' ⟨rfl, rfl⟩
      go_wp2_with fail
      refine (signbit_any b _ hb).mono ?_
      rintro e w' ⟨rfl, rfl⟩
      go_wp2
      go_ret
      exact ⟨rfl, rfl⟩
    · rw [if_neg (fun h => hs h.2)]
      have h7 : (Fl.sg a == Fl.sg b) = false := by simpa using hs
      clear hs hz h0
      cases up
      all_goals
        go_enter Try.func29, Try.ntmps29
        go_wp2_with fail
        refine (rfinite_yes a _ ha fa).mono ?_
        rintro e w' ⟨rfl, rfl⟩
        go_wp2_with fail
        refine (rfinite_yes b _ hb fb).mono ?_
        rintro e w' ⟨rfl, rfl⟩
        go_wp2_with fail
        refine (signbit_any a _ ha).mono ?_
        rintro e w' ⟨rfl, rfl⟩
        go_wp2_with fail
        refine (signbit_any b _ hb).mono ?_
        rintro e w' ⟨rfl, rfl⟩
        go_wp2_with (go_at_call 49; refine (copysign_any _ _ _ c1 c2).mono ?_; rintro e w' ⟨rfl, rfl⟩)
        go_ret
        exact ⟨rfl, rfl⟩
  · have h5 := ord0_not a fa hz
    rw [if_neg (fun h => hz h.1)]
    clear hz h0
    cases up
    all_goals
      go_enter Try.func29, Try.ntmps29
      go_wp2_with fail
      refine (rfinite_yes a _ ha fa).mono ?_
      rintro e w' ⟨rfl, rfl⟩
      go_wp2_with fail
      refine (rfinite_yes b _ hb fb).mono ?_
      rintro e w' ⟨rfl, rfl⟩
      go_wp2_with (go_at_call 49; refine (copysign_any _ _ _ c1 c2).mono ?_; rintro e w' ⟨rfl, rfl⟩)
      go_ret
      exact ⟨rfl, rfl⟩
theorem radd_not (a b : Nat) (up : Bool) (w : World) (ha : a < 2 * Fl.W) (hb : b < 2 * Fl.W) (h : ¬ (Fl.rg a < Fl.I ∧ Fl.rg b < Fl.I)) :
    Calls Try.prog 29 #[.float .f64 a, .float .f64 b, .bool up] w (FlPost (Ieee.double.add a b) w) := by
  obtain ⟨s, w1, hr, hs, hw1⟩ := run_float_any .add 22 a b w (by simp)
  have HD : Hid (Dr w w1) := by rcases hw1 with rfl | rfl; exact Dr.refl _; exact Dr.drew _
  have HS : Hid (Fl.Is (Ieee.double.add a b) s) := hs
  clear hs hw1
  by_cases hfa : Fl.rg a < Fl.I
  · have hfb : ¬ Fl.rg b < Fl.I := fun h2 => h ⟨hfa, h2⟩
    clear h
    go_enter Try.func29, Try.ntmps29
    go_wp2_with fail
    refine (rfinite_yes a _ ha hfa).mono ?_
    rintro e w' ⟨rfl, rfl⟩
    go_wp2_with fail
    refine (rfinite_no b _ hfb).mono ?_
    rintro e w' ⟨rfl, hd⟩
    have HD2 := Lib.hid hd
    clear hd
    go_wp2
    go_ret
    exact ⟨s, rfl, HS.out, HD.out.trans HD2.out⟩
  · clear h
    go_enter Try.func29, Try.ntmps29
    go_wp2_with fail
    refine (rfinite_no a _ hfa).mono ?_
    rintro e w' ⟨rfl, hd⟩
    have HD2 := Lib.hid hd
    clear hd
    go_wp2
    go_ret
    exact ⟨s, rfl, HS.out, HD.out.trans HD2.out⟩
/-- What the reference compares a sum's nearest float with. -/
def cS (a b : Nat) : Ordering := cF (plusN (Fl.sg a) (Fl.mant (Fl.rg a)) (Fl.pl a) (Fl.sg b) (Fl.mant (Fl.rg b)) (Fl.pl b)).1 (plusN (Fl.sg a) (Fl.mant (Fl.rg a)) (Fl.pl a) (Fl.sg b) (Fl.mant (Fl.rg b)) (Fl.pl b)).2.1 (plusN (Fl.sg a) (Fl.mant (Fl.rg a)) (Fl.pl a) (Fl.sg b) (Fl.mant (Fl.rg b)) (Fl.pl b)).2.2 (Fl.nearS a b) 1074
theorem cS_eq (a b : Nat) : cS a b = if Fl.rg (Fl.nearS a b) = Fl.I then (if Fl.sg (Fl.nearS a b) then .gt else .lt) else compare (Fl.vl a + Fl.vl b) (Fl.vl (Fl.nearS a b)) := by
  obtain ⟨h1, h2⟩ := Nt.plusN_val (Fl.sg a) (Fl.mant (Fl.rg a)) (Fl.pl a) (Fl.sg b) (Fl.mant (Fl.rg b)) (Fl.pl b) 1074 (by unfold Fl.pl; omega) (by unfold Fl.pl; omega)
  rw [nv_float, nv_float] at h2
  unfold cS cF
  rw [h2, nv_float]
set_option maxRecDepth 400000 in
set_option maxHeartbeats 4000000 in
theorem radd_side (a b : Nat) (up : Bool) (w : World) (ha : a < 2 * Fl.W) (hb : b < 2 * Fl.W) (fa : Fl.rg a < Fl.I) (fb : Fl.rg b < Fl.I) (h0 : ¬ Fl.rg (Fl.nearS a b) = 0) :
    Calls Try.prog 29 #[.float .f64 a, .float .f64 b, .bool up] w fun e w' => e = .returned (.float .f64 (Fl.sideW (Fl.nearS a b) (cS a b) (Fl.next (Fl.nearS a b) up) up)) ∧ Below w.heap.size w w' := by
  have h1 := nearS_run a b fa fb
  have h2 := nearS_lt a b
  have h3 := nearS_rg a b
  have h4 := ord0_not' _ h3 h0
  have s1 := float_small a (Nat.le_of_lt fa)
  have s2 := float_small b (Nat.le_of_lt fb)
  have s3 := sum_small a b (Nat.le_of_lt fa) (Nat.le_of_lt fb) (Fl.sg a) (Fl.sg b)
  have g3 := (Nt.plusN_val (Fl.sg a) (Fl.mant (Fl.rg a)) (Fl.pl a) (Fl.sg b) (Fl.mant (Fl.rg b)) (Fl.pl b) 1074 (by unfold Fl.pl; omega) (by unfold Fl.pl; omega)).1
  have HP := Lib.hid (fun x u v (hu : NumV x u (Fl.sg a) (Fl.mant (Fl.rg a)) (Fl.pl a)) (hv : NumV x v (Fl.sg b) (Fl.mant (Fl.rg b)) (Fl.pl b)) => plus_any u _ _ _ v _ _ _ x hu hv (by have := s1.len; omega) (by have := s2.len; omega) (by have := s1.2; omega) (by have := s1.2; omega) (by have := s2.2; omega) (by have := s2.2; omega))
  have HC := Lib.hid (fun x v hv => rcompare_any v (plusN (Fl.sg a) (Fl.mant (Fl.rg a)) (Fl.pl a) (Fl.sg b) (Fl.mant (Fl.rg b)) (Fl.pl b)).1 (plusN (Fl.sg a) (Fl.mant (Fl.rg a)) (Fl.pl a) (Fl.sg b) (Fl.mant (Fl.rg b)) (Fl.pl b)).2.1 (plusN (Fl.sg a) (Fl.mant (Fl.rg a)) (Fl.pl a) (Fl.sg b) (Fl.mant (Fl.rg b)) (Fl.pl b)).2.2 (Fl.nearS a b) 1074 x hv s3 g3 (by decide) h2 h3)
  obtain ⟨cc, hcc⟩ : ∃ cc, cc = cS a b := ⟨_, rfl⟩
  unfold cS at hcc
  rw [← hcc] at HC
  rw [show cS a b = cc by rw [hcc]; rfl]
  clear hcc s1 s2 s3 g3 h0
  go_enter Try.func29, Try.ntmps29
  go_wp2_with fail
  refine (rfinite_yes a _ ha fa).mono ?_
  rintro e w' ⟨rfl, rfl⟩
  go_wp2_with fail
  refine (rfinite_yes b _ hb fb).mono ?_
  rintro e w' ⟨rfl, rfl⟩
  go_wp2_with fail
  refine (float_any a _ ha).mono ?_
  rintro e w1 ⟨va, rfl, hva, hb1⟩
  have HVA := Lib.hid hva
  have HB1 := Lib.hid hb1
  clear hva hb1
  go_wp2_with fail
  refine (float_any b _ hb).mono ?_
  rintro e w2 ⟨vb, rfl, hvb, hb2⟩
  have HVB := Lib.hid hvb
  have HVA2 := Lib.hid (HVA.out.below hb2)
  have HB2 := Lib.hid (HB1.out.trans (hb2.mono HB1.out.size))
  clear hvb hb2 HVA
  go_wp2_with fail
  refine (HP.out w2 va vb HVA2.out HVB.out).mono ?_
  rintro e w3 ⟨vs, rfl, hvs, hb3⟩
  have HVS := Lib.hid hvs
  have HB3 := Lib.hid (HB2.out.trans (hb3.mono HB2.out.size))
  clear hvs hb3 HVB HVA2
  go_wp2_with fail
  refine (HC.out w3 vs HVS.out).mono ?_
  rintro e w4 ⟨rfl, hb4⟩
  have HB4 := Lib.hid (HB3.out.trans (hb4.mono HB3.out.size))
  clear hb4
  go_wp2_with fail
  refine (rside_any _ cc up _ h2).mono ?_
  rintro e w5 ⟨rfl, rfl⟩
  go_wp2
  go_ret
  exact ⟨rfl, HB4.out⟩
theorem radd_any (a b : Nat) (up : Bool) (w : World) (ha : a < 2 * Fl.W) (hb : b < 2 * Fl.W) : Calls Try.prog 29 #[.float .f64 a, .float .f64 b, .bool up] w (FlPostB (Fl.addS a b up) w) := by
  unfold Fl.addS
  by_cases h : Fl.rg a < Fl.I ∧ Fl.rg b < Fl.I
  · rw [if_pos h]
    unfold Fl.addF
    by_cases hI : Fl.rg (Fl.nearS a b) = Fl.I
    · rw [if_pos hI]
      have hr := radd_side a b up w ha hb h.1 h.2 (by rw [hI]; decide)
      rw [cS_eq, if_pos hI, side_great _ up (nearS_lt a b) hI] at hr
      exact hr.mono fun e w' ⟨h1, h2⟩ => ⟨_, h1, rfl, h2⟩
    · rw [if_neg hI]
      by_cases h0 : Fl.rg (Fl.nearS a b) = 0
      · rw [if_pos h0]
        exact (radd_zero a b up w ha hb h.1 h.2 h0).mono fun e w' ⟨h1, h2⟩ => ⟨_, h1, rfl, h2 ▸ Below.refl _ w⟩
      · rw [if_neg h0]
        have hr := radd_side a b up w ha hb h.1 h.2 h0
        rw [cS_eq, if_neg hI] at hr
        exact hr.mono fun e w' ⟨h1, h2⟩ => ⟨_, h1, rfl, h2⟩
  · rw [if_neg h]
    exact (radd_not a b up w ha hb h).mono fun e w' ⟨s, h1, h2, h3⟩ => ⟨s, h1, h2, h3.below _⟩
theorem rsub_any (a b : Nat) (up : Bool) (w : World) (ha : a < 2 * Fl.W) (hb : b < 2 * Fl.W) : Calls Try.prog 30 #[.float .f64 a, .float .f64 b, .bool up] w (FlPostB (Fl.addS a (Fl.ng b) up) w) := by
  have hn := run_neg b hb
  go_enter Try.func30, Try.ntmps30
  go_wp2_with fail
  refine (radd_any a _ up _ ha (Fl.ng_lt b hb)).mono ?_
  rintro e w' ⟨s, rfl, h1, h2⟩
  have H1 := Lib.hid h1
  have H2 := Lib.hid h2
  clear h1 h2
  go_wp2
  go_ret
  exact ⟨s, rfl, H1.out, H2.out⟩
end Go.Proofs.Ytgockebgcbmgoaa

namespace Go.Proofs.Ytgockebgcbmgoaa
open Go.RowKit

theorem rmul_not (a b : Nat) (up : Bool) (w : World) (ha : a < 2 * Fl.W) (hb : b < 2 * Fl.W) (h : ¬ (Fl.rg a < Fl.I ∧ Fl.rg b < Fl.I)) :
    Calls Try.prog 31 #[.float .f64 a, .float .f64 b, .bool up] w (FlPost (Ieee.double.mul a b) w) := by
  obtain ⟨s, w1, hr, hs, hw1⟩ := run_float_any .mul 22 a b w (by simp)
  have HD : Hid (Dr w w1) := by rcases hw1 with rfl | rfl; exact Dr.refl _; exact Dr.drew _
  have HS : Hid (Fl.Is (Ieee.double.mul a b) s) := hs
  clear hs hw1
  by_cases hfa : Fl.rg a < Fl.I
  · have hfb : ¬ Fl.rg b < Fl.I := fun h2 => h ⟨hfa, h2⟩
    clear h
    go_enter Try.func31, Try.ntmps31
    go_wp2_with fail
    refine (rfinite_yes a _ ha hfa).mono ?_
    rintro e w' ⟨rfl, rfl⟩
    go_wp2_with fail
    refine (rfinite_no b _ hfb).mono ?_
    rintro e w' ⟨rfl, hd⟩
    have HD2 := Lib.hid hd
    clear hd
    go_wp2
    go_ret
    exact ⟨s, rfl, HS.out, HD.out.trans HD2.out⟩
  · clear h
    go_enter Try.func31, Try.ntmps31
    go_wp2_with fail
    refine (rfinite_no a _ hfa).mono ?_
    rintro e w' ⟨rfl, hd⟩
    have HD2 := Lib.hid hd
    clear hd
    go_wp2
    go_ret
    exact ⟨s, rfl, HS.out, HD.out.trans HD2.out⟩

theorem rmul_zero (a b r : Nat) (up : Bool) (w : World) (ha : a < 2 * Fl.W) (hb : b < 2 * Fl.W) (fa : Fl.rg a < Fl.I) (fb : Fl.rg b < Fl.I) (h : ¬ (0 < Fl.rg a ∧ 0 < Fl.rg b)) (hr : Ieee.double.mul a b = some r) :
    Calls Try.prog 31 #[.float .f64 a, .float .f64 b, .bool up] w fun e w' => e = .returned (.float .f64 r) ∧ w = w' := by
  have h1 := fun w => run_float_arith (P := Try.prog) w .mul 22 .f64 a b r hr
  by_cases a0 : Fl.rg a = 0
  · have h2 := Fl.cmp0_eq a a0
    clear h a0 hr
    go_enter Try.func31, Try.ntmps31
    go_wp2_with fail
    refine (rfinite_yes a _ ha fa).mono ?_
    rintro e w' ⟨rfl, rfl⟩
    go_wp2_with fail
    refine (rfinite_yes b _ hb fb).mono ?_
    rintro e w' ⟨rfl, rfl⟩
    go_wp2
    go_ret
    exact ⟨rfl, rfl⟩
  · have b0 : Fl.rg b = 0 := by omega
    have h2 := ord0_not a fa a0
    have h3 := Fl.cmp0_eq b b0
    clear h a0 b0 hr
    go_enter Try.func31, Try.ntmps31
    go_wp2_with fail
    refine (rfinite_yes a _ ha fa).mono ?_
    rintro e w' ⟨rfl, rfl⟩
    go_wp2_with fail
    refine (rfinite_yes b _ hb fb).mono ?_
    rintro e w' ⟨rfl, rfl⟩
    go_wp2
    go_ret
    exact ⟨rfl, rfl⟩


theorem compare_sz (s : Bool) (X Y : Nat) : compare (Nt.sz s X) (Nt.sz s Y) = Fl.cmpS s (compare X Y) := by
  rw [Fl.compare_int, Fl.compare_nat]
  unfold Nt.sz Fl.cmpS
  cases s
  · simp only [Bool.false_eq_true, if_false]
    rcases Nat.lt_trichotomy X Y with h | h | h
    · rw [if_pos (by omega), if_pos h]
    · subst h; simp
    · rw [if_neg (by omega), if_neg (by omega), if_neg (by omega), if_neg (by omega)]
  · simp only [if_true]
    rcases Nat.lt_trichotomy X Y with h | h | h
    · rw [if_neg (by omega), if_neg (by omega), if_pos h]; rfl
    · subst h; simp
    · rw [if_pos (by omega), if_neg (by omega), if_neg (by omega)]; rfl
/-- A float in finer units. -/
theorem nv_float2 (f : Nat) (K : Int) (hK : K = 1074 + (Fl.E : Int)) : Nt.nv (Fl.sg f) (Fl.mant (Fl.rg f)) (Fl.pl f) K = Nt.sz (Fl.sg f) (Fl.rv (Fl.rg f) * 2 ^ Fl.E) := by
  unfold Nt.nv Fl.pl Fl.rv
  rw [show (-1074 + ((Fl.ex (Fl.rg f) : Nat) : Int) + K).toNat = Fl.ex (Fl.rg f) + Fl.E by omega, Nat.pow_add, Nat.mul_assoc]
theorem nv_prod (a b : Nat) (K : Int) (hK : K = 1074 + 1074) (s : Bool) : Nt.nv s (Fl.mant (Fl.rg a) * Fl.mant (Fl.rg b)) (Fl.pl a + Fl.pl b) K = Nt.sz s (Fl.rv (Fl.rg a) * Fl.rv (Fl.rg b)) := by
  unfold Nt.nv Fl.pl Fl.rv
  rw [show (-1074 + ((Fl.ex (Fl.rg a) : Nat) : Int) + (-1074 + ((Fl.ex (Fl.rg b) : Nat) : Int)) + K).toNat = Fl.ex (Fl.rg a) + Fl.ex (Fl.rg b) by omega, Nat.pow_add]
  congr 1
  generalize 2 ^ Fl.ex (Fl.rg a) = A
  generalize 2 ^ Fl.ex (Fl.rg b) = D
  generalize Fl.mant (Fl.rg a) = m
  generalize Fl.mant (Fl.rg b) = n
  ac_rfl
theorem E_int : (Fl.E : Int) = 1074 := by rw [Fl.E_eq]; rfl
theorem mul_cmp (a b r : Nat) (a0 : 0 < Fl.rg a) (b0 : 0 < Fl.rg b) : Fl.cmpR (Fl.mM a b) (Fl.pM a b) r = compare (Fl.rv (Fl.rg a) * Fl.rv (Fl.rg b)) (Fl.rv r * 2 ^ Fl.E) := by
  obtain ⟨a1, a2, ha, ea⟩ := Fl.rv_norm (Fl.rg a) a0
  obtain ⟨b1, b2, hb, eb⟩ := Fl.rv_norm (Fl.rg b) b0
  have hp := Fl.mul_pow4 _ _ _ _ _ _ _ _ ha hb
  have hE := E_int
  rw [Fl.cmpR_scale _ _ _ (a2 + b2) (Fl.E + (a1 + b1)) (by unfold Fl.pM; omega), show Fl.mM a b = Fl.nM (Fl.rg a) * Fl.nM (Fl.rg b) from rfl, ← hp, Nat.pow_add _ Fl.E, ← Nat.mul_assoc, Fl.compare_mul _ _ _ (Nat.two_pow_pos _)]
theorem sg_nearM (a b : Nat) : Fl.sg (Fl.nearM a b) = (Fl.sg a ^^ Fl.sg b) := by
  obtain ⟨r, h1, _⟩ := Fl.nearest_word (Fl.sg a ^^ Fl.sg b) (Fl.mM a b) (Fl.pM a b)
  unfold Fl.nearM
  rw [h1, Fl.sg_wd _ _ (Fl.min_I_lt r)]
/-- What the reference compares a product's nearest float with. -/
def cM (a b : Nat) : Ordering := cF (Fl.sg a != Fl.sg b) (Fl.mant (Fl.rg a) * Fl.mant (Fl.rg b)) (Fl.pl a + Fl.pl b) (Fl.nearM a b) 2148
theorem cM_eq (a b : Nat) (a0 : 0 < Fl.rg a) (b0 : 0 < Fl.rg b) : cM a b = if Fl.rg (Fl.nearM a b) = Fl.I then (if Fl.sg (Fl.nearM a b) then .gt else .lt) else Fl.cmpS (Fl.sg a ^^ Fl.sg b) (Fl.cmpR (Fl.mM a b) (Fl.pM a b) (Fl.rg (Fl.nearM a b))) := by
  unfold cM cF
  rw [nv_prod a b 2148 (by decide), nv_float2 _ 2148 (by rw [E_int]; decide), sg_nearM, mul_cmp a b _ a0 b0, show (Fl.sg a != Fl.sg b) = (Fl.sg a ^^ Fl.sg b) by cases Fl.sg a <;> cases Fl.sg b <;> rfl, compare_sz]
theorem prod_small (a b : Nat) (ha : Fl.rg a ≤ Fl.I) (hb : Fl.rg b ≤ Fl.I) : Small (Fl.mant (Fl.rg a) * Fl.mant (Fl.rg b)) (Fl.pl a + Fl.pl b) := by
  have e1 : Fl.pl a ≤ 1100 ∧ -1074 ≤ Fl.pl a := by
    unfold Fl.pl Fl.ex; unfold Fl.I at ha; unfold Fl.B; omega
  have e2 : Fl.pl b ≤ 1100 ∧ -1074 ≤ Fl.pl b := by
    unfold Fl.pl Fl.ex; unfold Fl.I at hb; unfold Fl.B; omega
  have m1 := Fl.mant_lt (Fl.rg a)
  have m2 := Fl.mant_lt (Fl.rg b)
  unfold Fl.B at m1 m2
  refine ⟨⟨106, by decide, ?_⟩, by omega, by omega⟩
  have := Nat.mul_lt_mul'' (show Fl.mant (Fl.rg a) < 2 ^ 53 from m1) (show Fl.mant (Fl.rg b) < 2 ^ 53 from m2)
  rwa [← Nat.pow_add] at this
set_option maxRecDepth 400000 in
set_option maxHeartbeats 4000000 in
theorem rmul_side (a b : Nat) (up : Bool) (w : World) (ha : a < 2 * Fl.W) (hb : b < 2 * Fl.W) (fa : Fl.rg a < Fl.I) (fb : Fl.rg b < Fl.I) (a0 : 0 < Fl.rg a) (b0 : 0 < Fl.rg b) :
    Calls Try.prog 31 #[.float .f64 a, .float .f64 b, .bool up] w fun e w' => e = .returned (.float .f64 (Fl.sideW (Fl.nearM a b) (cM a b) (Fl.next (Fl.nearM a b) up) up)) ∧ Below w.heap.size w w' := by
  have h1 := fun w => run_float_arith (P := Try.prog) w .mul 22 .f64 a b _ (Fl.mul_near a b fa fb a0 b0)
  have h2 := nearM_lt a b
  have h3 := nearM_rg a b
  have h4 := ord0_not' a (Nat.le_of_lt fa) (by omega)
  have h5 := ord0_not' b (Nat.le_of_lt fb) (by omega)
  have s1 := float_small a (Nat.le_of_lt fa)
  have s2 := float_small b (Nat.le_of_lt fb)
  have s3 := prod_small a b (Nat.le_of_lt fa) (Nat.le_of_lt fb)
  have HP := Lib.hid (fun x u v (hu : NumV x u (Fl.sg a) (Fl.mant (Fl.rg a)) (Fl.pl a)) (hv : NumV x v (Fl.sg b) (Fl.mant (Fl.rg b)) (Fl.pl b)) => times_any u _ _ _ v _ _ _ x hu hv (by have := s1.len; omega) (by have := s2.len; omega) (by have := s1.2; omega) (by have := s1.2; omega) (by have := s2.2; omega) (by have := s2.2; omega))
  have HC := Lib.hid (fun x v hv => rcompare_any v (Fl.sg a != Fl.sg b) (Fl.mant (Fl.rg a) * Fl.mant (Fl.rg b)) (Fl.pl a + Fl.pl b) (Fl.nearM a b) 2148 x hv s3 (by unfold Fl.pl; omega) (by decide) h2 h3)
  obtain ⟨cc, hcc⟩ : ∃ cc, cc = cM a b := ⟨_, rfl⟩
  unfold cM at hcc
  rw [← hcc] at HC
  rw [show cM a b = cc by rw [hcc]; rfl]
  clear hcc s1 s2 s3
  go_enter Try.func31, Try.ntmps31
  go_wp2_with fail
  refine (rfinite_yes a _ ha fa).mono ?_
  rintro e w' ⟨rfl, rfl⟩
  go_wp2_with fail
  refine (rfinite_yes b _ hb fb).mono ?_
  rintro e w' ⟨rfl, rfl⟩
  go_wp2_with fail
  refine (float_any a _ ha).mono ?_
  rintro e w1 ⟨va, rfl, hva, hb1⟩
  have HVA := Lib.hid hva
  have HB1 := Lib.hid hb1
  clear hva hb1
  go_wp2_with fail
  refine (float_any b _ hb).mono ?_
  rintro e w2 ⟨vb, rfl, hvb, hb2⟩
  have HVB := Lib.hid hvb
  have HVA2 := Lib.hid (HVA.out.below hb2)
  have HB2 := Lib.hid (HB1.out.trans (hb2.mono HB1.out.size))
  clear hvb hb2 HVA
  go_wp2_with fail
  refine (HP.out w2 va vb HVA2.out HVB.out).mono ?_
  rintro e w3 ⟨vs, rfl, hvs, hb3⟩
  have HVS := Lib.hid hvs
  have HB3 := Lib.hid (HB2.out.trans (hb3.mono HB2.out.size))
  clear hvs hb3 HVB HVA2
  go_wp2_with fail
  refine (HC.out w3 vs HVS.out).mono ?_
  rintro e w4 ⟨rfl, hb4⟩
  have HB4 := Lib.hid (HB3.out.trans (hb4.mono HB3.out.size))
  clear hb4
  go_wp2_with fail
  refine (rside_any _ cc up _ h2).mono ?_
  rintro e w5 ⟨rfl, rfl⟩
  go_wp2
  go_ret
  exact ⟨rfl, HB4.out⟩
theorem rmul_any (a b : Nat) (up : Bool) (w : World) (ha : a < 2 * Fl.W) (hb : b < 2 * Fl.W) : Calls Try.prog 31 #[.float .f64 a, .float .f64 b, .bool up] w (FlPostB (Fl.mulS a b up) w) := by
  unfold Fl.mulS
  by_cases h : Fl.rg a < Fl.I ∧ Fl.rg b < Fl.I
  · by_cases h0 : 0 < Fl.rg a ∧ 0 < Fl.rg b
    · rw [if_pos ⟨h.1, h.2, h0.1, h0.2⟩]
      have hr := rmul_side a b up w ha hb h.1 h.2 h0.1 h0.2
      rw [cM_eq a b h0.1 h0.2] at hr
      unfold Fl.mulF
      by_cases hI : Fl.rg (Fl.nearM a b) = Fl.I
      · rw [if_pos hI, side_great _ up (nearM_lt a b) hI] at hr
        rw [if_pos hI]
        exact hr.mono fun e w' ⟨h1, h2⟩ => ⟨_, h1, rfl, h2⟩
      · rw [if_neg hI] at hr
        rw [if_neg hI]
        exact hr.mono fun e w' ⟨h1, h2⟩ => ⟨_, h1, rfl, h2⟩
    · rw [if_neg (fun h2 => h0 h2.2.2)]
      have hm := Fl.mul_fin a b h.1 h.2
      exact (rmul_zero a b _ up w ha hb h.1 h.2 h0 hm).mono fun e w' ⟨h1, h2⟩ => ⟨_, h1, by rw [hm]; rfl, h2 ▸ Below.refl _ w⟩
  · rw [if_neg (fun h2 => h ⟨h2.1, h2.2.1⟩)]
    exact (rmul_not a b up w ha hb h).mono fun e w' ⟨s, h1, h2, h3⟩ => ⟨s, h1, h2, h3.below _⟩
end Go.Proofs.Ytgockebgcbmgoaa

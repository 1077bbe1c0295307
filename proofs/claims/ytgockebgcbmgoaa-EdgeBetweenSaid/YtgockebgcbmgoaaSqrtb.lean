/-
  The walk of edge's Sqrt of finite floats above 0.
-/
import Derived.Test.YtgockebgcbmgoaaSqrt
set_option linter.unusedVariables false
set_option linter.unusedSimpArgs false
namespace Go.Proofs.Ytgockebgcbmgoaa
open Go.RowKit

theorem sqrt_go (a r x q off nq : Nat) (up : Bool) (w : World) (ha : a < 2 * Fl.W) (hf : Fl.rg a < Fl.I) (o1 : FloatKind.f64.format.order a 0 = some .gt) (f : Nat) (i j : Int) (i1 : -2000 ≤ i) (i2 : i ≤ 2000) (od : Bool)
    (hm : ∀ w, Calls Try.prog 54 #[.float .f64 a] w fun e w' => e = .returned (.float .f64 r) ∧ Dr w w')
    (hfr : ∀ w, Calls Try.prog 55 #[.float .f64 a] w fun e w' => e = .returned (.tuple #[.float .f64 f, .int .i64 i]) ∧ w = w')
    (hodd : (Int.tmod i 2 != 0) = od)
    (hdiv : od = true → ∀ w, (binOp .quo 22 (.float .f64 f) (.float .f64 4611686018427387904)).run Try.prog w = .ok (.float .f64 x) w)
    (hnd : od = false → f = x)
    (hq : ∀ w, Calls Try.prog 54 #[.float .f64 x] w fun e w' => e = .returned (.float .f64 q) ∧ Dr w w')
    (hn : ∀ w, (Op.unary .neg (.float .f64 q)).run Try.prog w = .ok (.float .f64 nq) w)
    (hfma : ∀ w, (callFunc 53 #[.float .f64 nq, .float .f64 q, .float .f64 x]).run Try.prog w = .ok (.value (.float .f64 off)) w)
    (hj : Int.tdiv (if od then i + 1 else i) 2 = j) (j1 : -3000 ≤ j) (j2 : j ≤ 3000)
    (s : Nat) (hs : ∀ w, Calls Try.prog 52 #[.float .f64 r, .float .f64 q, .float .f64 off, .int .i64 j, .bool up] w fun e w' => e = .returned (.float .f64 s) ∧ Dr w w') :
    Calls Try.prog 28 #[.float .f64 a, .bool up] w fun e w' => e = .returned (.float .f64 s) ∧ Dr w w' := by
  have HM := Lib.hid hm
  have HFR := Lib.hid hfr
  have HQ := Lib.hid hq
  have HS := Lib.hid hs
  clear hm hfr hq hs
  cases od
  · have hfx := hnd rfl
    subst hfx
    clear hnd hdiv
    simp only [Bool.false_eq_true, if_false] at hj
    go_enter Try.func28, Try.ntmps28
    go_wp2_with fail
    refine (HM.out _).mono ?_
    rintro e w1 ⟨rfl, hd⟩
    have D1 := Lib.hid hd
    clear hd
    go_wp2_with fail
    refine (finite_yes a _ ha hf).mono ?_
    rintro e w' ⟨rfl, rfl⟩
    go_wp2_with fail
    refine (HFR.out _).mono ?_
    rintro e w' ⟨rfl, rfl⟩
    go_wp2_with fail
    refine (HQ.out _).mono ?_
    rintro e w2 ⟨rfl, hd⟩
    have D2 := Lib.hid hd
    clear hd
    go_wp2_with fail
    refine (HS.out _).mono ?_
    rintro e w3 ⟨rfl, hd⟩
    have D3 := Lib.hid hd
    clear hd
    go_wp2
    go_ret
    exact ⟨rfl, (D1.out.trans D2.out).trans D3.out⟩
  · have hdv := hdiv rfl
    clear hnd hdiv
    simp only [if_true] at hj
    go_enter Try.func28, Try.ntmps28
    go_wp2_with fail
    refine (HM.out _).mono ?_
    rintro e w1 ⟨rfl, hd⟩
    have D1 := Lib.hid hd
    clear hd
    go_wp2_with fail
    refine (finite_yes a _ ha hf).mono ?_
    rintro e w' ⟨rfl, rfl⟩
    go_wp2_with fail
    refine (HFR.out _).mono ?_
    rintro e w' ⟨rfl, rfl⟩
    go_wp2_with fail
    refine (HQ.out _).mono ?_
    rintro e w2 ⟨rfl, hd⟩
    have D2 := Lib.hid hd
    clear hd
    go_wp2_with fail
    refine (HS.out _).mono ?_
    rintro e w3 ⟨rfl, hd⟩
    have D3 := Lib.hid hd
    clear hd
    go_wp2
    go_ret
    exact ⟨rfl, (D1.out.trans D2.out).trans D3.out⟩
theorem msqrt_some (x r : Nat) (h : Ieee.double.sqrt x = some r) (w : World) : Calls Try.prog 54 #[.float .f64 x] w fun e w' => e = .returned (.float .f64 r) ∧ Dr w w' := by
  refine (msqrt_any x w).mono ?_
  rintro e w' ⟨s, rfl, hs, hd⟩
  rw [h] at hs
  have : s = r := hs
  subst this
  exact ⟨rfl, hd⟩
theorem Fl.tmod_odd (i : Int) : (Int.tmod i 2 != 0) = decide (i % 2 = 1) := by
  rcases Int.lt_or_le i 0 with h | h
  · have h1 : (-i).tmod 2 = -(i.tmod 2) := Int.neg_tmod ..
    rw [Int.tmod_eq_emod_of_nonneg (by omega)] at h1
    by_cases h2 : i % 2 = 1
    · rw [decide_eq_true h2, bne_iff_ne]; omega
    · rw [decide_eq_false h2, bne_eq_false_iff_eq]; omega
  · rw [Int.tmod_eq_emod_of_nonneg h]
    by_cases h2 : i % 2 = 1
    · rw [decide_eq_true h2, bne_iff_ne]; omega
    · rw [decide_eq_false h2, bne_eq_false_iff_eq]; omega
theorem Fl.tdiv_even (i : Int) (h : i % 2 = 0) : 2 * Int.tdiv i 2 = i := by
  rcases Int.lt_or_le i 0 with h0 | h0
  · have h1 : (-i).tdiv 2 = -(i.tdiv 2) := Int.neg_tdiv ..
    rw [Int.tdiv_eq_ediv_of_nonneg (by omega)] at h1
    omega
  · rw [Int.tdiv_eq_ediv_of_nonneg h0]; omega

theorem sqrt_fine (a : Nat) (up : Bool) (w : World) (ha : a < 2 * Fl.W) (hf : Fl.rg a < Fl.I) (a0 : 0 < Fl.rg a) (hs : Fl.sg a = false) :
    Calls Try.prog 28 #[.float .f64 a, .bool up] w fun e w' => e = .returned (.float .f64 (Fl.sqrtF a up)) ∧ Dr w w' := by
  obtain ⟨q, off, e1, e2, e3, e4, e5, e6, e7⟩ := Fl.sqrt_scaled a _ a0 rfl
  have r1 := Fl.nE_range (Fl.rg a) a0 hf
  have hpar : (Fl.par a : Int) = Fl.nE (Fl.rg a) % 2 := by unfold Fl.par; omega
  have hpl := Fl.par_le a
  have hnl := nearR_lt a
  obtain ⟨g0, g1, g2⟩ := Fl.sM_range a a0
  obtain ⟨j, hj⟩ : ∃ j : Int, j = (Fl.nE (Fl.rg a) - Fl.par a) / 2 - 510 := ⟨_, rfl⟩
  have hP : Fl.pR a - j = -56 := by unfold Fl.pR; omega
  have hmid := Fl.mid_fin false (Fl.sM a) (Fl.pR a) 56 g0 g1 (by unfold Fl.pR; omega) (by unfold Fl.pR; omega)
  have hset : ∀ w, Calls Try.prog 52 #[.float .f64 (Fl.nearR a), .float .f64 q, .float .f64 off, .int .i64 j, .bool up] w fun e w' => e = .returned (.float .f64 (Fl.sqrtF a up)) ∧ Dr w w' := by
    intro w
    refine (settle_side (Fl.nearR a) q off j up w false (Fl.sM a) (Fl.pR a) g0 (by omega) (by omega) rfl hmid.1 (by rw [hP]; exact e2) e4 e5 (by omega) (by omega) (by rw [hP, Fl.cmpS_false]; exact e7)).mono ?_
    rw [Fl.cmpS_false]
    rintro e w' ⟨h1, h2⟩
    exact ⟨h1, h2 ▸ Dr.refl _⟩
  have hodd : (Int.tmod (Fl.fri a) 2 != 0) = decide (Fl.par a = 0) := by
    rw [Fl.tmod_odd]
    unfold Fl.fri
    by_cases h : Fl.par a = 0
    · rw [decide_eq_true h, decide_eq_true (by omega)]
    · rw [decide_eq_false h, decide_eq_false (by omega)]
  refine sqrt_go a (Fl.nearR a) _ q off (Fl.ng q) up w ha hf (Fl.cmp0_gt a a0 (by omega) hs) (Fl.frx a) (Fl.fri a) j (by unfold Fl.fri; omega) (by unfold Fl.fri; omega) (decide (Fl.par a = 0))
    (fun w => msqrt_some a _ (Fl.sqrt_near a hf a0 hs) w) (fun w => frexp_fin a w ha a0 hf) hodd ?_ ?_ (fun w => msqrt_some _ _ e1 w) (fun w => run_neg q e3 w) (fun w => run_fma _ _ _ _ e6 w) ?_ (by omega) (by omega) _ hset
  · intro h
    have h0 : Fl.par a = 0 := of_decide_eq_true h
    intro w
    rw [h0]
    exact run_float_arith w .quo _ .f64 _ _ _ (Fl.half_frx a a0 hs)
  · intro h
    have h0 : ¬ Fl.par a = 0 := of_decide_eq_false h
    have h1 : Fl.par a = 1 := by omega
    rw [h1]
    unfold Fl.frx
    rw [hs]; rfl
  · by_cases h : Fl.par a = 0
    · rw [decide_eq_true h, if_pos rfl]
      have := Fl.tdiv_even (Fl.fri a + 1) (by unfold Fl.fri; omega)
      unfold Fl.fri at *
      omega
    · rw [decide_eq_false h, if_neg (by simp)]
      have := Fl.tdiv_even (Fl.fri a) (by unfold Fl.fri; omega)
      unfold Fl.fri at *
      omega
/-- Sqrt. -/
theorem sqrt_walk (a : Nat) (up : Bool) (w : World) (ha : a < 2 * Fl.W) : Calls Try.prog 28 #[.float .f64 a, .bool up] w (FlPost (Fl.sqrtS a up) w) := by
  unfold Fl.sqrtS
  by_cases h : Fl.rg a < Fl.I ∧ 0 < Fl.rg a ∧ Fl.sg a = false
  · rw [if_pos h]
    exact (sqrt_fine a up w ha h.1 h.2.1 h.2.2).mono fun e w' ⟨h1, h2⟩ => ⟨_, h1, rfl, h2⟩
  · rw [if_neg h]
    exact sqrt_not a up w ha h
end Go.Proofs.Ytgockebgcbmgoaa

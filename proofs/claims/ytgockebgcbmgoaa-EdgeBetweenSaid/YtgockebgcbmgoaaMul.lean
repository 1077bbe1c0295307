/-
  The walks of edge's settle and Mul.
-/
import Derived.Test.YtgockebgcbmgoaaMathc
import Derived.Test.YtgockebgcbmgoaaSett
set_option linter.unusedVariables false
set_option linter.unusedSimpArgs false
namespace Go.Proofs.Ytgockebgcbmgoaa
open Go.RowKit

theorem settle_go (near x off : Nat) (P : Int) (up : Bool) (w : World) (hP1 : -10000 ≤ P) (hP2 : P ≤ 10000) (hn : near < 2 * Fl.W) (hf : Fl.rg near < Fl.I) (y1 y d : Nat) (h1 : Int) (hh : wrap64 (-(P.tdiv 2)) = h1) (hb1 : -20000 ≤ h1) (hb2 : h1 ≤ 20000)
    (l1 : ∀ w, Calls Try.prog 65 #[.float .f64 near, .int .i64 h1] w fun e w' => e = .returned (.float .f64 y1) ∧ w = w')
    (l2 : ∀ w, Calls Try.prog 65 #[.float .f64 y1, .int .i64 (-P - h1)] w fun e w' => e = .returned (.float .f64 y) ∧ w = w')
    (hd : ∀ w, (binOp .sub 22 (.float .f64 x) (.float .f64 y)).run Try.prog w = .ok (.float .f64 d) w)
    (o1 o2 : Ordering) (od : FloatKind.f64.format.order d 0 = some o1) (oo : FloatKind.f64.format.order off 0 = some o2) :
    Calls Try.prog 52 #[.float .f64 near, .float .f64 x, .float .f64 off, .int .i64 P, .bool up] w fun e w' => e = .returned (.float .f64 (Fl.sideW near (if o1 = .eq then o2 else o1) (Fl.next near up) up)) ∧ w = w' := by
  have H1 := Lib.hid l1
  have H2 := Lib.hid l2
  have OD := Lib.hid od
  have OO := Lib.hid oo
  clear l1 l2 oo
  cases o1
  · clear OO
    go_enter Try.func52, Try.ntmps52
    go_wp2_with fail
    refine (finite_yes _ _ hn hf).mono ?_
    rintro e w' ⟨rfl, rfl⟩
    go_wp2_with fail
    refine (H1.out _).mono ?_
    rintro e w' ⟨rfl, rfl⟩
    go_wp2_with fail
    refine (H2.out _).mono ?_
    rintro e w' ⟨rfl, rfl⟩
    go_wp2_with fail
    refine (side_any near d up _ hn _ OD.out).mono ?_
    rintro e w' ⟨rfl, rfl⟩
    go_wp2
    go_ret
    exact ⟨rfl, rfl⟩
  · go_enter Try.func52, Try.ntmps52
    go_wp2_with fail
    refine (finite_yes _ _ hn hf).mono ?_
    rintro e w' ⟨rfl, rfl⟩
    go_wp2_with fail
    refine (H1.out _).mono ?_
    rintro e w' ⟨rfl, rfl⟩
    go_wp2_with fail
    refine (H2.out _).mono ?_
    rintro e w' ⟨rfl, rfl⟩
    go_wp2_with fail
    refine (side_any near off up _ hn _ OO.out).mono ?_
    rintro e w' ⟨rfl, rfl⟩
    go_wp2
    go_ret
    exact ⟨rfl, rfl⟩
  · clear OO
    go_enter Try.func52, Try.ntmps52
    go_wp2_with fail
    refine (finite_yes _ _ hn hf).mono ?_
    rintro e w' ⟨rfl, rfl⟩
    go_wp2_with fail
    refine (H1.out _).mono ?_
    rintro e w' ⟨rfl, rfl⟩
    go_wp2_with fail
    refine (H2.out _).mono ?_
    rintro e w' ⟨rfl, rfl⟩
    go_wp2_with fail
    refine (side_any near d up _ hn _ OD.out).mono ?_
    rintro e w' ⟨rfl, rfl⟩
    go_wp2
    go_ret
    exact ⟨rfl, rfl⟩
theorem settle_great (near x off : Nat) (P : Int) (up : Bool) (w : World) (hn : near < 2 * Fl.W) (hI : Fl.rg near = Fl.I) :
    Calls Try.prog 52 #[.float .f64 near, .float .f64 x, .float .f64 off, .int .i64 P, .bool up] w fun e w' => e = .returned (.float .f64 (Fl.greatW near up)) ∧ Dr w w' := by
  have hf : ¬ Fl.rg near < Fl.I := by omega
  go_enter Try.func52, Try.ntmps52
  go_wp2_with fail
  refine (finite_no _ _ hf).mono ?_
  rintro e w' ⟨rfl, hd⟩
  have HD := Lib.hid hd
  clear hd
  go_wp2_with fail
  refine (great_any _ _ _ hn hI).mono ?_
  rintro e w' ⟨rfl, rfl⟩
  go_wp2
  go_ret
  exact ⟨rfl, HD.out⟩

/-! ### the scaled float -/
theorem Fl.rv_norm (r : Nat) (h0 : 0 < r) : ∃ c1 c2 : Nat, Fl.rv r * 2 ^ c1 = Fl.nM r * 2 ^ c2 ∧ (c2 : Int) - c1 = Fl.nE r := by
  obtain ⟨c1, c2, n1, n2⟩ := Fl.norm_val r h0
  refine ⟨c1, c2 + Fl.ex r, ?_, by omega⟩
  unfold Fl.rv; rw [Nat.mul_assoc, Nat.mul_comm (2 ^ Fl.ex r), ← Nat.mul_assoc, n1, Nat.mul_assoc, ← Nat.pow_add]
/-- Scaled down by P in two steps, exactly. -/
theorem Fl.scl2 (near : Nat) (h0 : 0 < Fl.rg near) (P h1 : Int) (a1 : 0 ≤ Fl.nE (Fl.rg near) + h1) (a2 : Fl.nE (Fl.rg near) + h1 ≤ 2045) (b1 : 0 ≤ Fl.nE (Fl.rg near) - P) (b2 : Fl.nE (Fl.rg near) - P ≤ 2045) :
    ∃ y1 y : Nat, y1 = Fl.scl near h1 ∧ 0 < Fl.rg y1 ∧ Fl.rg y1 < Fl.I ∧ y1 < 2 * Fl.W ∧ y = Fl.scl y1 (-P - h1) ∧ Fl.sg y = Fl.sg near ∧ Fl.rg y < Fl.I ∧ y < 2 * Fl.W ∧ ∃ c1 c2 : Nat, Fl.rv (Fl.rg y) * 2 ^ c1 = Fl.rv (Fl.rg near) * 2 ^ c2 ∧ (c2 : Int) - c1 = -P := by
  obtain ⟨e1, e2, e3, e4⟩ := Fl.scl_exact near h0 h1 a1 a2
  have hBp : 0 < Fl.B := by decide
  obtain ⟨m1, m2⟩ := Fl.nM_range (Fl.rg near) h0
  generalize hr : (Fl.nE (Fl.rg near) + h1).toNat * Fl.B + Fl.nM (Fl.rg near) = r at *
  have hW := Nat.lt_trans e2 Fl.I_lt_W
  have hr0 : 0 < r := by rw [← hr]; exact Nat.lt_of_lt_of_le (Nat.lt_of_lt_of_le hBp m1) (Nat.le_add_left _ _)
  have hrg : Fl.rg (Fl.wd (Fl.sg near) r) = r := Fl.rg_wd _ _ hW
  have hsg : Fl.sg (Fl.wd (Fl.sg near) r) = Fl.sg near := Fl.sg_wd _ _ hW
  have hk : Fl.nE (Fl.rg (Fl.wd (Fl.sg near) r)) + (-P - h1) = Fl.nE (Fl.rg near) - P := by rw [hrg, e3]; omega
  obtain ⟨f1, f2, f3, f4⟩ := Fl.scl_exact (Fl.wd (Fl.sg near) r) (by rw [hrg]; exact hr0) (-P - h1) (by rw [hk]; exact b1) (by rw [hk]; exact b2)
  rw [hk, hrg, e4, hsg] at f1
  rw [hk, hrg, e4] at f2 f3 f4
  generalize hq : (Fl.nE (Fl.rg near) - P).toNat * Fl.B + Fl.nM (Fl.rg near) = q at *
  have hqW := Nat.lt_trans f2 Fl.I_lt_W
  have hq0 : 0 < q := by rw [← hq]; exact Nat.lt_of_lt_of_le (Nat.lt_of_lt_of_le hBp m1) (Nat.le_add_left _ _)
  refine ⟨_, _, e1.symm, by rw [hrg]; exact hr0, by rw [hrg]; exact e2, Fl.wd_lt _ _ hW, f1.symm, Fl.sg_wd _ _ hqW, by rw [Fl.rg_wd _ _ hqW]; exact f2, Fl.wd_lt _ _ hqW, ?_⟩
  rw [Fl.rg_wd _ _ hqW]
  obtain ⟨c1, c2, n1, n2⟩ := Fl.rv_norm q hq0
  obtain ⟨d1, d2, n3, n4⟩ := Fl.rv_norm (Fl.rg near) h0
  rw [f4] at n1
  rw [f3] at n2
  refine ⟨c1 + d2, d1 + c2, ?_, by omega⟩
  rw [Nat.pow_add, ← Nat.mul_assoc, n1, Nat.pow_add, ← Nat.mul_assoc, n3]
  generalize 2 ^ c2 = A
  generalize 2 ^ d2 = C
  generalize Fl.nM (Fl.rg near) = M
  grind

theorem tdiv_two (P : Int) : P - 1 ≤ 2 * P.tdiv 2 ∧ 2 * P.tdiv 2 ≤ P + 1 := by
  rcases Int.lt_or_le P 0 with h | h
  · have h1 : (-P).tdiv 2 = -(P.tdiv 2) := Int.neg_tdiv ..
    rw [Int.tdiv_eq_ediv_of_nonneg (by omega)] at h1
    omega
  · rw [Int.tdiv_eq_ediv_of_nonneg h]; omega
theorem wrap_half (P : Int) (h1 : -10000 ≤ P) (h2 : P ≤ 10000) : wrap64 (-(P.tdiv 2)) = -(P.tdiv 2) := by
  have := tdiv_two P
  unfold wrap64; omega
/-- Two floats of one sign stand as their rungs. -/
theorem Fl.compare_vl (x y : Nat) (s : Bool) (hx : Fl.sg x = s) (hy : Fl.sg y = s) : compare (Fl.vl x) (Fl.vl y) = Fl.cmpS s (compare (Fl.rg x) (Fl.rg y)) := by
  unfold Fl.vl Fl.cmpS
  rw [hx, hy, Fl.compare_nat, Fl.compare_int]
  rcases Nat.lt_trichotomy (Fl.rg x) (Fl.rg y) with h | h | h
  · have := Fl.rv_mono h
    cases s
    · simp only [Bool.false_eq_true, if_false]; rw [if_pos (by omega), if_pos h]
    · simp only [if_true]; rw [if_neg (by omega), if_neg (by omega), if_pos h]; rfl
  · rw [h]; cases s <;> simp <;> rfl
  · have := Fl.rv_mono h
    cases s
    · simp only [Bool.false_eq_true, if_false]; rw [if_neg (by omega), if_neg (by omega), if_neg (by omega), if_neg (by omega)]
    · simp only [if_true]; rw [if_pos (by omega), if_neg (by omega), if_neg (by omega)]; rfl
theorem Fl.cmpS_eq (s : Bool) (c : Ordering) : Fl.cmpS s c = .eq ↔ c = .eq := by cases s <;> cases c <;> simp [Fl.cmpS]
/-- A difference's sign. -/
theorem Fl.sub_sign (x y : Nat) (hy : y < 2 * Fl.W) (fx : Fl.rg x < Fl.I) (fy : Fl.rg y < Fl.I) : ∃ d, floatBits .sub .f64 x y = some d ∧ FloatKind.f64.format.order d 0 = some (compare (Fl.vl x) (Fl.vl y)) := by
  have e1 : Ieee.double.sub x y = some (Fl.rnd (Fl.sgn2 (Fl.sg x) (Fl.sg (Fl.ng y)) (Fl.vl x - Fl.vl y)) (Fl.vl x - Fl.vl y).natAbs) := by
    rw [Fl.sub_any x y hy, Fl.add_fin x (Fl.ng y) fx (by rw [Fl.rg_ng y hy]; exact fy), Fl.vl_ng y hy]
    rfl
  refine ⟨_, e1, ?_⟩
  rw [Fl.ord0 _ (by rw [Fl.rg_rnd]; exact (Fl.rnd_rr false _).2), Fl.key_rnd, Fl.compare_sub]

/-- settle's answer. -/
theorem settle_side (near x off : Nat) (P : Int) (up : Bool) (w : World) (s : Bool) (mag : Nat) (p : Int) (hm : mag ≠ 0) (hP1 : -10000 ≤ P) (hP2 : P ≤ 10000)
    (hnear : near = Ieee.double.nearest s mag p) (hf : Fl.rg near < Fl.I) (hx : x = Ieee.double.nearest s mag (p - P)) (hxf : Fl.rg x < Fl.I) (hx0 : 0 < Fl.rg x)
    (ht1 : -3 ≤ (mag.log2 : Int) + p - P) (ht2 : (mag.log2 : Int) + p - P ≤ 1) (oo : FloatKind.f64.format.order off 0 = some (Fl.cmpS s (Fl.cmpR mag (p - P) (Fl.rg x)))) :
    Calls Try.prog 52 #[.float .f64 near, .float .f64 x, .float .f64 off, .int .i64 P, .bool up] w fun e w' => e = .returned (.float .f64 (Fl.sideW near (Fl.cmpS s (Fl.cmpR mag p (Fl.rg near))) (Fl.next near up) up)) ∧ w = w' := by
  obtain ⟨r, n1, n2⟩ := Fl.nearest_rnd s mag p (p + 1074).toNat (-(p + 1074)).toNat (by omega)
  obtain ⟨q, q1, q2⟩ := Fl.nearest_rnd s mag (p - P) (p - P + 1074).toNat (-(p - P + 1074)).toNat (by omega)
  rw [← hnear] at n1
  rw [← hx] at q1
  have hrgn : Fl.rg near = min r Fl.I := by rw [n1, Fl.rg_wd _ _ (Fl.min_I_lt r)]
  have hrgx : Fl.rg x = min q Fl.I := by rw [q1, Fl.rg_wd _ _ (Fl.min_I_lt q)]
  obtain ⟨_, hrn⟩ := Fl.of_min hrgn hf
  obtain ⟨_, hqx⟩ := Fl.of_min hrgx hxf
  have hsn : Fl.sg near = s := by rw [n1, Fl.sg_wd _ _ (Fl.min_I_lt r)]
  have hsx : Fl.sg x = s := by rw [q1, Fl.sg_wd _ _ (Fl.min_I_lt q)]
  have hnl : near < 2 * Fl.W := by rw [n1]; exact Fl.wd_lt _ _ (Fl.min_I_lt r)
  rw [← hrn] at n2
  rw [← hqx] at q2
  have hw := wrap_half P hP1 hP2
  have htd := tdiv_two P
  clear n1 q1 hrgn hrgx hrn hqx
  -- the answer by what the two differences tell
  have fin : ∀ y c1 c2 : Nat, Fl.sg y = s → Fl.rv (Fl.rg y) * 2 ^ c1 = Fl.rv (Fl.rg near) * 2 ^ c2 → (c2 : Int) - c1 = -P →
      (if compare (Fl.vl x) (Fl.vl y) = .eq then Fl.cmpS s (Fl.cmpR mag (p - P) (Fl.rg x)) else compare (Fl.vl x) (Fl.vl y)) = Fl.cmpS s (Fl.cmpR mag p (Fl.rg near)) := by
    intro y c1 c2 hy e1 e2
    have key := Fl.settle_cmp mag p P (Fl.rg near) (Fl.rg x) (Fl.rg y) c1 c2 _ _ e1 e2 (by omega) q2
    rw [Fl.compare_vl x y s hsx hy, key]
    rcases Nat.lt_trichotomy (Fl.rg x) (Fl.rg y) with h | h | h
    · have hc : compare (Fl.rg x) (Fl.rg y) = Ordering.lt := by rw [Fl.compare_nat, if_pos h]
      have hk : (if Fl.rg y < Fl.rg x then Ordering.gt else if Fl.rg x < Fl.rg y then .lt else Fl.cmpR mag (p - P) (Fl.rg x)) = .lt := by rw [if_neg (by omega), if_pos h]
      rw [hc, hk, if_neg (by rw [Fl.cmpS_eq]; simp)]
    · have hc : compare (Fl.rg x) (Fl.rg y) = Ordering.eq := by rw [Fl.compare_nat, if_neg (by omega), if_pos h]
      have hk : (if Fl.rg y < Fl.rg x then Ordering.gt else if Fl.rg x < Fl.rg y then .lt else Fl.cmpR mag (p - P) (Fl.rg x)) = Fl.cmpR mag (p - P) (Fl.rg x) := by rw [if_neg (by omega), if_neg (by omega)]
      rw [hc, hk, if_pos (by rw [Fl.cmpS_eq])]
    · have hc : compare (Fl.rg x) (Fl.rg y) = Ordering.gt := by rw [Fl.compare_nat, if_neg (by omega), if_neg (by omega)]
      have hk : (if Fl.rg y < Fl.rg x then Ordering.gt else if Fl.rg x < Fl.rg y then .lt else Fl.cmpR mag (p - P) (Fl.rg x)) = .gt := by rw [if_pos h]
      rw [hc, hk, if_neg (by rw [Fl.cmpS_eq]; simp)]
  by_cases h0 : Fl.rg near = 0
  · obtain ⟨d, d1, d2⟩ := Fl.sub_sign x near hnl hxf hf
    have ff := fin near P.toNat (-P).toNat hsn (by rw [h0, Fl.rv_zero, Nat.zero_mul, Nat.zero_mul]) (by omega)
    have main := settle_go near x off P up w hP1 hP2 hnl hf near near d _ hw (by omega) (by omega) (fun w => ldexp_zero near _ w h0) (fun w => ldexp_zero near _ w h0) (fun w => run_float_arith w .sub _ .f64 _ _ _ d1) _ _ d2 oo
    rw [ff] at main
    exact main
  · have hnr := Fl.nE_range (Fl.rg near) (by omega) hf
    have hl := Fl.near_lead mag (Fl.rg near) _ _ p hm (by omega) n2 (by omega)
    obtain ⟨y1, y, e1, e2, e3, e4, e5, e6, e7, e8, c1, c2, e9, e10⟩ := Fl.scl2 near (by omega) P (-(P.tdiv 2)) (by omega) (by omega) (by omega) (by omega)
    obtain ⟨d, d1, d2⟩ := Fl.sub_sign x y e8 hxf e7
    have ff := fin y c1 c2 (e6.trans hsn) e9 e10
    have l1 := fun w => ldexp_fin near (-(P.tdiv 2)) w hnl (by omega) hf (by omega) (by omega)
    have l2 := fun w => ldexp_fin y1 (-P - -(P.tdiv 2)) w e4 e2 e3 (by omega) (by omega)
    rw [← e1] at l1
    rw [← e5] at l2
    have main := settle_go near x off P up w hP1 hP2 hnl hf y1 y d _ hw (by omega) (by omega) l1 l2 (fun w => run_float_arith w .sub _ .f64 _ _ _ d1) _ _ d2 oo
    rw [ff] at main
    exact main
end Go.Proofs.Ytgockebgcbmgoaa

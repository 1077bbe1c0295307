/-
  Plain facts: products with what is not below 0 grow, and roots.
  Plain facts: sums, products and roots to a side grow, the infinities too.
  Plain facts: sums, products and roots to a side grow with what they are made of.
  Plain facts: what the steps tell is the float on that side of the exact number; so it grows with it.
  The walk of edge's Sqrt of finite floats above 0.
-/
import Derived.Test.YtclnmheplecknaaW14
set_option linter.unusedVariables false
set_option linter.unusedSimpArgs false
namespace Go.Proofs.Ytclnmheplecknaa
open Go.RowKit

theorem sqrt_go (a r x q off nq : Nat) (up : Bool) (w : World) (ha : a < 2 * Fl.W) (hf : Fl.rg a < Fl.I) (o1 : FloatKind.f64.format.order a 0 = some .gt) (f : Nat) (i j : Int) (i1 : -2000 ≤ i) (i2 : i ≤ 2000) (od : Bool)
    (hm : ∀ w, Calls Try.prog 116 #[.float .f64 a] w fun e w' => e = .returned (.float .f64 r) ∧ Dr w w')
    (hfr : ∀ w, Calls Try.prog 118 #[.float .f64 a] w fun e w' => e = .returned (.tuple #[.float .f64 f, .int .i64 i]) ∧ w = w')
    (hodd : (Int.tmod i 2 != 0) = od)
    (hdiv : od = true → ∀ w, (binOp .quo 71 (.float .f64 f) (.float .f64 4611686018427387904)).run Try.prog w = .ok (.float .f64 x) w)
    (hnd : od = false → f = x)
    (hq : ∀ w, Calls Try.prog 116 #[.float .f64 x] w fun e w' => e = .returned (.float .f64 q) ∧ Dr w w')
    (hn : ∀ w, (Op.unary .neg (.float .f64 q)).run Try.prog w = .ok (.float .f64 nq) w)
    (hfma : ∀ w, (callFunc 120 #[.float .f64 nq, .float .f64 q, .float .f64 x]).run Try.prog w = .ok (.value (.float .f64 off)) w)
    (hj : Int.tdiv (if od then i + 1 else i) 2 = j) (j1 : -3000 ≤ j) (j2 : j ≤ 3000)
    (s : Nat) (hs : ∀ w, Calls Try.prog 119 #[.float .f64 r, .float .f64 q, .float .f64 off, .int .i64 j, .bool up] w fun e w' => e = .returned (.float .f64 s) ∧ Dr w w') :
    Calls Try.prog 81 #[.float .f64 a, .bool up] w fun e w' => e = .returned (.float .f64 s) ∧ Dr w w' := by
  have HM := Lib.hid hm
  have HFR := Lib.hid hfr
  have HQ := Lib.hid hq
  have HS := Lib.hid hs
  clear hm hfr hq hs
  cases od
  · have hfx := hnd rfl
    subst hfx
    clear hnd hdiv
    simp only [Bool.false_eq_true, if_false] at hj
    go_enter Try.func81, Try.ntmps81
    go_wp2_with fail
    refine (HM.out _).mono ?_
    rintro e w1 ⟨rfl, hd⟩
    have D1 := Lib.hid hd
    clear hd
    go_wp2_with fail
    refine (finite_yes a _ ha hf).mono ?_
    rintro e w' ⟨rfl, rfl⟩
    go_wp2_with fail
    refine (HFR.out _).mono ?_
    rintro e w' ⟨rfl, rfl⟩
    go_wp2_with fail
    refine (HQ.out _).mono ?_
    rintro e w2 ⟨rfl, hd⟩
    have D2 := Lib.hid hd
    clear hd
    go_wp2_with fail
    refine (HS.out _).mono ?_
    rintro e w3 ⟨rfl, hd⟩
    have D3 := Lib.hid hd
    clear hd
    go_wp2
    go_ret
    exact ⟨rfl, (D1.out.trans D2.out).trans D3.out⟩
  · have hdv := hdiv rfl
    clear hnd hdiv
    simp only [if_true] at hj
    go_enter Try.func81, Try.ntmps81
    go_wp2_with fail
    refine (HM.out _).mono ?_
    rintro e w1 ⟨rfl, hd⟩
    have D1 := Lib.hid hd
    clear hd
    go_wp2_with fail
    refine (finite_yes a _ ha hf).mono ?_
    rintro e w' ⟨rfl, rfl⟩
    go_wp2_with fail
    refine (HFR.out _).mono ?_
    rintro e w' ⟨rfl, rfl⟩
    go_wp2_with fail
    refine (HQ.out _).mono ?_
    rintro e w2 ⟨rfl, hd⟩
    have D2 := Lib.hid hd
    clear hd
    go_wp2_with fail
    refine (HS.out _).mono ?_
    rintro e w3 ⟨rfl, hd⟩
    have D3 := Lib.hid hd
    clear hd
    go_wp2
    go_ret
    exact ⟨rfl, (D1.out.trans D2.out).trans D3.out⟩
theorem msqrt_some (x r : Nat) (h : Ieee.double.sqrt x = some r) (w : World) : Calls Try.prog 116 #[.float .f64 x] w fun e w' => e = .returned (.float .f64 r) ∧ Dr w w' := by
  refine (msqrt_any x w).mono ?_
  rintro e w' ⟨s, rfl, hs, hd⟩
  rw [h] at hs
  have : s = r := hs
  subst this
  exact ⟨rfl, hd⟩
theorem Fl.tmod_odd (i : Int) : (Int.tmod i 2 != 0) = decide (i % 2 = 1) := by
  rcases Int.lt_or_le i 0 with h | h
  · have h1 : (-i).tmod 2 = -(i.tmod 2) := Int.neg_tmod ..
    rw [Int.tmod_eq_emod_of_nonneg (by omega)] at h1
    by_cases h2 : i % 2 = 1
    · rw [decide_eq_true h2, bne_iff_ne]; omega
    · rw [decide_eq_false h2, bne_eq_false_iff_eq]; omega
  · rw [Int.tmod_eq_emod_of_nonneg h]
    by_cases h2 : i % 2 = 1
    · rw [decide_eq_true h2, bne_iff_ne]; omega
    · rw [decide_eq_false h2, bne_eq_false_iff_eq]; omega
theorem Fl.tdiv_even (i : Int) (h : i % 2 = 0) : 2 * Int.tdiv i 2 = i := by
  rcases Int.lt_or_le i 0 with h0 | h0
  · have h1 : (-i).tdiv 2 = -(i.tdiv 2) := Int.neg_tdiv ..
    rw [Int.tdiv_eq_ediv_of_nonneg (by omega)] at h1
    omega
  · rw [Int.tdiv_eq_ediv_of_nonneg h0]; omega

theorem sqrt_fine (a : Nat) (up : Bool) (w : World) (ha : a < 2 * Fl.W) (hf : Fl.rg a < Fl.I) (a0 : 0 < Fl.rg a) (hs : Fl.sg a = false) :
    Calls Try.prog 81 #[.float .f64 a, .bool up] w fun e w' => e = .returned (.float .f64 (Fl.sqrtF a up)) ∧ Dr w w' := by
  obtain ⟨q, off, e1, e2, e3, e4, e5, e6, e7⟩ := Fl.sqrt_scaled a _ a0 rfl
  have r1 := Fl.nE_range (Fl.rg a) a0 hf
  have hpar : (Fl.par a : Int) = Fl.nE (Fl.rg a) % 2 := by unfold Fl.par; omega
  have hpl := Fl.par_le a
  have hnl := nearR_lt a
  obtain ⟨g0, g1, g2⟩ := Fl.sM_range a a0
  obtain ⟨j, hj⟩ : ∃ j : Int, j = (Fl.nE (Fl.rg a) - Fl.par a) / 2 - 510 := ⟨_, rfl⟩
  have hP : Fl.pR a - j = -56 := by unfold Fl.pR; omega
  have hmid := Fl.mid_fin false (Fl.sM a) (Fl.pR a) 56 g0 g1 (by unfold Fl.pR; omega) (by unfold Fl.pR; omega)
  have hset : ∀ w, Calls Try.prog 119 #[.float .f64 (Fl.nearR a), .float .f64 q, .float .f64 off, .int .i64 j, .bool up] w fun e w' => e = .returned (.float .f64 (Fl.sqrtF a up)) ∧ Dr w w' := by
    intro w
    refine (settle_side (Fl.nearR a) q off j up w false (Fl.sM a) (Fl.pR a) g0 (by omega) (by omega) rfl hmid.1 (by rw [hP]; exact e2) e4 e5 (by omega) (by omega) (by rw [hP, Fl.cmpS_false]; exact e7)).mono ?_
    rw [Fl.cmpS_false]
    rintro e w' ⟨h1, h2⟩
    exact ⟨h1, h2 ▸ Dr.refl _⟩
  have hodd : (Int.tmod (Fl.fri a) 2 != 0) = decide (Fl.par a = 0) := by
    rw [Fl.tmod_odd]
    unfold Fl.fri
    by_cases h : Fl.par a = 0
    · rw [decide_eq_true h, decide_eq_true (by omega)]
    · rw [decide_eq_false h, decide_eq_false (by omega)]
  refine sqrt_go a (Fl.nearR a) _ q off (Fl.ng q) up w ha hf (Fl.cmp0_gt a a0 (by omega) hs) (Fl.frx a) (Fl.fri a) j (by unfold Fl.fri; omega) (by unfold Fl.fri; omega) (decide (Fl.par a = 0))
    (fun w => msqrt_some a _ (Fl.sqrt_near a hf a0 hs) w) (fun w => frexp_fin a w ha a0 hf) hodd ?_ ?_ (fun w => msqrt_some _ _ e1 w) (fun w => run_neg q e3 w) (fun w => run_fma _ _ _ _ e6 w) ?_ (by omega) (by omega) _ hset
  · intro h
    have h0 : Fl.par a = 0 := of_decide_eq_true h
    intro w
    rw [h0]
    exact run_float_arith w .quo _ .f64 _ _ _ (Fl.half_frx a a0 hs)
  · intro h
    have h0 : ¬ Fl.par a = 0 := of_decide_eq_false h
    have h1 : Fl.par a = 1 := by omega
    rw [h1]
    unfold Fl.frx
    rw [hs]; rfl
  · by_cases h : Fl.par a = 0
    · rw [decide_eq_true h, if_pos rfl]
      have := Fl.tdiv_even (Fl.fri a + 1) (by unfold Fl.fri; omega)
      unfold Fl.fri at *
      omega
    · rw [decide_eq_false h, if_neg (by simp)]
      have := Fl.tdiv_even (Fl.fri a) (by unfold Fl.fri; omega)
      unfold Fl.fri at *
      omega
/-- Sqrt. -/
theorem sqrt_walk (a : Nat) (up : Bool) (w : World) (ha : a < 2 * Fl.W) : Calls Try.prog 81 #[.float .f64 a, .bool up] w (FlPost (Fl.sqrtS a up) w) := by
  unfold Fl.sqrtS
  by_cases h : Fl.rg a < Fl.I ∧ 0 < Fl.rg a ∧ Fl.sg a = false
  · rw [if_pos h]
    exact (sqrt_fine a up w ha h.1 h.2.1 h.2.2).mono fun e w' ⟨h1, h2⟩ => ⟨_, h1, rfl, h2⟩
  · rw [if_neg h]
    exact sqrt_not a up w ha h
end Go.Proofs.Ytclnmheplecknaa

namespace Go.Proofs.Ytclnmheplecknaa
namespace Fl
open Ieee

/-- k is the rung on that side of n / 2^d units. -/
def Dir (up : Bool) (n : Int) (d : Nat) (k : Int) : Prop :=
  if up then n ≤ V k * 2 ^ d ∧ V (k - 1) * 2 ^ d < n else V k * 2 ^ d ≤ n ∧ n < V (k + 1) * 2 ^ d
theorem Dir.mono {up1 up2 : Bool} {n m : Int} {d e : Nat} {k q : Int} (h1 : Dir up1 n d k) (h2 : Dir up2 m e q) (hu : up1 = false ∨ up2 = true) (h : n * 2 ^ e ≤ m * 2 ^ d) : k ≤ q := by
  have pd := pow_pos_int d
  have pe := pow_pos_int e
  unfold Dir at h1 h2
  generalize (2 : Int) ^ d = D at *
  generalize (2 : Int) ^ e = F at *
  have hDF : 0 < D * F := Int.mul_pos pd pe
  -- from a sharp one and a weak one
  have fin : ∀ a b : Int, V a * D ≤ n → m ≤ V b * F → a ≤ b := by
    intro a b ha hb
    have c1 : V a * D * F ≤ n * F := Int.mul_le_mul_of_nonneg_right ha (Int.le_of_lt pe)
    have c2 : m * D ≤ V b * F * D := Int.mul_le_mul_of_nonneg_right hb (Int.le_of_lt pd)
    have c3 : V a * (D * F) ≤ V b * (D * F) := by
      have e1 : V a * (D * F) = V a * D * F := by rw [Int.mul_assoc]
      have e2 : V b * (D * F) = V b * F * D := by rw [Int.mul_comm D F, Int.mul_assoc]
      rw [e1, e2]; omega
    exact V_le_iff.1 (Int.le_of_mul_le_mul_right c3 hDF)
  have finl : ∀ a b : Int, V a * D < n → m ≤ V b * F → a < b := by
    intro a b ha hb
    have c1 : V a * D * F < n * F := Int.mul_lt_mul_of_pos_right ha pe
    have c2 : m * D ≤ V b * F * D := Int.mul_le_mul_of_nonneg_right hb (Int.le_of_lt pd)
    have c3 : V a * (D * F) < V b * (D * F) := by
      have e1 : V a * (D * F) = V a * D * F := by rw [Int.mul_assoc]
      have e2 : V b * (D * F) = V b * F * D := by rw [Int.mul_comm D F, Int.mul_assoc]
      rw [e1, e2]; omega
    exact V_lt_iff.1 (Int.lt_of_mul_lt_mul_right c3 (Int.le_of_lt hDF))
  have finr : ∀ a b : Int, V a * D ≤ n → m < V b * F → a < b := by
    intro a b ha hb
    have c1 : V a * D * F ≤ n * F := Int.mul_le_mul_of_nonneg_right ha (Int.le_of_lt pe)
    have c2 : m * D < V b * F * D := Int.mul_lt_mul_of_pos_right hb pd
    have c3 : V a * (D * F) < V b * (D * F) := by
      have e1 : V a * (D * F) = V a * D * F := by rw [Int.mul_assoc]
      have e2 : V b * (D * F) = V b * F * D := by rw [Int.mul_comm D F, Int.mul_assoc]
      rw [e1, e2]; omega
    exact V_lt_iff.1 (Int.lt_of_mul_lt_mul_right c3 (Int.le_of_lt hDF))
  cases up1
  · rw [if_neg (by simp)] at h1
    cases up2
    · rw [if_neg (by simp)] at h2
      have := finr _ _ h1.1 h2.2; omega
    · rw [if_pos rfl] at h2
      exact fin _ _ h1.1 h2.1
  · rw [if_pos rfl] at h1
    rcases hu with hu | hu
    · cases hu
    · subst hu
      rw [if_pos rfl] at h2
      have := finl _ _ h1.2 h2.1; omega

/-- Cut off at the floats' ends. -/
def clamp (up : Bool) (k : Int) : Int := if up then max (-((I : Int) - 1)) (min I k) else max (-(I : Int)) (min ((I : Int) - 1) k)
theorem clamp_mono {up1 up2 : Bool} {k q : Int} (hu : up1 = false ∨ up2 = true) (h : k ≤ q) : clamp up1 k ≤ clamp up2 q := by
  have hI : (0 : Int) < (I : Int) := by decide
  unfold clamp
  generalize (I : Int) = i at *
  rcases hu with rfl | rfl
  · cases up2 <;> simp only [Bool.false_eq_true, if_false, if_true] <;> omega
  · cases up1 <;> simp only [Bool.false_eq_true, if_false, if_true] <;> omega
/-- w is the float on that side of n / 2^d units. -/
def DirW (up : Bool) (n : Int) (d w : Nat) : Prop := rg w ≤ I ∧ ∃ k, Dir up n d k ∧ key w = clamp up k
theorem DirW.mono {up1 up2 : Bool} {n m : Int} {d e w x : Nat} (h1 : DirW up1 n d w) (h2 : DirW up2 m e x) (hu : up1 = false ∨ up2 = true) (h : n * 2 ^ e ≤ m * 2 ^ d) : key w ≤ key x := by
  obtain ⟨_, k, a1, a2⟩ := h1
  obtain ⟨_, q, b1, b2⟩ := h2
  rw [a2, b2]
  exact clamp_mono hu (a1.mono b1 hu h)
theorem DirW.zero (up : Bool) (d w : Nat) (h : rg w = 0) : DirW up 0 d w := by
  refine ⟨by rw [h]; exact Nat.zero_le _, 0, ?_, ?_⟩
  · have pd := pow_pos_int d
    have e1 : V (0 + 1) = 1 := by decide
    have e2 : V (0 - 1) = -1 := by decide
    unfold Dir
    rw [V_zero, e1, e2]
    generalize (2 : Int) ^ d = D at *
    cases up
    · rw [if_neg (by simp)]; omega
    · rw [if_pos rfl]; omega
  · unfold key clamp; rw [h]
    have hI : (0 : Int) < (I : Int) := by decide
    generalize (I : Int) = i at *
    cases up <;> simp <;> omega
theorem DirW.scale {up : Bool} {n : Int} {d w : Nat} (h : DirW up n d w) (m : Int) (e c1 c2 : Nat) (h1 : n * 2 ^ c1 = m * 2 ^ c2) (h2 : d + c1 = e + c2) : DirW up m e w := by
  obtain ⟨a, k, b, c⟩ := h
  refine ⟨a, k, ?_, c⟩
  have p1 := pow_pos_int c1
  have p2 := pow_pos_int c2
  have key : ∀ v : Int, v * 2 ^ d * 2 ^ c1 = v * 2 ^ e * 2 ^ c2 := fun v => by
    rw [Int.mul_assoc, Int.mul_assoc, ← Int.pow_add, ← Int.pow_add, h2]
  unfold Dir at b ⊢
  cases up
  · rw [if_neg (by simp)] at b ⊢
    constructor
    · refine Int.le_of_mul_le_mul_right ?_ p2
      rw [← key, ← h1]; exact Int.mul_le_mul_of_nonneg_right b.1 (Int.le_of_lt p1)
    · refine Int.lt_of_mul_lt_mul_right ?_ (Int.le_of_lt p2)
      rw [← key, ← h1]; exact Int.mul_lt_mul_of_pos_right b.2 p1
  · rw [if_pos rfl] at b ⊢
    constructor
    · refine Int.le_of_mul_le_mul_right ?_ p2
      rw [← key, ← h1]; exact Int.mul_le_mul_of_nonneg_right b.1 (Int.le_of_lt p1)
    · refine Int.lt_of_mul_lt_mul_right ?_ (Int.le_of_lt p2)
      rw [← key, ← h1]; exact Int.mul_lt_mul_of_pos_right b.2 p1

/-- A size's sign. -/
def sgz (s : Bool) (n : Nat) : Int := if s then -(n : Int) else (n : Int)
theorem V_sgz (s : Bool) (r : Nat) : V (sgz s r) = sgz s (rv r) := by
  unfold sgz
  cases s
  · simp only [Bool.false_eq_true, if_false]; unfold V; rw [if_neg (by omega), Int.toNat_natCast]
  · simp only [if_true]; rw [V_neg]; unfold V; rw [if_neg (by omega), Int.toNat_natCast]
theorem Rnd.between {n d r : Nat} (h : Rnd n d r) : n < rv (r + 1) * 2 ^ d ∧ (0 < r → rv (r - 1) * 2 ^ d < n) := by
  have pd : 0 < 2 ^ d := Nat.two_pow_pos d
  have h1 := rv_lt_succ r
  constructor
  · have h2 := h.hi
    have h3 : rv r * 2 ^ d < rv (r + 1) * 2 ^ d := Nat.mul_lt_mul_of_pos_right h1 pd
    rw [Nat.add_mul] at h2
    omega
  · intro h0
    have h2 := h.lo h0
    have h3 : rv (r - 1) * 2 ^ d < rv r * 2 ^ d := Nat.mul_lt_mul_of_pos_right (rv_mono (by omega)) pd
    rw [Nat.add_mul] at h2
    omega
/-- The rung on a side of a size, by how the size stands to its nearest rung. -/
theorem dir_mag (s up : Bool) (n d r : Nat) (h : Rnd n d r) (h0 : 0 < n) : Dir up (sgz s n) d (sgz s r + (if (cmpS s (compare n (rv r * 2 ^ d)) = .gt ∧ up = true) then 1 else if (cmpS s (compare n (rv r * 2 ^ d)) = .lt ∧ up = false) then -1 else 0)) := by
  obtain ⟨b1, b2⟩ := h.between
  have pd : 0 < 2 ^ d := Nat.two_pow_pos d
  have hr0 : r = 0 → compare n (rv r * 2 ^ d) = .gt := by
    intro hr; subst hr; rw [rv_zero, Nat.zero_mul, compare_nat, if_neg (by omega), if_neg (by omega)]
  have castp : ((2 ^ d : Nat) : Int) = (2 : Int) ^ d := by simp
  have kp : ∀ v : Nat, sgz s v * 2 ^ d = sgz s (v * 2 ^ d) := fun v => by
    unfold sgz; rw [← castp]; cases s
    · simp
    · simp [Int.neg_mul]
  have kr : V (sgz s r) * 2 ^ d = sgz s (rv r * 2 ^ d) := by rw [V_sgz, kp]
  have ku : V (sgz s (r + 1)) * 2 ^ d = sgz s (rv (r + 1) * 2 ^ d) := by rw [V_sgz, kp]
  have kd : V (sgz s (r - 1)) * 2 ^ d = sgz s (rv (r - 1) * 2 ^ d) := by rw [V_sgz, kp]
  have up1 : sgz s (r + 1) = sgz s r + (if s then -1 else 1) := by unfold sgz; cases s <;> simp; omega
  have dn1 : 0 < r → sgz s (r - 1) = sgz s r - (if s then -1 else 1) := by intro h; unfold sgz; cases s <;> simp <;> omega
  -- r = 0: the rung below is the opposite of the one above
  have k1 : r = 0 → V (0 - 1) * 2 ^ d = -(2 : Int) ^ d ∧ V (0 + 1) * 2 ^ d = (2 : Int) ^ d := by
    intro _; rw [show V (0 - 1) = -1 by decide, show V (0 + 1) = 1 by decide]; omega
  have hc : compare n (rv r * 2 ^ d) = if n < rv r * 2 ^ d then .lt else if n = rv r * 2 ^ d then .eq else .gt := rfl
  have pz := pow_pos_int d
  unfold Dir
  rcases Nat.lt_trichotomy n (rv r * 2 ^ d) with hlt | heq | hgt
  · have hr : 0 < r := by
      rcases Nat.eq_zero_or_pos r with h | h
      · have := hr0 h; rw [hc, if_pos hlt] at this; cases this
      · exact h
    have hb := b2 hr
    have hcmp : compare n (rv r * 2 ^ d) = Ordering.lt := by rw [hc, if_pos hlt]
    rw [hcmp]
    have dd := dn1 hr
    cases s
    · simp only [Bool.false_eq_true, if_false] at up1 dd
      cases up
      · simp only [cmpS, Bool.false_eq_true, if_false, and_false, and_true, if_true]
        rw [show sgz false r + -1 = sgz false (r - 1) by omega, kd, show sgz false (r - 1) + 1 = sgz false r by omega, kr]
        unfold sgz; simp only [Bool.false_eq_true, if_false]; omega
      · simp only [cmpS, Bool.false_eq_true, if_false, and_false, and_true, if_true, reduceCtorEq, false_and]
        rw [show sgz false r + 0 = sgz false r by omega, kr, show sgz false r - 1 = sgz false (r - 1) by omega, kd]
        unfold sgz; simp only [Bool.false_eq_true, if_false]; omega
    · simp only [if_true] at up1 dd
      cases up
      · simp only [cmpS, Bool.false_eq_true, if_false, and_false, and_true, if_true, Ordering.swap_lt, reduceCtorEq, false_and]
        rw [show sgz true r + 0 = sgz true r by omega, kr, show sgz true r + 1 = sgz true (r - 1) by omega, kd]
        unfold sgz; simp only [if_true]; omega
      · simp only [cmpS, and_true, if_true, Ordering.swap_lt]
        rw [show sgz true r + 1 = sgz true (r - 1) by omega, kd, show sgz true (r - 1) - 1 = sgz true r by omega, kr]
        unfold sgz; simp only [if_true]; omega
  · have hcmp : compare n (rv r * 2 ^ d) = Ordering.eq := by rw [hc, if_neg (by omega), if_pos heq]
    rw [hcmp]
    have hr : 0 < r := by
      rcases Nat.eq_zero_or_pos r with h | h
      · have := hr0 h; rw [hc, if_neg (by omega), if_pos heq] at this; cases this
      · exact h
    have hb := b2 hr
    have dd := dn1 hr
    have hz : ∀ t : Bool, cmpS t .eq = .eq := fun t => by cases t <;> rfl
    rw [hz]
    simp only [reduceCtorEq, false_and, if_false]
    rw [show sgz s r + 0 = sgz s r by omega, kr]
    cases s
    · simp only [Bool.false_eq_true, if_false] at up1 dd
      rw [show sgz false r + 1 = sgz false (r + 1) by omega, ku, show sgz false r - 1 = sgz false (r - 1) by omega, kd]
      unfold sgz; simp only [Bool.false_eq_true, if_false]
      cases up <;> simp only [Bool.false_eq_true, if_false, if_true] <;> omega
    · simp only [if_true] at up1 dd
      rw [show sgz true r + 1 = sgz true (r - 1) by omega, kd, show sgz true r - 1 = sgz true (r + 1) by omega, ku]
      unfold sgz; simp only [if_true]
      cases up <;> simp only [Bool.false_eq_true, if_false, if_true] <;> omega
  · have hcmp : compare n (rv r * 2 ^ d) = Ordering.gt := by rw [hc, if_neg (by omega), if_neg (by omega)]
    rw [hcmp]
    cases s
    · simp only [Bool.false_eq_true, if_false] at up1
      cases up
      · simp only [cmpS, Bool.false_eq_true, if_false, and_false, and_true, if_true, reduceCtorEq, false_and]
        rw [show sgz false r + 0 = sgz false r by omega, kr, show sgz false r + 1 = sgz false (r + 1) by omega, ku]
        unfold sgz; simp only [Bool.false_eq_true, if_false]; omega
      · simp only [cmpS, Bool.false_eq_true, if_false, and_true, if_true]
        rw [show sgz false r + 1 = sgz false (r + 1) by omega, ku, show sgz false (r + 1) - 1 = sgz false r by omega, kr]
        unfold sgz; simp only [Bool.false_eq_true, if_false]; omega
    · simp only [if_true] at up1
      cases up
      · simp only [cmpS, Bool.false_eq_true, if_false, and_false, and_true, if_true, Ordering.swap_gt]
        rw [show sgz true r + -1 = sgz true (r + 1) by omega, ku, show sgz true (r + 1) + 1 = sgz true r by omega, kr]
        unfold sgz; simp only [if_true]; omega
      · simp only [cmpS, and_true, if_true, Ordering.swap_gt, reduceCtorEq, false_and, and_false, if_false, Bool.true_eq_false]
        rw [show sgz true r + 0 = sgz true r by omega, kr, show sgz true r - 1 = sgz true (r + 1) by omega, ku]
        unfold sgz; simp only [if_true]; omega
end Fl
end Go.Proofs.Ytclnmheplecknaa

namespace Go.Proofs.Ytclnmheplecknaa
namespace Fl
open Ieee

theorem key_sgz (s : Bool) (r : Nat) (h : r < W) : key (wd s r) = sgz s r := by unfold sgz; exact key_wd s r h
theorem sgz_false (n : Nat) : sgz false n = n := rfl
theorem sgz_true (n : Nat) : sgz true n = -(n : Int) := rfl
/-- The step that is taken. -/
def stepD (c : Ordering) (up : Bool) : Int := if (c = .gt ∧ up = true) then 1 else if (c = .lt ∧ up = false) then -1 else 0
theorem stepD_range (c : Ordering) (up : Bool) : -1 ≤ stepD c up ∧ stepD c up ≤ 1 ∧ (up = true → 0 ≤ stepD c up) ∧ (up = false → stepD c up ≤ 0) := by
  unfold stepD; cases c <;> cases up <;> simp
theorem clamp_in (up : Bool) (k : Int) (i : Nat) (hi : i = I) (h1 : up = true → -(i : Int) < k ∧ k ≤ i) (h2 : up = false → -(i : Int) ≤ k ∧ k < i) : clamp up k = k := by
  unfold clamp; rw [← hi]
  cases up
  · have := h2 rfl; simp only [Bool.false_eq_true, if_false]; omega
  · have := h1 rfl; simp only [if_true]; omega
theorem key_side (near : Nat) (c : Ordering) (up : Bool) (hn : near < 2 * W) (h : rg near < I) : key (sideW near c (next near up) up) = key near + stepD c up ∧ rg (sideW near c (next near up) up) ≤ I := by
  obtain ⟨k1, k2⟩ := key_next near up hn (Nat.le_of_lt h) (fun hh => by rw [hh.1] at h; exact absurd h (Nat.lt_irrefl _))
  unfold sideW stepD
  cases up
  · simp only [Bool.false_eq_true, and_false, false_or, if_false] at k1 ⊢
    by_cases hc : c = .lt
    · rw [if_pos ⟨hc, trivial⟩, if_pos ⟨hc, trivial⟩]; exact ⟨k1, k2⟩
    · rw [if_neg (fun x => hc x.1), if_neg (fun x => hc x.1)]; exact ⟨by omega, Nat.le_of_lt h⟩
  · simp only [Bool.true_eq_false, and_false, or_false, and_true, if_true, if_false] at k1 ⊢
    by_cases hc : c = .gt
    · rw [if_pos hc, if_pos hc]; exact ⟨k1, k2⟩
    · rw [if_neg hc, if_neg hc]; exact ⟨by omega, Nat.le_of_lt h⟩
theorem big_rung : (9218868437227405311 : Nat) + 1 = I ∧ 9218868437227405311 < W := by decide
theorem key_great (near : Nat) (up : Bool) (h : rg near = I) : key (greatW near up) = (if up = !sg near then sgz (sg near) I else sgz (sg near) 9218868437227405311) ∧ rg (greatW near up) ≤ I := by
  unfold greatW
  split
  · exact ⟨by unfold key sgz; rw [h], Nat.le_of_eq h⟩
  · exact ⟨key_sgz _ _ big_rung.2, by rw [rg_wd _ _ big_rung.2, ← big_rung.1]; exact Nat.le_succ _⟩
theorem clamp_great (s up : Bool) (r i : Nat) (δ : Int) (hi : i = I) (hr : i ≤ r) (h0 : 0 < i) (d1 : -1 ≤ δ) (d2 : δ ≤ 1) (d3 : up = true → 0 ≤ δ) (d4 : up = false → δ ≤ 0) :
    (if up = !s then sgz s i else sgz s (i - 1)) = clamp up (sgz s r + δ) := by
  unfold clamp; rw [← hi]
  cases s <;> cases up <;> simp [sgz_false, sgz_true] at d3 d4 ⊢ <;> omega
/-- What the steps tell of a number's nearest float is the float on that side. -/
theorem near_dir (s up : Bool) (mag : Nat) (p : Int) (u v : Nat) (h : (u : Int) - v = p + 1074) (hm : 0 < mag) (near : Nat) (hn : near = double.nearest s mag p) :
    DirW up (sgz s (mag * 2 ^ u)) v (if rg near = I then greatW near up else sideW near (cmpS s (cmpR mag p (rg near))) (next near up) up) := by
  obtain ⟨r, e1, e2⟩ := nearest_rnd s mag p u v h
  have hN : 0 < mag * 2 ^ u := Nat.mul_pos hm (Nat.two_pow_pos u)
  have hd := dir_mag s up (mag * 2 ^ u) v r e2 hN
  rw [e1] at hn
  have hrg : rg near = min r I := by rw [hn, rg_wd _ _ (min_I_lt r)]
  have hsg : sg near = s := by rw [hn, sg_wd _ _ (min_I_lt r)]
  have hlt : near < 2 * W := by rw [hn]; exact wd_lt _ _ (min_I_lt r)
  change Dir up _ _ (sgz s r + stepD (cmpS s (compare (mag * 2 ^ u) (rv r * 2 ^ v))) up) at hd
  obtain ⟨d1, d2, d3, d4⟩ := stepD_range (cmpS s (compare (mag * 2 ^ u) (rv r * 2 ^ v))) up
  by_cases hI : rg near = I
  · rw [if_pos hI]
    obtain ⟨k1, k2⟩ := key_great near up hI
    refine ⟨k2, _, hd, ?_⟩
    rw [k1, hsg]
    have hr : I ≤ r := by rw [hI] at hrg; rw [hrg]; exact Nat.min_le_left _ _
    have := clamp_great s up r I (stepD (cmpS s (compare (mag * 2 ^ u) (rv r * 2 ^ v))) up) rfl hr (by decide) d1 d2 d3 d4
    rw [show I - 1 = 9218868437227405311 from rfl] at this
    exact this
  · rw [if_neg hI]
    have hle : rg near ≤ I := by rw [hrg]; exact Nat.min_le_right _ _
    have hf : rg near < I := Nat.lt_of_le_of_ne hle hI
    obtain ⟨hr, hq⟩ := of_min hrg hf
    obtain ⟨k1, k2⟩ := key_side near (cmpS s (cmpR mag p (rg near))) up hlt hf
    refine ⟨k2, _, hd, ?_⟩
    rw [k1, hq, cmpR_scale mag p r u v h]
    have hk : key near = sgz s r := by rw [hn, key_sgz _ _ (min_I_lt r), Nat.min_eq_left (Nat.le_of_lt hr)]
    rw [hk]
    generalize stepD (cmpS s (compare (mag * 2 ^ u) (rv r * 2 ^ v))) up = δ at *
    symm
    have hb : -(r : Int) ≤ sgz s r ∧ sgz s r ≤ r := by unfold sgz; split <;> omega
    generalize sgz s r = z at *
    clear hn k1 k2 hd hrg hq hk e1 e2
    exact clamp_in up _ I rfl (fun hu => by have := d3 hu; generalize I = i at *; omega) (fun hu => by have := d4 hu; generalize I = i at *; omega)
theorem vl_sgz (x : Nat) : vl x = sgz (sg x) (rv (rg x)) := rfl
/-- The sum of finite floats is the float on that side. -/
theorem addF_dir (a b : Nat) (up : Bool) (ha : a < 2 * W) (hb : b < 2 * W) (fa : rg a < I) (fb : rg b < I) : DirW up (vl a + vl b) 0 (addF a b up) := by
  by_cases hz : vl a + vl b = 0
  · rw [hz]
    have e : nearS a b = rnd (sgn2 (sg a) (sg b) 0) 0 := by unfold nearS; rw [hz]; rfl
    have e0 : rg (nearS a b) = 0 := by rw [e, rg_rnd, rr_zero]
    refine DirW.zero up 0 _ ?_
    unfold addF
    rw [e0, if_neg (by decide), if_pos rfl]
    split
    · rename_i h; exact h.1
    · split <;> decide
  · have hm : 0 < (vl a + vl b).natAbs := by omega
    have hnr := near_dir (sgn2 (sg a) (sg b) (vl a + vl b)) up (vl a + vl b).natAbs (-1074) 0 0 (by decide) hm (nearS a b) rfl
    have hs : sgz (sgn2 (sg a) (sg b) (vl a + vl b)) ((vl a + vl b).natAbs * 2 ^ 0) = vl a + vl b := by
      unfold sgz sgn2; rw [if_neg hz, Nat.pow_zero, Nat.mul_one]
      by_cases hn : vl a + vl b < 0
      · rw [if_pos (by simpa using hn)]; omega
      · rw [if_neg (by simpa using hn)]; omega
    rw [hs] at hnr
    unfold addF
    have h0 : ¬ rg (nearS a b) = 0 := by
      unfold nearS; rw [rg_rnd]; have := rr_pos _ hm; omega
    rw [if_neg h0]
    have hc : cmpS (sgn2 (sg a) (sg b) (vl a + vl b)) (cmpR (vl a + vl b).natAbs (-1074) (rg (nearS a b))) = compare (vl a + vl b) (vl (nearS a b)) := by
      have e1 : sg (nearS a b) = sgn2 (sg a) (sg b) (vl a + vl b) := by unfold nearS; rw [sg_rnd]
      rw [cmpR_scale _ _ _ 0 0 (by decide)]
      have e2 : vl (nearS a b) = sgz (sgn2 (sg a) (sg b) (vl a + vl b)) (rv (rg (nearS a b))) := by rw [vl_sgz, e1]
      rw [e2]
      generalize rv (rg (nearS a b)) = t
      unfold sgn2; rw [if_neg hz]
      by_cases hn : vl a + vl b < 0
      · rw [show (decide (vl a + vl b < 0)) = true by simpa using hn]
        unfold cmpS sgz
        simp only [if_true]
        rw [Nat.pow_zero, Nat.mul_one, Nat.mul_one, compare_nat, compare_int]
        split <;> (try split) <;> (try split) <;> (try split) <;> first | rfl | omega | simp <;> omega
      · rw [show (decide (vl a + vl b < 0)) = false by simpa using hn]
        unfold cmpS sgz
        simp only [Bool.false_eq_true, if_false]
        rw [Nat.pow_zero, Nat.mul_one, Nat.mul_one, compare_nat, compare_int]
        split <;> (try split) <;> (try split) <;> (try split) <;> first | rfl | omega | simp <;> omega
    rw [hc] at hnr
    exact hnr
theorem sgz_mul (s t : Bool) (m n : Nat) : sgz s m * sgz t n = sgz (s ^^ t) (m * n) := by
  unfold sgz; cases s <;> cases t <;> simp [Int.neg_mul, Int.mul_neg]
theorem alg_mul (m n D F P Q : Nat) : m * D * (n * F) * (P * Q) = m * P * (n * Q) * (D * F) := by grind
theorem mul_pow4 (r1 m1 r2 m2 a1 a2 b1 b2 : Nat) (h1 : r1 * 2 ^ a1 = m1 * 2 ^ a2) (h2 : r2 * 2 ^ b1 = m2 * 2 ^ b2) : r1 * r2 * 2 ^ (a1 + b1) = m1 * m2 * 2 ^ (a2 + b2) := by
  rw [Nat.pow_add, Nat.pow_add]
  generalize 2 ^ a1 = A at *; generalize 2 ^ a2 = C at *; generalize 2 ^ b1 = D at *; generalize 2 ^ b2 = F at *
  calc r1 * r2 * (A * D) = (r1 * A) * (r2 * D) := by grind
    _ = (m1 * C) * (m2 * F) := by rw [h1, h2]
    _ = _ := by grind
/-- The product of finite floats is the float on that side. -/
theorem mulS_dir (a b : Nat) (up : Bool) (fa : rg a < I) (fb : rg b < I) : ∃ r, mulS a b up = some r ∧ DirW up (vl a * vl b) E r := by
  by_cases h0 : 0 < rg a ∧ 0 < rg b
  · refine ⟨mulF a b up, by unfold mulS; rw [if_pos ⟨fa, fb, h0.1, h0.2⟩], ?_⟩
    obtain ⟨a0, b0⟩ := h0
    obtain ⟨a1, a2, ha, ea⟩ := rv_norm (rg a) a0
    obtain ⟨b1, b2, hb, eb⟩ := rv_norm (rg b) b0
    have hp := mul_pow4 _ _ _ _ _ _ _ _ ha hb
    have hm : 0 < mM a b := Nat.pos_of_ne_zero (mM_log2 a b a0 b0).1
    have hpe : ((a2 : Int) + b2) - (a1 + b1) = pM a b + 2148 := by unfold pM; omega
    -- places: u - v = pM + 1074
    have hE : (E : Int) = 1074 := by rw [E_eq]; rfl
    have hnr := near_dir (sg a ^^ sg b) up (mM a b) (pM a b) (a2 + b2) (a1 + b1 + E) (by omega) hm (nearM a b) rfl
    change DirW up _ _ (mulF a b up) at hnr
    rw [vl_sgz, vl_sgz, sgz_mul]
    refine hnr.scale _ _ 0 (a1 + b1) ?_ (by omega)
    have castp : ((2 ^ (a1 + b1) : Nat) : Int) = (2 : Int) ^ (a1 + b1) := by simp
    rw [Int.pow_zero, Int.mul_one, show mM a b = nM (rg a) * nM (rg b) from rfl, ← hp, ← castp]
    generalize 2 ^ (a1 + b1) = P
    generalize rv (rg a) * rv (rg b) = X
    unfold sgz; split <;> simp [Int.neg_mul]
  · have hz : mant (rg a) * mant (rg b) = 0 := by
      rcases Nat.eq_zero_or_pos (rg a) with h | h
      · rw [h, show mant 0 = 0 by decide, Nat.zero_mul]
      · rcases Nat.eq_zero_or_pos (rg b) with h2 | h2
        · rw [h2, show mant 0 = 0 by decide, Nat.mul_zero]
        · exact absurd ⟨h, h2⟩ h0
    have hv : vl a * vl b = 0 := by
      rw [vl_sgz, vl_sgz, sgz_mul]
      have : rv (rg a) * rv (rg b) = 0 := by
        rcases Nat.eq_zero_or_pos (rg a) with h | h
        · rw [h, rv_zero, Nat.zero_mul]
        · rcases Nat.eq_zero_or_pos (rg b) with h2 | h2
          · rw [h2, rv_zero, Nat.mul_zero]
          · exact absurd ⟨h, h2⟩ h0
      rw [this]; unfold sgz; split <;> rfl
    refine ⟨_, by unfold mulS; rw [if_neg (fun h => h0 h.2.2)]; exact mul_fin a b fa fb, ?_⟩
    rw [hz, hv]
    refine DirW.zero up E _ ?_
    have hq := nearest_congr (sg a ^^ sg b) 0 0 (pl a + pl b) (-1074) 0 0 rfl
    obtain ⟨r, e1, e2⟩ := nearest_rnd (sg a ^^ sg b) 0 (pl a + pl b) (pl a + pl b + 1074).toNat (-(pl a + pl b + 1074)).toNat (by omega)
    rw [Nat.zero_mul] at e2
    have hr : r = 0 := by
      have h1 := Rnd.exact 0 (-(pl a + pl b + 1074)).toNat
      rw [rv_zero, Nat.zero_mul] at h1
      exact e2.eq h1
    rw [e1, rg_wd _ _ (min_I_lt r), hr, Nat.zero_min]
end Fl
end Go.Proofs.Ytclnmheplecknaa

namespace Go.Proofs.Ytclnmheplecknaa
namespace Fl
open Ieee

/-- An infinity. -/
def Inf (s : Bool) (x : Nat) : Prop := rg x = I ∧ sg x = s
/-- x is not above y (or one is a NaN). -/
def NGt (x y : Nat) : Prop := I < rg x ∨ I < rg y ∨ (rg x ≤ I ∧ rg y ≤ I ∧ key x ≤ key y)
theorem key_of (x : Nat) : key x = sgz (sg x) (rg x) := rfl
theorem Inf.le_true {x : Nat} (h : Inf true x) (k : Int) (hk : -(I : Int) ≤ k) : key x ≤ k := by
  rw [key_of, h.1, h.2, sgz_true]; exact hk
theorem Inf.le_false {x : Nat} (h : Inf false x) (k : Int) (hk : k ≤ (I : Int)) : k ≤ key x := by
  rw [key_of, h.1, h.2, sgz_false]; exact hk
theorem key_range {x : Nat} (h : rg x ≤ I) : -(I : Int) ≤ key x ∧ key x ≤ (I : Int) := by
  rw [key_of]; unfold sgz; generalize I = i at *; split <;> omega
theorem key_fin_range {x : Nat} (h : rg x < I) : -(I : Int) < key x ∧ key x < (I : Int) := by
  rw [key_of]; unfold sgz; generalize I = i at *; split <;> omega
theorem I_pos : 0 < I := by decide
theorem Inf.up {a b : Nat} (h : Inf false a) (hb : rg b ≤ I) (hab : key a ≤ key b) : Inf false b := by
  have h1 := h.le_false (I : Int) (Int.le_refl _)
  have h2 := I_pos
  unfold Inf
  have h3 := key_of b
  generalize I = i at *
  unfold sgz at h3
  cases hs : sg b
  · rw [hs] at h3; simp only [Bool.false_eq_true, if_false] at h3; exact ⟨by omega, rfl⟩
  · rw [hs] at h3; simp only [if_true] at h3; omega
theorem Inf.down {a b : Nat} (h : Inf true b) (ha : rg a ≤ I) (hab : key a ≤ key b) : Inf true a := by
  have h1 := h.le_true (-(I : Int)) (Int.le_refl _)
  have h2 := I_pos
  unfold Inf
  have h3 := key_of a
  generalize I = i at *
  unfold sgz at h3
  cases hs : sg a
  · rw [hs] at h3; simp only [Bool.false_eq_true, if_false] at h3; omega
  · rw [hs] at h3; simp only [if_true] at h3; exact ⟨by omega, rfl⟩
theorem write_inf (s : Bool) : double.write (.infinity s) = wd s I := by
  show double.word s double.infRung = _
  rw [word_eq, dI]
theorem Inf_wd (s : Bool) : Inf s (wd s I) := ⟨rg_wd _ _ I_lt_W, sg_wd _ _ I_lt_W⟩
theorem fin_not_inf {a : Nat} (h : rg a < I) (s : Bool) : ¬ Inf s a := fun hh => absurd hh.1 (Nat.ne_of_lt h)
theorem three (a : Nat) : rg a < I ∨ rg a = I ∨ I < rg a := Nat.lt_trichotomy _ _

theorem addS_cases {a c x : Nat} {up : Bool} (ha : a < 2 * W) (hc : c < 2 * W) (h : Is (addS a c up) x) :
    I < rg x ∨ (rg x ≤ I ∧ rg a ≤ I ∧ rg c ≤ I ∧ ((rg a < I ∧ rg c < I ∧ DirW up (vl a + vl c) 0 x) ∨ (∃ s, Inf s x ∧ (Inf s a ∨ Inf s c) ∧ ¬ Inf (!s) a ∧ ¬ Inf (!s) c))) := by
  by_cases hf : rg a < I ∧ rg c < I
  · unfold addS at h; rw [if_pos hf] at h
    have hx : x = addF a c up := h
    have hd := addF_dir a c up ha hc hf.1 hf.2
    rw [← hx] at hd
    exact .inr ⟨hd.1, Nat.le_of_lt hf.1, Nat.le_of_lt hf.2, .inl ⟨hf.1, hf.2, hd⟩⟩
  · unfold addS at h; rw [if_neg hf] at h
    unfold Format.add at h
    have nn : ∀ s : Bool, ¬ (!s) = s := fun s => by cases s <;> decide
    rcases three a with h1 | h1 | h1 <;> rcases three c with h2 | h2 | h2
    · exact absurd ⟨h1, h2⟩ hf
    · rw [read_fin a h1, read_inf c h2] at h
      have hx : x = double.write (.infinity (sg c)) := h
      rw [write_inf] at hx
      subst hx
      exact .inr ⟨Nat.le_of_eq (Inf_wd _).1, Nat.le_of_lt h1, Nat.le_of_eq h2, .inr ⟨sg c, Inf_wd _, .inr ⟨h2, rfl⟩, fin_not_inf h1 _, fun hh => nn _ hh.2.symm⟩⟩
    · rw [read_nan c h2] at h; unfold Datum.sum at h; cases hr : double.read a <;> rw [hr] at h <;> exact .inl h.1
    · rw [read_inf a h1, read_fin c h2] at h
      have hx : x = double.write (.infinity (sg a)) := h
      rw [write_inf] at hx
      subst hx
      exact .inr ⟨Nat.le_of_eq (Inf_wd _).1, Nat.le_of_eq h1, Nat.le_of_lt h2, .inr ⟨sg a, Inf_wd _, .inl ⟨h1, rfl⟩, fun hh => nn _ hh.2.symm, fin_not_inf h2 _⟩⟩
    · rw [read_inf a h1, read_inf c h2] at h
      simp only [Datum.sum] at h
      by_cases hs : sg a = sg c
      · rw [if_pos hs] at h
        have hx : x = double.write (.infinity (sg a)) := h
        rw [write_inf] at hx
        subst hx
        exact .inr ⟨Nat.le_of_eq (Inf_wd _).1, Nat.le_of_eq h1, Nat.le_of_eq h2, .inr ⟨sg a, Inf_wd _, .inl ⟨h1, rfl⟩, fun hh => nn _ hh.2.symm, fun hh => nn _ (hh.2.symm.trans hs.symm)⟩⟩
      · rw [if_neg hs] at h
        exact .inl h.1
    · rw [read_nan c h2] at h; unfold Datum.sum at h; cases hr : double.read a <;> rw [hr] at h <;> exact .inl h.1
    · rw [read_nan a h1] at h; unfold Datum.sum at h; cases hr : double.read c <;> rw [hr] at h <;> exact .inl h.1
    · rw [read_nan a h1] at h; unfold Datum.sum at h; cases hr : double.read c <;> rw [hr] at h <;> exact .inl h.1
    · rw [read_nan a h1] at h; unfold Datum.sum at h; cases hr : double.read c <;> rw [hr] at h <;> exact .inl h.1
/-- Sums grow. -/
theorem add_grow {a b c x y : Nat} {up1 up2 : Bool} (ha : a < 2 * W) (hb : b < 2 * W) (hc : c < 2 * W) (hu : up1 = false ∨ up2 = true) (h1 : Is (addS a c up1) x) (h2 : Is (addS b c up2) y) (hab : NGt a b) : NGt x y := by
  rcases addS_cases ha hc h1 with n1 | ⟨x1, a1, c1, k1⟩
  · exact .inl n1
  rcases addS_cases hb hc h2 with n2 | ⟨x2, b1, c2, k2⟩
  · exact .inr (.inl n2)
  have hk : key a ≤ key b := by
    rcases hab with h | h | h
    · exact absurd h (Nat.not_lt.2 a1)
    · exact absurd h (Nat.not_lt.2 b1)
    · exact h.2.2
  refine .inr (.inr ⟨x1, x2, ?_⟩)
  rcases k1 with ⟨fa, fc, d1⟩ | ⟨s, i1, i2, i3, i4⟩
  · rcases k2 with ⟨fb, _, d2⟩ | ⟨t, j1, j2, j3, j4⟩
    · refine d1.mono d2 hu ?_
      have := V_le hk
      rw [← vl_key, ← vl_key] at this
      simp only [Int.pow_zero, Int.mul_one]
      exact Int.add_le_add_right this _
    · cases t
      · exact j1.le_false _ (key_range x1).2
      · rcases j2 with j2 | j2
        · exact absurd (j2.down a1 hk) (fin_not_inf fa _)
        · exact absurd j2 (fin_not_inf fc _)
  · cases s
    · rcases k2 with ⟨fb, fc, d2⟩ | ⟨t, j1, j2, j3, j4⟩
      · rcases i2 with i2 | i2
        · exact absurd (i2.up b1 hk) (fin_not_inf fb _)
        · exact absurd i2 (fin_not_inf fc _)
      · cases t
        · exact j1.le_false _ (key_range x1).2
        · rcases j2 with j2 | j2
          · exact absurd (j2.down a1 hk) i3
          · exact absurd j2 i4
    · exact i1.le_true _ (key_range x2).1
end Fl
end Go.Proofs.Ytclnmheplecknaa

namespace Go.Proofs.Ytclnmheplecknaa
namespace Fl
open Ieee

theorem mant_zero {r : Nat} (h : mant r = 0) : r = 0 := by
  have h1 := ex_mant r
  rcases mant_ge r with h2 | h2
  · rw [h, h2, Nat.zero_mul] at h1; exact h1
  · rw [h] at h2; exact absurd h2 (by decide)
theorem mulS_cases {a c x : Nat} {up : Bool} (h : Is (mulS a c up) x) :
    I < rg x ∨ (rg x ≤ I ∧ rg a ≤ I ∧ rg c ≤ I ∧ ((rg a < I ∧ rg c < I ∧ DirW up (vl a * vl c) E x) ∨ (Inf (sg a ^^ sg c) x ∧ (rg a = I ∨ rg c = I) ∧ 0 < rg a ∧ 0 < rg c))) := by
  by_cases hf : rg a < I ∧ rg c < I
  · obtain ⟨r, e1, e2⟩ := mulS_dir a c up hf.1 hf.2
    rw [e1] at h
    have hx : x = r := h
    subst hx
    exact .inr ⟨e2.1, Nat.le_of_lt hf.1, Nat.le_of_lt hf.2, .inl ⟨hf.1, hf.2, e2⟩⟩
  · unfold mulS at h; rw [if_neg (fun hh => hf ⟨hh.1, hh.2.1⟩)] at h
    unfold Format.mul at h
    have fin : ∀ s, x = double.write (.infinity s) → Inf s x := fun s hx => by rw [write_inf] at hx; subst hx; exact Inf_wd s
    rcases three a with h1 | h1 | h1 <;> rcases three c with h2 | h2 | h2
    · exact absurd ⟨h1, h2⟩ hf
    · rw [read_fin a h1, read_inf c h2] at h
      simp only [Datum.product] at h
      by_cases hz : mant (rg a) = 0
      · rw [if_pos hz] at h; exact .inl h.1
      · rw [if_neg hz] at h
        have hx : x = double.write (.infinity (sg c ^^ sg a)) := h
        have hi := fin _ hx
        rw [Bool.xor_comm] at hi
        refine .inr ⟨Nat.le_of_eq hi.1, Nat.le_of_lt h1, Nat.le_of_eq h2, .inr ⟨hi, .inr h2, ?_, by rw [h2]; exact I_pos⟩⟩
        exact Nat.pos_of_ne_zero (fun hh => hz (by rw [hh]; decide))
    · rw [read_nan c h2] at h; unfold Datum.product at h; cases hr : double.read a <;> rw [hr] at h <;> exact .inl h.1
    · rw [read_inf a h1, read_fin c h2] at h
      simp only [Datum.product] at h
      by_cases hz : mant (rg c) = 0
      · rw [if_pos hz] at h; exact .inl h.1
      · rw [if_neg hz] at h
        have hx : x = double.write (.infinity (sg a ^^ sg c)) := h
        have hi := fin _ hx
        refine .inr ⟨Nat.le_of_eq hi.1, Nat.le_of_eq h1, Nat.le_of_lt h2, .inr ⟨hi, .inl h1, by rw [h1]; exact I_pos, ?_⟩⟩
        exact Nat.pos_of_ne_zero (fun hh => hz (by rw [hh]; decide))
    · rw [read_inf a h1, read_inf c h2] at h
      have hx : x = double.write (.infinity (sg a ^^ sg c)) := h
      have hi := fin _ hx
      exact .inr ⟨Nat.le_of_eq hi.1, Nat.le_of_eq h1, Nat.le_of_eq h2, .inr ⟨hi, .inl h1, by rw [h1]; exact I_pos, by rw [h2]; exact I_pos⟩⟩
    · rw [read_nan c h2] at h; unfold Datum.product at h; cases hr : double.read a <;> rw [hr] at h <;> exact .inl h.1
    · rw [read_nan a h1] at h; unfold Datum.product at h; cases hr : double.read c <;> rw [hr] at h <;> exact .inl h.1
    · rw [read_nan a h1] at h; unfold Datum.product at h; cases hr : double.read c <;> rw [hr] at h <;> exact .inl h.1
    · rw [read_nan a h1] at h; unfold Datum.product at h; cases hr : double.read c <;> rw [hr] at h <;> exact .inl h.1
theorem sg_of_key {a b : Nat} (hk : key a ≤ key b) (h : sg a = false) (ha : 0 < rg a) : sg b = false := by
  rw [key_of, key_of, h, sgz_false] at hk
  cases hs : sg b
  · rfl
  · rw [hs, sgz_true] at hk; omega
/-- Products with what is not below 0 grow. -/
theorem mul_grow {a b c x y : Nat} {up1 up2 : Bool} (hu : up1 = false ∨ up2 = true) (h1 : Is (mulS a c up1) x) (h2 : Is (mulS b c up2) y) (hab : NGt a b) (hc : rg c ≤ I → 0 ≤ key c) : NGt x y := by
  rcases mulS_cases h1 with n1 | ⟨x1, a1, c1, k1⟩
  · exact .inl n1
  rcases mulS_cases h2 with n2 | ⟨x2, b1, c2, k2⟩
  · exact .inr (.inl n2)
  have hk : key a ≤ key b := by
    rcases hab with h | h | h
    · exact absurd h (Nat.not_lt.2 a1)
    · exact absurd h (Nat.not_lt.2 b1)
    · exact h.2.2
  have hc0 := hc c1
  have sc : 0 < rg c → sg c = false := fun h => by
    cases hs : sg c
    · rfl
    · rw [key_of, hs, sgz_true] at hc0; omega
  refine .inr (.inr ⟨x1, x2, ?_⟩)
  rcases k1 with ⟨fa, fc, d1⟩ | ⟨i1, i2, i3, i4⟩
  · rcases k2 with ⟨fb, _, d2⟩ | ⟨j1, j2, j3, j4⟩
    · refine d1.mono d2 hu ?_
      have h3 := V_le hk
      rw [← vl_key, ← vl_key] at h3
      have h4 := V_le hc0
      rw [← vl_key, V_zero] at h4
      exact Int.mul_le_mul_of_nonneg_right (Int.mul_le_mul_of_nonneg_right h3 h4) (Int.le_of_lt (pow_pos_int E))
    · rw [sc j4, Bool.xor_false] at j1
      cases hs : sg b
      · rw [hs] at j1; exact j1.le_false _ (key_range x1).2
      · rcases j2 with j2 | j2
        · exact absurd ((show Inf true b from ⟨j2, hs⟩).down a1 hk) (fin_not_inf fa _)
        · exact absurd j2 (Nat.ne_of_lt fc)
  · rw [sc i4, Bool.xor_false] at i1
    cases hs : sg a
    · have hb : sg b = false := sg_of_key hk hs i3
      rcases k2 with ⟨fb, fc, d2⟩ | ⟨j1, j2, j3, j4⟩
      · rcases i2 with i2 | i2
        · exact absurd ((show Inf false a from ⟨i2, hs⟩).up b1 hk) (fin_not_inf fb _)
        · exact absurd i2 (Nat.ne_of_lt fc)
      · rw [sc j4, Bool.xor_false, hb] at j1; exact j1.le_false _ (key_range x1).2
    · rw [hs] at i1; exact i1.le_true _ (key_range x2).1

/-! ### roots -/
theorem pR_low (a : Nat) (h0 : 0 < rg a) (h : rg a < I) : -1000 ≤ pR a := by
  have := nE_range (rg a) h0 h; unfold pR par; omega
/-- A root in units, cut with a digit more. -/
def sqN (a : Nat) : Nat := if rg a = 0 then 0 else sM a * 2 ^ (pR a + 1074).toNat
theorem sqrtF_dir (a : Nat) (up : Bool) (h0 : 0 < rg a) (h : rg a < I) (hs : sg a = false) : DirW up (sqN a) 0 (sqrtF a up) := by
  have hp := pR_low a h0 h
  have hnr := near_dir false up (sM a) (pR a) (pR a + 1074).toNat 0 (by omega) (Nat.pos_of_ne_zero (sM_range a h0).1) (nearR a) rfl
  have hf : rg (nearR a) < I := by
    refine (mid_fin false (sM a) (pR a) 56 (sM_range a h0).1 (sM_range a h0).2.1 ?_ ?_).1
    · have := nE_range (rg a) h0 h; unfold pR par; omega
    · omega
  rw [if_neg (Nat.ne_of_lt hf), cmpS_false, sgz_false] at hnr
  unfold sqN; rw [if_neg (Nat.ne_of_gt h0)]
  exact hnr
theorem isq_mono {n m : Nat} (h : n ≤ m) : isq n ≤ isq m := by
  obtain ⟨a1, a2⟩ := isq_spec n
  obtain ⟨b1, b2⟩ := isq_spec m
  rcases Nat.lt_or_ge (isq m) (isq n) with h1 | h1
  · have := Nat.mul_le_mul (show isq m + 1 ≤ isq n from h1) (show isq m + 1 ≤ isq n from h1); omega
  · exact h1
theorem stickR_mono {n m : Nat} (h : n ≤ m) : stickR n ≤ stickR m := by
  have h1 := isq_mono h
  obtain ⟨a1, a2⟩ := isq_spec n
  obtain ⟨b1, b2⟩ := isq_spec m
  unfold stickR
  have t1 : (isq n * isq n != n).toNat ≤ 1 := by cases (isq n * isq n != n) <;> decide
  rcases Nat.lt_or_ge (isq n) (isq m) with h2 | h2
  · omega
  · have e : isq n = isq m := by omega
    rw [e] at a1 a2 t1 ⊢
    by_cases hm : isq m * isq m = m
    · have : n = m := by omega
      rw [this]; exact Nat.le_refl _
    · have e2 : (isq m * isq m != m) = true := by simpa using hm
      rw [e2]; have : true.toNat = 1 := rfl
      omega
theorem norm_mono {r q : Nat} (h0 : 0 < r) (h1 : 0 < q) (hr : r < I) (hq : q < I) (h : r ≤ q) : nE r < nE q ∨ (nE r = nE q ∧ nM r ≤ nM q) := by
  have l1 := rv_le h
  obtain ⟨c1, c2, e1, e2⟩ := rv_norm r h0
  obtain ⟨d1, d2, g1, g2⟩ := rv_norm q h1
  obtain ⟨m1, m2⟩ := nM_range r h0
  obtain ⟨n1, n2⟩ := nM_range q h1
  -- nM r 2^(c2+d1) = rv r 2^(c1+d1) ≤ rv q 2^(c1+d1) = nM q 2^(d2+c1)
  have l2 : nM r * 2 ^ (c2 + d1) ≤ nM q * 2 ^ (d2 + c1) := by
    rw [Nat.pow_add, Nat.pow_add, ← Nat.mul_assoc, ← Nat.mul_assoc, ← e1, ← g1, Nat.mul_assoc, Nat.mul_assoc, Nat.mul_comm (2 ^ d1)]
    exact Nat.mul_le_mul_right _ l1
  rcases Int.lt_trichotomy (nE r) (nE q) with h2 | h2 | h2
  · exact .inl h2
  · refine .inr ⟨h2, ?_⟩
    rw [show d2 + c1 = c2 + d1 by omega] at l2
    exact Nat.le_of_mul_le_mul_right l2 (Nat.two_pow_pos _)
  · obtain ⟨k, hk⟩ : ∃ k, c2 + d1 = (d2 + c1) + (k + 1) := ⟨c2 + d1 - (d2 + c1) - 1, by omega⟩
    rw [hk, Nat.pow_add _ (d2 + c1), Nat.mul_comm (2 ^ (d2 + c1)), ← Nat.mul_assoc] at l2
    have l3 := Nat.le_of_mul_le_mul_right l2 (Nat.two_pow_pos _)
    have l4 : nM r * 2 ≤ nM r * 2 ^ (k + 1) := by
      refine Nat.mul_le_mul_left _ ?_
      rw [Nat.pow_succ]; have := Nat.two_pow_pos k; omega
    exfalso
    generalize B = b at *
    omega
theorem sqN_mono {a b : Nat} (ha : rg a < I) (hb : rg b < I) (h : rg a ≤ rg b) : sqN a ≤ sqN b := by
  unfold sqN
  by_cases h0 : rg a = 0
  · rw [if_pos h0]; exact Nat.zero_le _
  · rw [if_neg h0, if_neg (by omega)]
    have a0 : 0 < rg a := by omega
    have b0 : 0 < rg b := by omega
    have pa := pR_low a a0 ha
    have pb := pR_low b b0 hb
    obtain ⟨ma1, ma2, ma3⟩ := sM_range a a0
    obtain ⟨mb1, mb2, mb3⟩ := sM_range b b0
    have mb4 : 2 ^ 55 ≤ sM b := by rw [← mb3]; exact Nat.log2_self_le mb1
    have hn := norm_mono a0 b0 ha hb h
    have hple : pR a ≤ pR b := by unfold pR par; omega
    rcases Int.lt_or_eq_of_le hple with hlt | heq
    · obtain ⟨k, hk⟩ : ∃ k, (pR b + 1074).toNat = (pR a + 1074).toNat + (k + 1) := ⟨(pR b + 1074).toNat - (pR a + 1074).toNat - 1, by omega⟩
      rw [hk, Nat.pow_add, Nat.mul_comm (2 ^ _) (2 ^ (k + 1)), ← Nat.mul_assoc]
      refine Nat.mul_le_mul_right _ ?_
      have l4 : sM b * 2 ≤ sM b * 2 ^ (k + 1) := by
        refine Nat.mul_le_mul_left _ ?_
        rw [Nat.pow_succ]; have := Nat.two_pow_pos k; omega
      omega
    · rw [heq]
      refine Nat.mul_le_mul_right _ ?_
      unfold sM
      refine stickR_mono ?_
      unfold sN
      obtain ⟨m1, m2⟩ := nM_range (rg a) a0
      obtain ⟨n1, n2⟩ := nM_range (rg b) b0
      rcases hn with h2 | ⟨h2, h3⟩
      · have hp : par b = par a + 1 := by unfold pR par at heq; unfold par; omega
        rw [hp, show 56 + (par a + 1) = (56 + par a) + 1 by omega, Nat.pow_succ, Nat.mul_comm (2 ^ _) 2, ← Nat.mul_assoc]
        refine Nat.mul_le_mul_right _ ?_
        generalize B = w at *
        omega
      · have hp : par b = par a := by unfold par; rw [h2]
        rw [hp]; exact Nat.mul_le_mul_right _ h3
theorem sqrtS_cases {a x : Nat} {up : Bool} (h : Is (sqrtS a up) x) :
    I < rg x ∨ (rg x ≤ I ∧ rg a ≤ I ∧ (sg a = false ∨ rg a = 0) ∧ ((rg a < I ∧ DirW up (sqN a) 0 x) ∨ (Inf false a ∧ Inf false x))) := by
  by_cases hf : rg a < I ∧ 0 < rg a ∧ sg a = false
  · unfold sqrtS at h; rw [if_pos hf] at h
    have hx : x = sqrtF a up := h
    have hd := sqrtF_dir a up hf.2.1 hf.1 hf.2.2
    rw [← hx] at hd
    exact .inr ⟨hd.1, Nat.le_of_lt hf.1, .inl hf.2.2, .inl ⟨hf.1, hd⟩⟩
  · unfold sqrtS at h; rw [if_neg hf] at h
    unfold Format.sqrt at h
    rcases three a with h1 | h1 | h1
    · rw [read_fin a h1] at h
      unfold Datum.root at h
      dsimp only at h
      by_cases h0 : rg a = 0
      · rw [if_pos (by rw [h0]; decide)] at h
        have hx : x = double.nearest (sg a) (mant (rg a)) (-1074 + (ex (rg a) : Nat)) := h
        rw [h0, show mant 0 = 0 by decide, show ex 0 = 0 by decide] at hx
        have hr : rg x = 0 := by
          rw [hx]; show rg (rnd (sg a) 0) = 0
          rw [rg_rnd, rr_zero]
        refine .inr ⟨by rw [hr]; exact Nat.zero_le _, Nat.le_of_lt h1, .inr h0, .inl ⟨h1, ?_⟩⟩
        have hz : sqN a = 0 := by unfold sqN; rw [if_pos h0]
        rw [hz]; exact DirW.zero up 0 x hr
      · have hs : sg a = true := by
          cases hs : sg a
          · exact absurd ⟨h1, Nat.pos_of_ne_zero h0, hs⟩ hf
          · rfl
        rw [if_neg (fun hh => h0 (mant_zero hh)), hs, if_pos rfl] at h
        exact .inl h.1
    · rw [read_inf a h1] at h
      simp only [Datum.root] at h
      cases hs : sg a
      · rw [hs, if_neg (by simp)] at h
        have hx : x = double.write (.infinity false) := h
        rw [write_inf] at hx
        subst hx
        exact .inr ⟨Nat.le_of_eq (Inf_wd _).1, Nat.le_of_eq h1, .inl rfl, .inr ⟨⟨h1, hs⟩, Inf_wd _⟩⟩
      · rw [hs, if_pos rfl] at h; exact .inl h.1
    · rw [read_nan a h1] at h; exact .inl h.1
/-- Roots grow. -/
theorem sqrt_grow {a b x y : Nat} {up1 up2 : Bool} (hu : up1 = false ∨ up2 = true) (h1 : Is (sqrtS a up1) x) (h2 : Is (sqrtS b up2) y) (hab : NGt a b) : NGt x y := by
  rcases sqrtS_cases h1 with n1 | ⟨x1, a1, s1, k1⟩
  · exact .inl n1
  rcases sqrtS_cases h2 with n2 | ⟨x2, b1, s2, k2⟩
  · exact .inr (.inl n2)
  have hk : key a ≤ key b := by
    rcases hab with h | h | h
    · exact absurd h (Nat.not_lt.2 a1)
    · exact absurd h (Nat.not_lt.2 b1)
    · exact h.2.2
  refine .inr (.inr ⟨x1, x2, ?_⟩)
  rcases k1 with ⟨fa, d1⟩ | ⟨i1, i2⟩
  · rcases k2 with ⟨fb, d2⟩ | ⟨j1, j2⟩
    · refine d1.mono d2 hu ?_
      simp only [Int.pow_zero, Int.mul_one]
      have hr : rg a ≤ rg b := by
        rw [key_of, key_of] at hk
        unfold sgz at hk
        rcases s1 with s1 | s1 <;> rcases s2 with s2 | s2
        · rw [s1, s2] at hk; simp only [Bool.false_eq_true, if_false] at hk; omega
        · rw [s1, s2] at hk; simp only [Bool.false_eq_true, if_false] at hk; split at hk <;> omega
        · omega
        · omega
      exact Int.ofNat_le.2 (sqN_mono fa fb hr)
    · exact j2.le_false _ (key_range x1).2
  · rcases k2 with ⟨fb, d2⟩ | ⟨j1, j2⟩
    · exact absurd (i1.up b1 hk) (fin_not_inf fb _)
    · exact j2.le_false _ (key_range x1).2
end Fl
end Go.Proofs.Ytclnmheplecknaa

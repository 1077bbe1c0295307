/-
  The walk of math's Ldexp on finite floats: the float times a power of two, rounded once.
-/
import Derived.Test.YtgockebgcbmgoaaMathb
set_option linter.unusedVariables false
set_option linter.unusedSimpArgs false
namespace Go.Proofs.Ytgockebgcbmgoaa
open Go.RowKit

/-! ### the ends -/
theorem Fl.nearest_tiny (s : Bool) (m : Nat) (p : Int) (h : m < 2 * Fl.B) (hp : p + 1074 ≤ -54) : Ieee.double.nearest s m p = Fl.wd s 0 := by
  obtain ⟨r, h1, h2⟩ := Fl.nearest_word s m p
  have hr := h2 (-(p + 1074)).toNat m (by omega) (by rw [show (p + 1074 + ((-(p + 1074)).toNat : Nat)).toNat = 0 by omega]; simp)
  have h0 : Fl.Rnd m (-(p + 1074)).toNat 0 := by
    have hd : 2 ^ 54 ≤ 2 ^ (-(p + 1074)).toNat := Nat.pow_le_pow_right (by omega) (by omega)
    have e1 : Fl.rv (0 + 1) = 1 := by decide
    refine ⟨?_, fun _ => rfl, fun h => absurd h (by omega), fun h => absurd h (by omega)⟩
    rw [Fl.rv_zero, e1, Nat.zero_add, Nat.one_mul]
    rw [Fl.B_eq] at h
    omega
  rw [h1, hr.eq h0]; rfl
theorem Fl.pow_le {a b : Nat} (h : a ≤ b) : 2 ^ a ≤ 2 ^ b := Nat.pow_le_pow_right (by decide) h
theorem Fl.huge_exp (e : Nat) (p : Int) (he : e = 1074) (hp : 972 ≤ p) : e + 972 ≤ (p + 1074 + ((0 : Nat) : Int)).toNat := by omega
theorem Fl.huge_aux (b m u v : Nat) (h : b ≤ m) (hu : u ≤ v) : b * u * 2 ^ 0 * 2 ^ 0 ≤ m * v * 2 ^ 0 := by
  simp only [Nat.pow_zero, Nat.mul_one]; exact Nat.mul_le_mul h hu
theorem Fl.nearest_huge (s : Bool) (m : Nat) (p : Int) (h : Fl.B ≤ m) (hp : 972 ≤ p) : Ieee.double.nearest s m p = Fl.wd s Fl.I := by
  obtain ⟨r, h1, h2⟩ := Fl.nearest_word s m p
  have hr := h2 0 _ (by omega) rfl
  have hE := Fl.E_eq
  have hi := Fl.rv_of (Fl.E + 972) Fl.B (by unfold Fl.B; omega) (.inr (Nat.le_refl _))
  rw [show (Fl.E + 972) * Fl.B + Fl.B = Fl.I by rw [Fl.E_eq]; decide] at hi
  have hI := Fl.Rnd.exact Fl.I 0
  have hle : Fl.I ≤ r := by
    refine hI.mono hr ?_
    rw [hi]
    have ht : Fl.E + 972 ≤ (p + 1074 + ((0 : Nat) : Int)).toNat := Fl.huge_exp _ _ hE hp
    exact Fl.huge_aux Fl.B m _ _ h (Fl.pow_le ht)
  rw [h1, Nat.min_eq_right hle]

theorem inf_pos (w : World) : Calls Try.prog 89 #[.int .i64 1] w fun e w' => e = .returned (.float .f64 Fl.I) ∧ w = w' := by
  have hf := run_from
  go_enter Try.func89, Try.ntmps89
  go_wp2
  go_ret
  exact ⟨ret_fl (by decide), rfl⟩
theorem inf_neg (w : World) : Calls Try.prog 89 #[.int .i64 (-1)] w fun e w' => e = .returned (.float .f64 (Fl.W + Fl.I)) ∧ w = w' := by
  have hf := run_from
  go_enter Try.func89, Try.ntmps89
  go_wp2
  go_ret
  exact ⟨ret_fl (by decide), rfl⟩

section
variable (x : Nat) (k : Int) (w : World) (hx : x < 2 * Fl.W) (h0 : 0 < Fl.rg x) (hf : Fl.rg x < Fl.I) (p : Nat) (q f : Int)
    (hn : ∀ w, Calls Try.prog 82 #[.float .f64 x] w fun e w' => e = .returned (.tuple #[.float .f64 p, .int .i64 q]) ∧ w = w')
    (hk1 : -1000000 ≤ k) (hk2 : k ≤ 1000000) (hq1 : -52 ≤ q) (hq2 : q ≤ 0) (hf1 : 0 ≤ f) (hf2 : f ≤ 2047)
    (h1 : bits BinOp.and IntKind.i64 (wrap64 ((p : Int) / 4503599627370496)) 2047 = f)
include hx h0 hf hn hk1 hk2 hq1 hq2 hf1 hf2 h1
theorem ldexp_tiny (hE : k + q + (f - 1023) < -1075) (hp : p < 2 * Fl.W) :
    Calls Try.prog 80 #[.float .f64 x, .int .i64 k] w fun e w' => e = .returned (.float .f64 (Fl.wd (Fl.sg p) 0)) ∧ w = w' := by
  have hb := run_bits
  have hf' := run_from
  have o1 := ord0_not x hf (by omega)
  have o2 : decide (Fl.rg x = Fl.I) = false := decide_eq_false (by omega)
  have HN := Lib.hid hn
  have hle : Fl.rg x ≤ Fl.I := Nat.le_of_lt hf
  have c1 : (0 : Nat) < 2 * Fl.W := by decide
  clear hn
  go_enter Try.func80, Try.ntmps80
  go_wp2_with fail
  refine (isinf_any x _ hx).mono ?_
  rintro e w' ⟨rfl, rfl⟩
  go_wp2_with fail
  refine (isnan_no x _ hle).mono ?_
  rintro e w' ⟨rfl, rfl⟩
  go_wp2_with fail
  refine (HN.out _).mono ?_
  rintro e w' ⟨rfl, rfl⟩
  go_wp2_with fail
  refine (copysign_any 0 p _ c1 hp).mono ?_
  rintro e w' ⟨rfl, rfl⟩
  go_wp2
  go_ret
  exact ⟨rfl, rfl⟩
theorem ldexp_huge (hE : 1023 < k + q + (f - 1023)) (s : Bool) (hp : FloatKind.f64.format.order p 0 = some (if s then .lt else .gt)) :
    Calls Try.prog 80 #[.float .f64 x, .int .i64 k] w fun e w' => e = .returned (.float .f64 (Fl.wd s Fl.I)) ∧ w = w' := by
  have hb := run_bits
  have hf' := run_from
  have o1 := ord0_not x hf (by omega)
  have o2 : decide (Fl.rg x = Fl.I) = false := decide_eq_false (by omega)
  have HN := Lib.hid hn
  have hle : Fl.rg x ≤ Fl.I := Nat.le_of_lt hf
  clear hn
  cases s
  all_goals
    simp only [Bool.false_eq_true, if_false, if_true] at hp
    go_enter Try.func80, Try.ntmps80
    go_wp2_with fail
    refine (isinf_any x _ hx).mono ?_
    rintro e w' ⟨rfl, rfl⟩
    go_wp2_with fail
    refine (isnan_no x _ hle).mono ?_
    rintro e w' ⟨rfl, rfl⟩
    go_wp2_with fail
    refine (HN.out _).mono ?_
    rintro e w' ⟨rfl, rfl⟩
    go_wp2_with fail
    first
      | (refine (inf_pos _).mono ?_
         rintro e w' ⟨rfl, rfl⟩
         go_wp2
         go_ret
         exact ⟨rfl, rfl⟩)
      | (refine (inf_neg _).mono ?_
         rintro e w' ⟨rfl, rfl⟩
         go_wp2
         go_ret
         exact ⟨rfl, rfl⟩)
theorem ldexp_mid (hE1 : -1022 ≤ k + q + (f - 1023)) (hE2 : k + q + (f - 1023) ≤ 1023) (c z r : Nat)
    (h2 : bits BinOp.andNot IntKind.u64 (p : Int) 9218868437227405312 = (c : Int))
    (h3 : bits BinOp.or IntKind.u64 (c : Int) ((k + q + (f - 1023) + 1023) * 4503599627370496) = (z : Int))
    (h4 : ∀ w, (binOp .mul 22 (.float .f64 4607182418800017408) (.float .f64 z)).run Try.prog w = .ok (.float .f64 r) w) :
    Calls Try.prog 80 #[.float .f64 x, .int .i64 k] w fun e w' => e = .returned (.float .f64 r) ∧ w = w' := by
  have hb := run_bits
  have hf' := run_from
  have o1 := ord0_not x hf (by omega)
  have o2 : decide (Fl.rg x = Fl.I) = false := decide_eq_false (by omega)
  have HN := Lib.hid hn
  have hle : Fl.rg x ≤ Fl.I := Nat.le_of_lt hf
  clear hn
  go_enter Try.func80, Try.ntmps80
  go_wp2_with fail
  refine (isinf_any x _ hx).mono ?_
  rintro e w' ⟨rfl, rfl⟩
  go_wp2_with fail
  refine (isnan_no x _ hle).mono ?_
  rintro e w' ⟨rfl, rfl⟩
  go_wp2_with fail
  refine (HN.out _).mono ?_
  rintro e w' ⟨rfl, rfl⟩
  go_wp2
  go_ret
  exact ⟨rfl, rfl⟩
theorem ldexp_low (hE1 : -1075 ≤ k + q + (f - 1023)) (hE2 : k + q + (f - 1023) < -1022) (c z r : Nat)
    (h2 : bits BinOp.andNot IntKind.u64 (p : Int) 9218868437227405312 = (c : Int))
    (h3 : bits BinOp.or IntKind.u64 (c : Int) ((k + q + (f - 1023) + 53 + 1023) * 4503599627370496) = (z : Int))
    (h4 : ∀ w, (binOp .mul 22 (.float .f64 4368491638549381120) (.float .f64 z)).run Try.prog w = .ok (.float .f64 r) w) :
    Calls Try.prog 80 #[.float .f64 x, .int .i64 k] w fun e w' => e = .returned (.float .f64 r) ∧ w = w' := by
  have hb := run_bits
  have hf' := run_from
  have o1 := ord0_not x hf (by omega)
  have o2 : decide (Fl.rg x = Fl.I) = false := decide_eq_false (by omega)
  have HN := Lib.hid hn
  have hle : Fl.rg x ≤ Fl.I := Nat.le_of_lt hf
  clear hn
  go_enter Try.func80, Try.ntmps80
  go_wp2_with fail
  refine (isinf_any x _ hx).mono ?_
  rintro e w' ⟨rfl, rfl⟩
  go_wp2_with fail
  refine (isnan_no x _ hle).mono ?_
  rintro e w' ⟨rfl, rfl⟩
  go_wp2_with fail
  refine (HN.out _).mono ?_
  rintro e w' ⟨rfl, rfl⟩
  go_wp2
  go_ret
  exact ⟨rfl, rfl⟩
end

theorem Fl.key_pos_of (s : Bool) (r : Nat) (h0 : 0 < r) (h : r ≤ Fl.I) : FloatKind.f64.format.order (Fl.wd s r) 0 = some (if s then .lt else .gt) := by
  have hW : r < Fl.W := Nat.lt_of_le_of_lt h Fl.I_lt_W
  cases s
  · exact Fl.cmp0_gt _ (by rw [Fl.rg_wd _ _ hW]; exact h0) (by rw [Fl.rg_wd _ _ hW]; exact h) (Fl.sg_wd _ _ hW)
  · exact Fl.cmp0_lt _ (by rw [Fl.rg_wd _ _ hW]; exact h0) (by rw [Fl.rg_wd _ _ hW]; exact h) (Fl.sg_wd _ _ hW)
theorem Fl.low_mul (y : Nat) (h : Fl.rg y < Fl.I) : Ieee.double.mul 4368491638549381120 y = some (Ieee.double.nearest (Fl.sg y) (Fl.mant (Fl.rg y)) (Fl.pl y - 53)) := by
  have hc : Fl.rg 4368491638549381120 = 4368491638549381120 := by decide
  rw [Fl.mul_fin _ y (by rw [hc]; decide) h, show Fl.sg 4368491638549381120 = false from by decide, Bool.false_xor]
  have hp : Fl.pl 4368491638549381120 = -105 := by decide
  have hm : Fl.mant (Fl.rg 4368491638549381120) = 2 ^ 52 := by rw [hc]; decide
  rw [hp, hm]
  rw [Fl.nearest_congr (Fl.sg y) (2 ^ 52 * Fl.mant (Fl.rg y)) (Fl.mant (Fl.rg y)) (-105 + Fl.pl y) (Fl.pl y - 53) 0 52 (by rw [Nat.pow_zero, Nat.mul_one, Nat.mul_comm]) (by omega)]

theorem Fl.scl_nat (x : Nat) (h0 : 0 < Fl.rg x) (k : Int) (n : Nat) (h : Fl.nE (Fl.rg x) + k = n) (hn : n ≤ 2045) : Fl.scl x k = Fl.wd (Fl.sg x) (n * Fl.B + Fl.nM (Fl.rg x)) := by
  have := (Fl.scl_exact x h0 k (by rw [h]; exact Int.natCast_nonneg _) (by rw [h]; exact Int.ofNat_le.2 hn)).1
  rw [h, Int.toNat_natCast] at this
  exact this
theorem Fl.exp_le (r : Nat) (h : r < Fl.I) : r / Fl.B ≤ 2047 := by unfold Fl.B Fl.I at *; omega
/-- What the walk of Ldexp has in hand. -/
theorem Fl.ldexp_parts (x : Nat) (hx : x < 2 * Fl.W) (h0 : 0 < Fl.rg x) (hf : Fl.rg x < Fl.I) : ∃ r g M : Nat, Fl.nzW x = Fl.wd (Fl.sg x) r ∧ r < Fl.I ∧ r < Fl.W ∧ 0 < r ∧ g = r / Fl.B ∧ r % Fl.B = M - Fl.B ∧ M - Fl.B < Fl.B ∧ Fl.B ≤ M ∧ M < 2 * Fl.B ∧ M = Fl.nM (Fl.rg x) ∧ (g : Int) = Fl.nE (Fl.rg x) - Fl.nzP x + 1 ∧ (g : Int) ≤ 2047 := by
  obtain ⟨r, e1, e2, e3, e4, e5⟩ := Fl.nzW_facts x hx h0 hf
  obtain ⟨m1, m2⟩ := Fl.nM_range (Fl.rg x) h0
  obtain ⟨d1, d2⟩ := Fl.div_rung (Fl.nE (Fl.rg x) - Fl.nzP x).toNat (Fl.nM (Fl.rg x)) m1 m2
  rw [← e3] at d1 d2
  refine ⟨r, _, _, e1, e2, Nat.lt_trans e2 Fl.I_lt_W, ?_, rfl, d2, ?_, m1, m2, rfl, ?_⟩
  · rcases Nat.eq_zero_or_pos r with h | h
    · rw [h, Nat.zero_div] at d1; exact absurd d1 (by clear e1 e2 e3 m1 m2 d1 d2; omega)
    · exact h
  · generalize Fl.nM (Fl.rg x) = M at *
    generalize Fl.B = b at *
    clear d1 d2 e3
    omega
  · refine ⟨?_, ?_⟩
    · rw [d1]; clear e1 e2 e3 m1 m2 d1 d2; omega
    · have := Fl.exp_le r e2
      exact Int.ofNat_le.2 this
theorem Fl.reB (n b m : Nat) (h : b ≤ m) : (n + 1) * b + (m - b) = n * b + m := by rw [Nat.add_mul, Nat.one_mul]; omega
theorem Fl.rung_lt (n m : Nat) (hn : n ≤ 2045) (h : m < 2 * Fl.B) : n * Fl.B + m < Fl.I := by unfold Fl.B Fl.I at *; omega
theorem Fl.low_word (s : Bool) (n M : Nat) (hn : n ≤ 2045) (m1 : Fl.B ≤ M) (m2 : M < 2 * Fl.B) : Ieee.double.mul 4368491638549381120 (Fl.wd s (n * Fl.B + M)) = some (Ieee.double.nearest s M (-1074 + (n : Int) - 53)) := by
  have hyI := Fl.rung_lt n M hn m2
  have hyW := Nat.lt_trans hyI Fl.I_lt_W
  rw [Fl.low_mul _ (by rw [Fl.rg_wd _ _ hyW]; exact hyI)]
  unfold Fl.pl
  rw [Fl.rg_wd _ _ hyW, Fl.sg_wd _ _ hyW, Fl.ex_of n _ m2 (.inr m1), Fl.mant_of n _ m2 (.inr m1)]
theorem Fl.one_word (s : Bool) (n M : Nat) (hn : n ≤ 2045) (m2 : M < 2 * Fl.B) : Ieee.double.mul 4607182418800017408 (Fl.wd s (n * Fl.B + M)) = some (Fl.wd s (n * Fl.B + M)) := by
  have hyI := Fl.rung_lt n M hn m2
  have hyW := Nat.lt_trans hyI Fl.I_lt_W
  exact Fl.one_mul _ (Fl.wd_lt _ _ hyW) (by rw [Fl.rg_wd _ _ hyW]; exact hyI)

theorem ldexp_inner (x : Nat) (k : Int) (w : World) (hx : x < 2 * Fl.W) (h0 : 0 < Fl.rg x) (hf : Fl.rg x < Fl.I) (hk1 : -1000000 ≤ k) (hk2 : k ≤ 1000000) :
    Calls Try.prog 80 #[.float .f64 x, .int .i64 k] w fun e w' => e = .returned (.float .f64 (Fl.scl x k)) ∧ w = w' := by
  obtain ⟨r, g, M, e1, e2, hW, hr0, hg, d2, hm, m1, m2, hM, hd, b3⟩ := Fl.ldexp_parts x hx h0 hf
  have hr := Fl.nE_range (Fl.rg x) h0 hf
  have hn := fun w => normalize_fin x w hx h0 hf
  rw [e1] at hn
  have h1 := exp_i64 (Fl.sg x) r hW
  have h2 := clear_exp (Fl.sg x) r hW
  rw [d2] at h2
  rw [← hg] at h1
  have hz : Fl.nzP x = 0 ∨ Fl.nzP x = -52 := by unfold Fl.nzP; split <;> simp
  have hscl := Fl.scl_norm x h0 k
  rw [← hM] at hscl
  have hse := fun n hn' e he => set_exp (Fl.sg x) (M - Fl.B) (n + 1) hm hn' e he
  have hreB := fun n => Fl.reB n Fl.B M m1
  have hex := Fl.scl_nat x h0 k
  rw [← hM] at hex
  have HT := Fl.nearest_tiny (Fl.sg x) M (-1074 + k + Fl.nE (Fl.rg x)) m2
  have HH := Fl.nearest_huge (Fl.sg x) M (-1074 + k + Fl.nE (Fl.rg x)) m1
  have HL := fun n hn' => Fl.low_word (Fl.sg x) n M hn' m1 m2
  have HO := fun n hn' => Fl.one_word (Fl.sg x) n M hn' m2
  have hko := Fl.key_pos_of (Fl.sg x) r hr0 (Nat.le_of_lt e2)
  have hwl := Fl.wd_lt (Fl.sg x) r hW
  have hws := Fl.sg_wd (Fl.sg x) r hW
  clear m1 m2 hm d2 hg hM e1 e2 hW
  generalize Fl.nzP x = z at *
  have L1 := fun h1' h2' => ldexp_tiny x k w hx h0 hf _ z g hn hk1 hk2 h1' h2'
  have L2 := fun h1' h2' => ldexp_huge x k w hx h0 hf _ z g hn hk1 hk2 h1' h2'
  have L3 := fun h1' h2' => ldexp_mid x k w hx h0 hf _ z g hn hk1 hk2 h1' h2'
  have L4 := fun h1' h2' => ldexp_low x k w hx h0 hf _ z g hn hk1 hk2 h1' h2'
  generalize Fl.nE (Fl.rg x) = E at *
  have b1 : -52 ≤ z := by clear HT HH HL HO hex hse hreB; omega
  have b2 : z ≤ 0 := by clear HT HH HL HO hex hse hreB; omega
  have hsum : k + z + ((g : Int) - 1023) = k + E - 1022 := by clear HT HH HL HO hex hse hreB; omega
  by_cases c1 : k + E - 1022 < -1075
  · have := L1 b1 b2 (Int.natCast_nonneg _) b3 h1 (by rw [hsum]; exact c1) hwl
    rw [hws] at this
    rw [hscl, HT (by clear HT HH HL HO hex hse hreB L1 L2 L3 L4; omega)]
    exact this
  · by_cases c2 : 1023 < k + E - 1022
    · have := L2 b1 b2 (Int.natCast_nonneg _) b3 h1 (by rw [hsum]; exact c2) (Fl.sg x) hko
      rw [hscl, HH (by clear HT HH HL HO hex hse hreB L1 L2 L3 L4; omega)]
      exact this
    · by_cases c3 : k + E - 1022 < -1022
      · obtain ⟨n, hn'⟩ := Int.eq_ofNat_of_zero_le (show 0 ≤ k + E + 53 by clear HT HH HL HO hex hse hreB L1 L2 L3 L4; omega)
        have hn2 : n ≤ 2045 := by clear HT HH HL HO hex hse hreB L1 L2 L3 L4; omega
        have h3 := hse n (by omega) (k + z + ((g : Int) - 1023) + 53 + 1023) (by rw [hsum]; clear HT HH HL HO hex hse hreB L1 L2 L3 L4; omega)
        rw [hreB] at h3
        have hmul := HL n hn2
        rw [show -1074 + (n : Int) - 53 = -1074 + k + E by rw [← hn']; clear HT HH HL HO hex hse hreB L1 L2 L3 L4; omega, ← hscl] at hmul
        exact L4 b1 b2 (Int.natCast_nonneg _) b3 h1 (by rw [hsum]; exact Int.not_lt.1 c1) (by rw [hsum]; exact c3) _ _ _ h2 h3 (fun w => run_float_arith w .mul _ .f64 _ _ _ hmul)
      · obtain ⟨n, hn'⟩ := Int.eq_ofNat_of_zero_le (show 0 ≤ k + E by clear HT HH HL HO hex hse hreB L1 L2 L3 L4; omega)
        have hn2 : n ≤ 2045 := by clear HT HH HL HO hex hse hreB L1 L2 L3 L4; omega
        have h3 := hse n (by omega) (k + z + ((g : Int) - 1023) + 1023) (by rw [hsum]; clear HT HH HL HO hex hse hreB L1 L2 L3 L4; omega)
        rw [hreB] at h3
        have hmul := HO n hn2
        have a1 := hex n (by clear HT HH HL HO hex hse hreB L1 L2 L3 L4; omega) hn2
        refine (L3 b1 b2 (Int.natCast_nonneg _) b3 h1 (by rw [hsum]; exact Int.not_lt.1 c3) (by rw [hsum]; exact Int.not_lt.1 c2) _ _ _ h2 h3 (fun w => run_float_arith w .mul _ .f64 _ _ _ hmul)).mono ?_
        rintro e w' ⟨q1, q2⟩
        exact ⟨q1.trans (ret_fl a1.symm), q2⟩
/-- Ldexp of a finite float that is not 0. -/
theorem ldexp_fin (x : Nat) (k : Int) (w : World) (hx : x < 2 * Fl.W) (h0 : 0 < Fl.rg x) (hf : Fl.rg x < Fl.I) (hk1 : -1000000 ≤ k) (hk2 : k ≤ 1000000) :
    Calls Try.prog 65 #[.float .f64 x, .int .i64 k] w fun e w' => e = .returned (.float .f64 (Fl.scl x k)) ∧ w = w' := by
  have main := fun w => ldexp_inner x k w hx h0 hf hk1 hk2
  have HM := Lib.hid main
  clear main h0 hf hk1 hk2
  go_enter Try.func65, Try.ntmps65
  go_wp2_with fail
  refine (HM.out _).mono ?_
  rintro e w' ⟨rfl, rfl⟩
  go_wp2
  go_ret
  exact ⟨rfl, rfl⟩
theorem ldexp_zero (x : Nat) (k : Int) (w : World) (h0 : Fl.rg x = 0) :
    Calls Try.prog 65 #[.float .f64 x, .int .i64 k] w fun e w' => e = .returned (.float .f64 x) ∧ w = w' := by
  have h1 := Fl.cmp0_eq x h0
  clear h0
  go_enter Try.func65, Try.ntmps65
  go_wp2
  go_ret
  exact ⟨rfl, rfl⟩
end Go.Proofs.Ytgockebgcbmgoaa

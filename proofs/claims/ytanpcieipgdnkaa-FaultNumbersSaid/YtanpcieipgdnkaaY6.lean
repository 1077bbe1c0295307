/-
  The walks of edge's side, great, Add and Sub.
  The walk of the reference's Nearest.
  The walks of the reference's Whole, and of Nearest, of edge and of its reference.
  The walks of Trunc; Whole and Nearest, of edge and of its reference.
  The walks of SameFloat, LikeFloat, Finite, the reference's Next; Whole and Nearest, of edge and of its reference.
  The walks of Next (edge and its reference), SameFloat, LikeFloat, Finite.
  The walks of the small float functions of edge, of its reference and of rosettekit: which floats are finite, the next float, the same floats.
  Plain facts: the sum and the order of numbers by sign, size and exponent.
-/
import Derived.Test.YtanpcieipgdnkaaY5
set_option linter.unusedVariables false
set_option linter.unusedSimpArgs false
namespace Go.Proofs.Ytanpcieipgdnkaa
namespace Nt
def sz (s : Bool) (n : Nat) : Int := if s then -(n : Int) else (n : Int)
/-- A number in units of 2^-K. -/
def nv (s : Bool) (N : Nat) (e K : Int) : Int := sz s (N * 2 ^ (e + K).toNat)
theorem sz_zero (s : Bool) : sz s 0 = 0 := by unfold sz; cases s <;> rfl
theorem sz_not (s : Bool) (n : Nat) : sz (!s) n = - sz s n := by unfold sz; cases s <;> simp
theorem nv_not (s : Bool) (N : Nat) (e K : Int) : nv (!s) N e K = - nv s N e K := sz_not _ _
theorem nv_zero (s : Bool) (e K : Int) : nv s 0 e K = 0 := by unfold nv; rw [Nat.zero_mul, sz_zero]
theorem sz_mul (s t : Bool) (m n : Nat) : sz s m * sz t n = sz (s != t) (m * n) := by
  unfold sz; cases s <;> cases t <;> simp [Int.neg_mul, Int.mul_neg]
theorem sz_add (s : Bool) (m n : Nat) : sz s (m + n) = sz s m + sz s n := by unfold sz; split <;> omega
theorem sz_sub (s : Bool) (m n : Nat) (h : n ≤ m) : sz s (m - n) = sz s m - sz s n := by unfold sz; split <;> omega
theorem pow_split (M : Nat) (e f K : Int) (h : e ≤ f) (he : 0 ≤ e + K) : M * 2 ^ (f - e).toNat * 2 ^ (e + K).toNat = M * 2 ^ (f + K).toNat := by
  rw [Nat.mul_assoc, ← Nat.pow_add]; congr 2; omega
theorem plusC_val (s : Bool) (N : Nat) (e : Int) (s' : Bool) (M : Nat) (f K : Int) (h : e ≤ f) (he : 0 ≤ e + K) :
    (plusC s N e s' M f).2.2 = e ∧ nv (plusC s N e s' M f).1 (plusC s N e s' M f).2.1 e K = nv s N e K + nv s' M f K := by
  have hp := pow_split M e f K h he
  unfold plusC
  unfold nv
  rw [← hp]
  generalize M * 2 ^ (f - e).toNat = Q
  generalize 2 ^ (e + K).toNat = P
  by_cases hs : s = s'
  · rw [if_pos hs]
    subst hs
    exact ⟨rfl, by dsimp only; rw [Nat.add_mul, sz_add]⟩
  · rw [if_neg hs]
    have hs2 : s' = !s := by cases s <;> cases s' <;> simp_all
    subst hs2
    by_cases hq : Q ≤ N
    · rw [if_pos hq]
      exact ⟨rfl, by dsimp only; rw [Nat.sub_mul, sz_sub _ _ _ (Nat.mul_le_mul_right _ hq), sz_not]; omega⟩
    · rw [if_neg hq]
      exact ⟨rfl, by dsimp only; rw [Nat.sub_mul, sz_sub _ _ _ (Nat.mul_le_mul_right _ (by omega)), sz_not]; rw [sz_not]; omega⟩
theorem plusN_val (s : Bool) (N : Nat) (e : Int) (s' : Bool) (M : Nat) (f K : Int) (he : 0 ≤ e + K) (hf : 0 ≤ f + K) :
    0 ≤ (plusN s N e s' M f).2.2 + K ∧ nv (plusN s N e s' M f).1 (plusN s N e s' M f).2.1 (plusN s N e s' M f).2.2 K = nv s N e K + nv s' M f K := by
  unfold plusN
  by_cases hN : N = 0
  · rw [if_pos hN, hN, nv_zero]; exact ⟨hf, (Int.zero_add _).symm⟩
  · rw [if_neg hN]
    by_cases hM : M = 0
    · rw [if_pos hM, hM, nv_zero]; exact ⟨he, (Int.add_zero _).symm⟩
    · rw [if_neg hM]
      by_cases hl : f < e
      · rw [if_pos hl]
        obtain ⟨h1, h2⟩ := plusC_val s' M f s N e K (by omega) hf
        rw [h1, h2]; exact ⟨hf, Int.add_comm _ _⟩
      · rw [if_neg hl]
        obtain ⟨h1, h2⟩ := plusC_val s N e s' M f K (by omega) he
        rw [h1, h2]; exact ⟨he, rfl⟩
/-- A bound on the sum's size. -/
theorem plusN_lt (s : Bool) (N : Nat) (e : Int) (s' : Bool) (M : Nat) (f : Int) (p d : Nat) (hN : N < 2 ^ p) (hM : M < 2 ^ p) (h1 : e - f ≤ d) (h2 : f - e ≤ d) : (plusN s N e s' M f).2.1 < 2 ^ (p + d + 1) := by
  have pd : 0 < 2 ^ d := Nat.two_pow_pos d
  have big : ∀ Q : Nat, Q < 2 ^ p → ∀ i : Int, i ≤ d → Q * 2 ^ i.toNat < 2 ^ (p + d) := fun Q hQ i hi => by
    rw [Nat.pow_add]
    exact Nat.mul_lt_mul_of_lt_of_le hQ (Nat.pow_le_pow_right (by decide) (by omega)) pd
  have small : ∀ Q : Nat, Q < 2 ^ p → Q < 2 ^ (p + d) := fun Q hQ => Nat.lt_of_lt_of_le hQ (Nat.pow_le_pow_right (by decide) (by omega))
  have a1 := big N hN (e - f) h1
  have a2 := big M hM (f - e) h2
  have a3 := small N hN
  have a4 := small M hM
  rw [Nat.pow_succ]
  unfold plusN plusC
  generalize 2 ^ (p + d) = B at *
  generalize N * 2 ^ (e - f).toNat = X at *
  generalize M * 2 ^ (f - e).toNat = Y at *
  split
  · dsimp only; omega
  · split
    · dsimp only; omega
    · split
      · split
        · dsimp only; omega
        · split <;> dsimp only <;> omega
      · split
        · dsimp only; omega
        · split <;> dsimp only <;> omega
theorem len_of_lt (N p : Nat) (h : N < 2 ^ p) : (dg 18446744073709551616 N).length ≤ p / 64 + 1 := by
  refine dg_len _ (by decide) _ _ (Nat.lt_of_lt_of_le h ?_)
  rw [show (18446744073709551616 : Nat) = 2 ^ 64 from rfl, ← Nat.pow_mul]
  exact Nat.pow_le_pow_right (by decide) (by omega)
/-- The order as a number. -/
def ordI (a b : Int) : Int := if a < b then -1 else if a = b then 0 else 1
theorem nv_pos (N : Nat) (e K : Int) (h : N ≠ 0) : 0 < N * 2 ^ (e + K).toNat := Nat.mul_pos (Nat.pos_of_ne_zero h) (Nat.two_pow_pos _)
theorem signI_nv (s : Bool) (N : Nat) (e K : Int) : signI s N = ordI (nv s N e K) 0 := by
  unfold signI ordI nv
  by_cases h : N = 0
  · rw [if_pos h, h, Nat.zero_mul, sz_zero]; rfl
  · rw [if_neg h]
    have hp := nv_pos N e K h
    generalize N * 2 ^ (e + K).toNat = X at *
    unfold sz
    cases s
    · simp only [Bool.false_eq_true, if_false]; rw [if_neg (by omega), if_neg (by omega)]
    · simp only [if_true]; rw [if_pos (by omega)]
theorem bits_range (N : Nat) (h : N ≠ 0) : 0 < bitsN N ∧ 2 ^ (bitsN N - 1) ≤ N ∧ N < 2 ^ bitsN N := by
  unfold bitsN
  rw [if_neg h]
  exact ⟨by omega, by rw [Nat.add_sub_cancel]; exact Nat.log2_self_le h, Nat.lt_log2_self⟩
theorem top_lt (N M : Nat) (e f K : Int) (hN : N ≠ 0) (hM : M ≠ 0) (he : 0 ≤ e + K) (hf : 0 ≤ f + K) (h : e + (bitsN N : Nat) < f + (bitsN M : Nat)) : N * 2 ^ (e + K).toNat < M * 2 ^ (f + K).toNat := by
  obtain ⟨a1, a2, a3⟩ := bits_range N hN
  obtain ⟨b1, b2, b3⟩ := bits_range M hM
  have h1 : N * 2 ^ (e + K).toNat < 2 ^ (bitsN N + (e + K).toNat) := by rw [Nat.pow_add]; exact Nat.mul_lt_mul_of_pos_right a3 (Nat.two_pow_pos _)
  have h2 : 2 ^ (bitsN M - 1 + (f + K).toNat) ≤ M * 2 ^ (f + K).toNat := by rw [Nat.pow_add]; exact Nat.mul_le_mul_right _ b2
  have h3 : (2 : Nat) ^ (bitsN N + (e + K).toNat) ≤ 2 ^ (bitsN M - 1 + (f + K).toNat) := Nat.pow_le_pow_right (by decide) (by omega)
  exact Nat.lt_of_lt_of_le h1 (Nat.le_trans h3 h2)
theorem cmpN_val (s : Bool) (N : Nat) (e : Int) (s' : Bool) (M : Nat) (f K : Int) (he : 0 ≤ e + K) (hf : 0 ≤ f + K) : cmpN s N e s' M f = ordI (nv s N e K) (nv s' M f K) := by
  have g1 := signI_nv s N e K
  have g2 := signI_nv s' M f K
  obtain ⟨g3, g4⟩ := plusN_val s N e (!s') M f K he hf
  have g5 := signI_nv (plusN s N e (!s') M f).1 (plusN s N e (!s') M f).2.1 (plusN s N e (!s') M f).2.2 K
  rw [g4, nv_not] at g5
  unfold cmpN
  rw [g5]
  by_cases hab : signI s N = signI s' M
  · rw [if_neg (by omega), if_neg (by omega)]
    by_cases h0 : signI s N = 0
    · rw [if_pos h0]
      have hN : N = 0 := by
        unfold signI at h0; split at h0
        · assumption
        · split at h0 <;> omega
      have hM : M = 0 := by
        rw [h0] at hab; unfold signI at hab; split at hab
        · assumption
        · split at hab <;> omega
      rw [hN, hM, nv_zero, nv_zero]; rfl
    · rw [if_neg h0]
      have hN : N ≠ 0 := fun e => h0 (by unfold signI; rw [if_pos e])
      have hM : M ≠ 0 := fun e => h0 (by rw [hab]; unfold signI; rw [if_pos e])
      have hss : s = s' := by
        unfold signI at hab
        rw [if_neg hN, if_neg hM] at hab
        cases s <;> cases s' <;> simp_all
      subst hss
      have hs : signI s N = if s then -1 else 1 := by unfold signI; rw [if_neg hN]
      rw [hs]
      by_cases t1 : e + (bitsN N : Nat) < f + (bitsN M : Nat)
      · rw [if_pos t1]
        have := top_lt N M e f K hN hM he hf t1
        unfold ordI nv sz
        cases s
        · simp only [Bool.false_eq_true, if_false]; rw [if_pos (by omega)]
        · simp only [if_true]; rw [if_neg (by omega), if_neg (by omega)]; rfl
      · rw [if_neg t1]
        by_cases t2 : f + (bitsN M : Nat) < e + (bitsN N : Nat)
        · rw [if_pos t2]
          have := top_lt M N f e K hM hN hf he t2
          unfold ordI nv sz
          cases s
          · simp only [Bool.false_eq_true, if_false]; rw [if_neg (by omega), if_neg (by omega)]
          · simp only [if_true]; rw [if_pos (by omega)]
        · rw [if_neg t2]
          unfold ordI
          generalize nv s N e K = x
          generalize nv s M f K = y
          split <;> split <;> (try split) <;> (try split) <;> first | rfl | omega
  · rw [g1, g2] at hab ⊢
    unfold ordI at hab ⊢
    generalize nv s N e K = x at *
    generalize nv s' M f K = y at *
    split at hab <;> split at hab <;> (try split at hab) <;> (try split at hab) <;> simp_all <;> omega
end Nt
end Go.Proofs.Ytanpcieipgdnkaa

namespace Go.Proofs.Ytanpcieipgdnkaa
open Go.RowKit

/-- Only draws. -/
def Dr (w w' : World) : Prop := ∃ n, w' = w.drewN n
theorem Dr.refl (w : World) : Dr w w := ⟨0, rfl⟩
theorem Dr.drew (w : World) : Dr w w.drew := ⟨1, rfl⟩
theorem drewN_drewN (w : World) (n m : Nat) : (w.drewN n).drewN m = w.drewN (n + m) := by
  simp [World.drewN, Nat.add_assoc]
theorem Dr.trans {a b c : World} (h1 : Dr a b) (h2 : Dr b c) : Dr a c := by
  obtain ⟨n, rfl⟩ := h1; obtain ⟨m, rfl⟩ := h2; exact ⟨n + m, drewN_drewN _ _ _⟩

/-- The result is what the operation gave; the world has drawn at most. -/
def FlPost (o : Option Nat) (w : World) (e : Ending) (w' : World) : Prop := ∃ s, e = .returned (.float .f64 s) ∧ Fl.Is o s ∧ Dr w w'
def BPost (b : Bool) (w : World) (e : Ending) (w' : World) : Prop := e = .returned (.bool b) ∧ Dr w w'

/-- An operation on floats: its word, or a NaN that is drawn. -/
theorem run_float_any (op : BinOp) (t : TypeId) (x y : Nat) (w : World) (hop : op = .add ∨ op = .sub ∨ op = .mul ∨ op = .quo) :
    ∃ s w1, (binOp op t (.float .f64 x) (.float .f64 y)).run Try.prog w = .ok (.float .f64 s) w1 ∧ Fl.Is (floatBits op .f64 x y) s ∧ (w1 = w ∨ w1 = w.drew) := by
  cases h : floatBits op .f64 x y with
  | some r => exact ⟨r, w, run_float_arith w op t .f64 x y r h, rfl, .inl rfl⟩
  | none =>
    refine ⟨_, w.drew, ?_, Fl.nan_draw (w.tape w.drawn (.nanBits .f64 x y)), .inr rfl⟩
    rcases hop with rfl | rfl | rfl | rfl <;> (simp only [floatBits] at h; simp [binOp, Op.floatArith, h, Question.forced, Question.cut])

theorem fin_walk_yes (x : Nat) (hw : x < 2 * Fl.W) (h : Fl.rg x < Fl.I) (w : World) : (binOp .sub 22 (.float .f64 x) (.float .f64 x)).run Try.prog w = .ok (.float .f64 0) w :=
  run_float_arith w .sub _ .f64 x x 0 (Fl.sub_self_fin x hw h)

theorem finite_yes (x : Nat) (w : World) (hw : x < 2 * Fl.W) (h : Fl.rg x < Fl.I) : Calls Try.prog 45 #[.float .f64 x] w fun e w' => e = .returned (.bool true) ∧ w = w' := by
  have h1 := fin_walk_yes x hw h
  have h2 : FloatKind.f64.format.order 0 0 = some .eq := by decide
  go_enter Try.func45, Try.ntmps45
  go_wp2
  go_ret
  exact ⟨rfl, rfl⟩
theorem nan_order (s : Nat) (h : Fl.I < Fl.rg s) : FloatKind.f64.format.order s 0 = none := Fl.order_nan _ _ (.inl h)
theorem finite_no (x : Nat) (w : World) (h : ¬ Fl.rg x < Fl.I) : Calls Try.prog 45 #[.float .f64 x] w (BPost false w) := by
  obtain ⟨s, w1, hr, hs, hw1⟩ := run_float_any .sub 22 x x w (by simp)
  have hs1 : Fl.Is none s := by rw [← Fl.sub_self_not x h]; exact hs
  have ho := nan_order s hs1.1
  have HD : Hid (Dr w w1) := by rcases hw1 with rfl | rfl; exact Dr.refl _; exact Dr.drew _
  clear hs hs1 hw1 h
  go_enter Try.func45, Try.ntmps45
  go_wp2
  go_ret
  exact ⟨rfl, HD.out⟩
theorem finite_any (x : Nat) (w : World) (hw : x < 2 * Fl.W) : Calls Try.prog 45 #[.float .f64 x] w (BPost (Fl.fin x) w) := by
  by_cases h : Fl.rg x < Fl.I
  · rw [show Fl.fin x = true from decide_eq_true h]
    exact (finite_yes x w hw h).mono fun e w' ⟨h1, h2⟩ => ⟨h1, h2 ▸ Dr.refl w⟩
  · rw [show Fl.fin x = false from decide_eq_false h]
    exact finite_no x w h

/-- The float next to x. -/
def Fl.next (x : Nat) (up : Bool) : Nat :=
  if Fl.I < Fl.rg x then x
  else if Fl.rg x = Fl.I ∧ up = !Fl.sg x then x
  else if Fl.rg x = 0 then (if up then 1 else Fl.W + 1)
  else if up = !Fl.sg x then x + 1 else x - 1

end Go.Proofs.Ytanpcieipgdnkaa

namespace Go.Proofs.Ytanpcieipgdnkaa
open Go.RowKit

theorem Fl.cmp_self (x : Nat) (h : Fl.rg x ≤ Fl.I) : FloatKind.f64.format.order x x = some .eq := Fl.order_eq x x h h rfl
theorem Fl.cmp_nan (x y : Nat) (h : Fl.I < Fl.rg x) : FloatKind.f64.format.order x y = none := Fl.order_nan _ _ (.inl h)
theorem Fl.key0 : Fl.key 0 = 0 := by decide
theorem Fl.cmp0_eq (x : Nat) (h : Fl.rg x = 0) : FloatKind.f64.format.order x 0 = some .eq := by
  refine Fl.order_eq x 0 (by rw [h]; exact Nat.zero_le _) (by decide) ?_
  rw [Fl.key0]; unfold Fl.key; rw [h]; simp
theorem Fl.cmp0_gt (x : Nat) (h0 : 0 < Fl.rg x) (h : Fl.rg x ≤ Fl.I) (hs : Fl.sg x = false) : FloatKind.f64.format.order x 0 = some .gt := by
  refine Fl.order_gt x 0 h (by decide) ?_
  rw [Fl.key0]; unfold Fl.key; rw [hs]; simp; omega
theorem Fl.cmp0_lt (x : Nat) (h0 : 0 < Fl.rg x) (h : Fl.rg x ≤ Fl.I) (hs : Fl.sg x = true) : FloatKind.f64.format.order x 0 = some .lt := by
  refine Fl.order_lt x 0 h (by decide) ?_
  rw [Fl.key0]; unfold Fl.key; rw [hs]; simp; omega

theorem u64_succ (x : Nat) (h : x + 1 < 2 * Fl.W) : (IntKind.u64.wrap ((x : Int) + 1)).toNat = x + 1 := by
  rw [IntKind.wrap_u64]; unfold Fl.W at h; omega
theorem u64_pred (x : Nat) (h : x < 2 * Fl.W) (h0 : 0 < x) : (IntKind.u64.wrap ((x : Int) - 1)).toNat = x - 1 := by
  rw [IntKind.wrap_u64]; unfold Fl.W at h; omega
theorem rg_succ_lt (x : Nat) (hx : x < 2 * Fl.W) (h : Fl.rg x ≤ Fl.I) : x + 1 < 2 * Fl.W := by
  have := Fl.wd_sg_rg x hx
  have : Fl.wd (Fl.sg x) (Fl.rg x) ≤ Fl.W + Fl.I := by unfold Fl.wd; split <;> omega
  have : Fl.I + 1 < Fl.W := by decide
  omega
theorem sg_pos (x : Nat) (hx : x < 2 * Fl.W) (h0 : 0 < Fl.rg x) : 0 < x := by
  rcases Nat.eq_zero_or_pos x with h | h
  · subst h; exact absurd h0 (by decide)
  · exact h

theorem next_any (x : Nat) (up : Bool) (w : World) (hx : x < 2 * Fl.W) : Calls Try.prog 66 #[.float .f64 x, .bool up] w fun e w' => e = .returned (.float .f64 (Fl.next x up)) ∧ w = w' := by
  have hb := run_bits
  have hf := run_from
  have hn : ∀ w, (Op.unary .neg (.float .f64 1)).run Try.prog w = .ok (.float .f64 (Fl.W + 1)) w := fun w => by
    rw [show Fl.W + 1 = Fl.ng 1 from rfl, ← Fl.neg_word 1 (by decide)]; rfl
  unfold Fl.next
  rcases Nat.lt_or_ge Fl.I (Fl.rg x) with h | h
  · have h1 := Fl.cmp_nan x x h
    rw [if_pos h]
    clear h hn
    go_enter Try.func66, Try.ntmps66
    go_wp2
    go_ret
    exact ⟨rfl, rfl⟩
  · have h1 := Fl.cmp_self x h
    rw [if_neg (by omega)]
    by_cases hI : Fl.rg x = Fl.I
    · have hI' : decide (Fl.rg x = Fl.I) = true := decide_eq_true hI
      have h0 : 0 < Fl.rg x := by rw [hI]; decide
      have H0 := Lib.hid h0
      have HI := Lib.hid hI
      have HH := Lib.hid h
      cases hs : Fl.sg x
      · have h2 := Fl.cmp0_gt x h0 h hs
        cases up
        · rw [if_neg (by simp), if_neg (by omega), if_neg (by simp)]
          clear h h0 hI
          go_enter Try.func66, Try.ntmps66
          go_wp2_with (first | (go_at_call 31; refine (isinf_down _ _ hx).mono ?_; rintro e w' ⟨rfl, rfl⟩))
          go_ret
          exact ⟨ret_fl (u64_pred x hx (sg_pos x hx H0.out)), rfl⟩
        · rw [if_pos ⟨hI, rfl⟩]
          clear h h0 hI
          go_enter Try.func66, Try.ntmps66
          go_wp2_with (first | (go_at_call 31; refine (isinf_up _ _).mono ?_; rintro e w' ⟨rfl, rfl⟩))
          go_ret
          exact ⟨rfl, rfl⟩
      · have h2 := Fl.cmp0_lt x h0 h hs
        cases up
        · rw [if_pos ⟨hI, rfl⟩]
          clear h h0 hI
          go_enter Try.func66, Try.ntmps66
          go_wp2_with (first | (go_at_call 31; refine (isinf_down _ _ hx).mono ?_; rintro e w' ⟨rfl, rfl⟩))
          go_ret
          exact ⟨rfl, rfl⟩
        · rw [if_neg (by simp), if_neg (by omega), if_neg (by simp)]
          clear h h0 hI
          go_enter Try.func66, Try.ntmps66
          go_wp2_with (first | (go_at_call 31; refine (isinf_up _ _).mono ?_; rintro e w' ⟨rfl, rfl⟩))
          go_ret
          exact ⟨ret_fl (u64_pred x hx (sg_pos x hx H0.out)), rfl⟩
    · have hI' : decide (Fl.rg x = Fl.I) = false := decide_eq_false hI
      rw [if_neg (by simp [hI])]
      have HH := Lib.hid h
      by_cases hz : Fl.rg x = 0
      · have h2 := Fl.cmp0_eq x hz
        rw [if_pos hz]
        cases up
        · rw [if_neg (by simp)]
          clear h hz hI
          go_enter Try.func66, Try.ntmps66
          go_wp2_with (first | (go_at_call 31; refine (isinf_down _ _ hx).mono ?_; rintro e w' ⟨rfl, rfl⟩))
          go_ret
          exact ⟨rfl, rfl⟩
        · rw [if_pos rfl]
          clear h hz hI
          go_enter Try.func66, Try.ntmps66
          go_wp2_with (first | (go_at_call 31; refine (isinf_up _ _).mono ?_; rintro e w' ⟨rfl, rfl⟩))
          go_ret
          exact ⟨rfl, rfl⟩
      · have h0 : 0 < Fl.rg x := by omega
        have H0 := Lib.hid h0
        rw [if_neg hz]
        cases hs : Fl.sg x
        · have h2 := Fl.cmp0_gt x h0 h hs
          cases up
          · rw [if_neg (by simp)]
            clear h h0 hI hz
            go_enter Try.func66, Try.ntmps66
            go_wp2_with (first | (go_at_call 31; refine (isinf_down _ _ hx).mono ?_; rintro e w' ⟨rfl, rfl⟩))
            go_ret
            exact ⟨ret_fl (u64_pred x hx (sg_pos x hx H0.out)), rfl⟩
          · rw [if_pos (by simp)]
            clear h h0 hI hz
            go_enter Try.func66, Try.ntmps66
            go_wp2_with (first | (go_at_call 31; refine (isinf_up _ _).mono ?_; rintro e w' ⟨rfl, rfl⟩))
            go_ret
            exact ⟨ret_fl (u64_succ x (rg_succ_lt x hx HH.out)), rfl⟩
        · have h2 := Fl.cmp0_lt x h0 h hs
          cases up
          · rw [if_pos (by simp)]
            clear h h0 hI hz
            go_enter Try.func66, Try.ntmps66
            go_wp2_with (first | (go_at_call 31; refine (isinf_down _ _ hx).mono ?_; rintro e w' ⟨rfl, rfl⟩))
            go_ret
            exact ⟨ret_fl (u64_succ x (rg_succ_lt x hx HH.out)), rfl⟩
          · rw [if_neg (by simp)]
            clear h h0 hI hz
            go_enter Try.func66, Try.ntmps66
            go_wp2_with (first | (go_at_call 31; refine (isinf_up _ _).mono ?_; rintro e w' ⟨rfl, rfl⟩))
            go_ret
            exact ⟨ret_fl (u64_pred x hx (sg_pos x hx H0.out)), rfl⟩
end Go.Proofs.Ytanpcieipgdnkaa

namespace Go.Proofs.Ytanpcieipgdnkaa
open Go.RowKit

/-- The same floats: one word, or both NaN. -/
def Fl.Same (a b : Nat) : Prop := a = b ∨ (Fl.I < Fl.rg a ∧ Fl.I < Fl.rg b)

theorem same_yes (a b : Nat) (w : World) (h : Fl.Same a b) : Calls Try.prog 24 #[.float .f64 a, .float .f64 b] w fun e w' => e = .returned (.bool true) ∧ w = w' := by
  have hb := run_bits
  by_cases he : a = b
  · subst he
    clear h
    go_enter Try.func24, Try.ntmps24
    go_wp2
    go_ret
    exact ⟨rfl, rfl⟩
  · have hn : Fl.I < Fl.rg a ∧ Fl.I < Fl.rg b := by rcases h with h | h; exact absurd h he; exact h
    have h1 := Fl.cmp_nan a a hn.1
    have h2 := Fl.cmp_nan b b hn.2
    have h3 : ((a : Int) == (b : Int)) = false := by simp; omega
    clear h hn he
    go_enter Try.func24, Try.ntmps24
    go_wp2
    go_ret
    exact ⟨rfl, rfl⟩
/-- Alike: equal, or both NaN. -/
def Fl.Like (a b : Nat) : Prop := (Fl.rg a ≤ Fl.I ∧ Fl.rg b ≤ Fl.I ∧ Fl.key a = Fl.key b) ∨ (Fl.I < Fl.rg a ∧ Fl.I < Fl.rg b)
/-! ### the reference's Next -/
theorem most_no (x : Nat) (h : Fl.rg x < Fl.I) : (FloatKind.f64.format.order x 9218868437227405311 == some .gt) = false := by
  rw [Fl.gt_most, decide_eq_false (by omega)]; rfl
theorem Fl.next_lt (x : Nat) (up : Bool) (hx : x < 2 * Fl.W) : Fl.next x up < 2 * Fl.W := by
  unfold Fl.next
  split
  · exact hx
  · rename_i h
    have := rg_succ_lt x hx (by omega)
    split
    · exact hx
    · split
      · split <;> decide
      · split <;> omega
theorem Fl.next_ng (x : Nat) (hx : x < 2 * Fl.W) : Fl.ng (Fl.next (Fl.ng x) true) = Fl.next x false := by
  unfold Fl.next
  rw [Fl.rg_ng x hx, Fl.sg_ng x hx]
  have hI : Fl.I < Fl.W := by decide
  split
  · exact Fl.ng_ng x hx
  · rename_i h
    cases hs : Fl.sg x
    · simp only [Bool.not_false, Bool.not_true]
      by_cases h1 : Fl.rg x = Fl.I
      · have h0 : ¬ Fl.rg x = 0 := by rw [h1]; decide
        simp only [h1, Bool.true_eq_false, Bool.false_eq_true, and_false, if_false]
        rw [if_neg (by decide)]
        have e : x = Fl.rg x := by have := Fl.wd_sg_rg x hx; rw [hs] at this; exact this.symm
        have : Fl.ng x = Fl.W + x := by unfold Fl.ng; rw [hs]; simp; omega
        rw [this]
        have : Fl.W + x - 1 = Fl.wd true (x - 1) := by unfold Fl.wd; simp; rw [e, h1]; decide
        rw [this, Fl.ng_wd _ _ (by rw [e, h1]; decide)]; rfl
      · simp only [h1, false_and, if_false]
        by_cases h2 : Fl.rg x = 0
        · rw [if_pos h2, if_pos h2]; rfl
        · rw [if_neg h2, if_neg h2, if_neg (by simp), if_neg (by simp)]
          have e : x = Fl.rg x := by have := Fl.wd_sg_rg x hx; rw [hs] at this; exact this.symm
          have : Fl.ng x = Fl.W + x := by unfold Fl.ng; rw [hs]; simp; omega
          rw [this]
          have hl := Fl.rg_lt x
          have : Fl.W + x - 1 = Fl.wd true (x - 1) := by unfold Fl.wd; simp; omega
          rw [this, Fl.ng_wd _ _ (by omega)]; rfl
    · simp only [Bool.not_false, Bool.not_true]
      have e : x = Fl.W + Fl.rg x := by have := Fl.wd_sg_rg x hx; rw [hs] at this; exact this.symm
      have hn : Fl.ng x = Fl.rg x := by unfold Fl.ng; rw [hs]; simp; omega
      by_cases h1 : Fl.rg x = Fl.I
      · simp only [h1, and_self, if_true]
        exact Fl.ng_ng x hx
      · simp only [h1, false_and, if_false]
        by_cases h2 : Fl.rg x = 0
        · rw [if_pos h2, if_pos h2]; rfl
        · rw [if_neg h2, if_neg h2]
          simp only [if_true]
          rw [hn]
          have : Fl.rg x + 1 = Fl.wd false (Fl.rg x + 1) := rfl
          rw [this, Fl.ng_wd _ _ (by omega)]
          unfold Fl.wd; simp; omega
theorem run_neg (x : Nat) (hx : x < 2 * Fl.W) (w : World) : (Op.unary .neg (.float .f64 x)).run Try.prog w = .ok (.float .f64 (Fl.ng x)) w := by
  rw [← Fl.neg_word x hx]; rfl
end Go.Proofs.Ytanpcieipgdnkaa

namespace Go.Proofs.Ytanpcieipgdnkaa
open Go.RowKit

theorem decode64 (x : Nat) : FloatKind.f64.decode x = Ieee.double.read x := rfl
theorem encode64 (d : Ieee.Datum) : FloatKind.f64.encode d = Ieee.double.write d := rfl
theorem toIntegral_ex (x : Nat) (way : Ieee.Toward) (name : String) : ∃ f : Bool → Nat → Sem Value, Extern.MathFloor.toIntegral name way #[.float .f64 x] = (match FloatKind.f64.decode x with | .nan s t => f s t | d => pure (.float .f64 (FloatKind.f64.encode (d.integral way)))) := ⟨_, rfl⟩
theorem integral_num (x : Nat) (h : Fl.rg x < Fl.I) (way : Ieee.Toward) (k : Nat) (hk : (Ieee.double.read x).integral way = .number (Fl.sg x) k 0) (name : String) (w : World) :
    (Extern.MathFloor.toIntegral name way #[.float .f64 x]).run Try.prog w = .ok (.float .f64 (Fl.rnd (Fl.sg x) (k * Fl.U))) w := by
  have hr := Fl.read_fin x h
  obtain ⟨f, hf⟩ := toIntegral_ex x way name
  rw [hf, decode64, ← Fl.write_whole, ← hk, hr]
  rfl
/-- What Trunc and RoundToEven tell of finite floats. -/
noncomputable def Fl.tr (x : Nat) : Nat := Fl.rnd (Fl.sg x) (Fl.wh x * Fl.U)
noncomputable def Fl.rte (x : Nat) : Nat := Fl.rnd (Fl.sg x) (Fl.nk x * Fl.U)
/-! ### floats against 2^53 -/
theorem Fl.key_pos (r : Nat) (h : r < Fl.W) : Fl.key r = r := by
  have h1 : Fl.rg r = r := Nat.mod_eq_of_lt h
  have h2 : Fl.sg r = false := by unfold Fl.sg; rw [Nat.div_eq_of_lt h]; rfl
  unfold Fl.key; rw [h1, h2]; rfl
theorem Fl.ord_pos (a b : Nat) (ha : a ≤ Fl.I) (hb : b ≤ Fl.I) : FloatKind.f64.format.order a b = some (compare (a : Int) (b : Int)) := by
  have hI : Fl.I < Fl.W := by decide
  have := Fl.order_key a b (by rw [Fl.rg, Nat.mod_eq_of_lt (by omega)]; exact ha) (by rw [Fl.rg, Nat.mod_eq_of_lt (by omega)]; exact hb)
  rw [Fl.key_pos a (by omega), Fl.key_pos b (by omega)] at this
  exact this
theorem Fl.lo53 (x : Nat) (h : Fl.rg x ≤ Fl.I) : (FloatKind.f64.format.order x 14069245235905429504 == some .gt || FloatKind.f64.format.order x 14069245235905429504 == some .eq) = decide (Fl.sg x = false ∨ Fl.rg x ≤ Fl.c53) := by
  have e : FloatKind.f64.format.order x 14069245235905429504 = some (compare (Fl.key x) (Fl.key 14069245235905429504)) := Fl.order_key _ _ h (by decide)
  have k : Fl.key 14069245235905429504 = -4845873199050653696 := by decide
  rw [e, k, Fl.compare_int]
  unfold Fl.key Fl.c53
  cases Fl.sg x
  · simp only [Bool.false_eq_true, if_false]
    rw [if_neg (by omega), if_neg (by omega)]; simp
  · simp only [if_true]
    rcases Int.lt_trichotomy (-(Fl.rg x : Int)) (-4845873199050653696) with h1 | h1 | h1
    · rw [if_pos h1, decide_eq_false (by simp; omega)]; rfl
    · rw [if_neg (by omega), if_pos h1, decide_eq_true (by right; omega)]; rfl
    · rw [if_neg (by omega), if_neg (by omega), decide_eq_true (by right; omega)]; rfl
theorem Fl.hi53 (x : Nat) (h : Fl.rg x ≤ Fl.I) : (FloatKind.f64.format.order x 4845873199050653696 == some .lt || FloatKind.f64.format.order x 4845873199050653696 == some .eq) = decide (Fl.sg x = true ∨ Fl.rg x ≤ Fl.c53) := by
  have e : FloatKind.f64.format.order x 4845873199050653696 = some (compare (Fl.key x) (Fl.key 4845873199050653696)) := Fl.order_key _ _ h (by decide)
  have k : Fl.key 4845873199050653696 = 4845873199050653696 := by decide
  rw [e, k, Fl.compare_int]
  unfold Fl.key Fl.c53
  cases Fl.sg x
  · simp only [Bool.false_eq_true, if_false]
    rcases Int.lt_trichotomy (Fl.rg x : Int) 4845873199050653696 with h1 | h1 | h1
    · rw [if_pos h1, decide_eq_true (by right; omega)]; rfl
    · rw [if_neg (by omega), if_pos h1, decide_eq_true (by right; omega)]; rfl
    · rw [if_neg (by omega), if_neg (by omega), decide_eq_false (by simp; omega)]; rfl
  · simp only [if_true]
    rw [if_pos (by omega)]; simp
theorem Fl.abs53 (x : Nat) (h : Fl.rg x ≤ Fl.I) : FloatKind.f64.format.order (Fl.rg x) 4845873199050653696 = some (compare (Fl.rg x : Int) 4845873199050653696) := Fl.ord_pos _ _ h (by decide)

/-- Is it a whole number of a size up to 2^53? -/
noncomputable def Fl.isW (x : Nat) : Bool := decide (Fl.rg x ≤ Fl.c53 ∧ Fl.wh x * Fl.U = Fl.rv (Fl.rg x))
noncomputable def Fl.whI (x : Nat) : Int := if Fl.isW x then Fl.sgi (Fl.sg x) (Fl.wh x) else 0

theorem Fl.wh_eq (x : Nat) (h : Fl.rg x ≤ Fl.c53) (t : Bool) (ht : t = Fl.sg x ∨ Fl.wh x = 0) :
    FloatKind.f64.format.order x (Fl.rnd t (Fl.wh x * Fl.U)) = some .eq ∧ Fl.wh x * Fl.U = Fl.rv (Fl.rg x) ∨
    (∃ o, FloatKind.f64.format.order x (Fl.rnd t (Fl.wh x * Fl.U)) = some o ∧ o ≠ .eq) ∧ Fl.wh x * Fl.U ≠ Fl.rv (Fl.rg x) := by
  have hc := Fl.c53_lt
  obtain ⟨h1, h2⟩ := Fl.whole_rr (Fl.wh x) (Fl.wh_le x h)
  have e : FloatKind.f64.format.order x (Fl.rnd t (Fl.wh x * Fl.U)) = some (compare (Fl.key x) (Fl.key (Fl.rnd t (Fl.wh x * Fl.U)))) := Fl.order_key _ _ (by omega) (by rw [Fl.rg_rnd]; omega)
  have k : Fl.key (Fl.rnd t (Fl.wh x * Fl.U)) = if t then -(Fl.rr (Fl.wh x * Fl.U) : Int) else (Fl.rr (Fl.wh x * Fl.U) : Int) := by
    unfold Fl.key; rw [Fl.rg_rnd, Fl.sg_rnd]
  have hz : Fl.wh x = 0 → Fl.rr (Fl.wh x * Fl.U) = 0 := fun h => by rw [h, Nat.zero_mul, Fl.rr_zero]
  by_cases he : Fl.wh x * Fl.U = Fl.rv (Fl.rg x)
  · left
    refine ⟨?_, he⟩
    have hr : Fl.rr (Fl.wh x * Fl.U) = Fl.rg x := by rw [he]; exact Fl.rr_exact _ (by omega)
    rw [e, k, Fl.compare_int]
    unfold Fl.key
    rw [hr]
    rcases ht with rfl | ht
    · cases Fl.sg x <;> simp
    · have := hz ht; rw [hr] at this; rw [this]; cases Fl.sg x <;> cases t <;> simp
  · right
    refine ⟨⟨_, e, ?_⟩, he⟩
    have hr : Fl.rr (Fl.wh x * Fl.U) ≠ Fl.rg x := fun h3 => he (by rw [← h1, h3])
    rw [k, Fl.compare_int]
    unfold Fl.key
    generalize Fl.rr (Fl.wh x * Fl.U) = q at *
    rcases ht with rfl | ht
    · cases Fl.sg x
      · simp only [Bool.false_eq_true, if_false]; split; decide; rw [if_neg (by omega)]; decide
      · simp only [if_true]; split; decide; rw [if_neg (by omega)]; decide
    · have := hz ht; subst this
      cases Fl.sg x <;> cases t <;> simp only [Bool.false_eq_true, if_false, if_true] <;> (split; decide; rw [if_neg (by omega)]; decide)

theorem Fl.inInt (s : Bool) (k : Nat) (h : k ≤ 9007199254740992) : IntKind.i64.min ≤ Fl.sgi s k ∧ Fl.sgi s k ≤ IntKind.i64.max := by
  have h1 : IntKind.i64.min = -9223372036854775808 := rfl
  have h2 : IntKind.i64.max = 9223372036854775807 := rfl
  rw [h1, h2]
  unfold Fl.sgi
  split <;> omega
theorem run_int_trunc (src dst : TypeId) (hs : (Try.prog.underlying src).isSome = true) (hd : Try.prog.underlying dst = some (.int .i64)) (x : Nat) (h : Fl.rg x ≤ Fl.c53) (w : World) : (convert src dst (.float .f64 x)).run Try.prog w = .ok (.int .i64 (Fl.sgi (Fl.sg x) (Fl.wh x))) w := by
  refine run_convert_float_int w src dst .f64 .i64 x _ hs hd ?_
  unfold floatToIntVal
  rw [decode64, Fl.toInt_zero x (Nat.lt_of_le_of_lt h Fl.c53_lt)]
  dsimp only
  rw [if_pos (Fl.inInt _ _ (Fl.wh_le x h))]
/-- Of a whole number's word. -/
theorem run_int_whole (src dst : TypeId) (hs : (Try.prog.underlying src).isSome = true) (hd : Try.prog.underlying dst = some (.int .i64)) (s : Bool) (k : Nat) (h : k ≤ 9007199254740992) (w : World) : (convert src dst (.float .f64 (Fl.rnd s (k * Fl.U)))).run Try.prog w = .ok (.int .i64 (Fl.sgi s k)) w := by
  obtain ⟨h1, h2⟩ := Fl.whole_rr k h
  have hr := Fl.rg_rnd s (k * Fl.U)
  have hw : Fl.wh (Fl.rnd s (k * Fl.U)) = k := by
    unfold Fl.wh; rw [hr, h1]; exact Nat.mul_div_cancel _ Fl.U_pos
  have hc : Fl.rg (Fl.rnd s (k * Fl.U)) ≤ Fl.c53 := by
    rw [hr, ← Fl.rv_le_iff, h1, Fl.rv_c53]; exact Nat.mul_le_mul_right _ h
  have := run_int_trunc src dst hs hd _ hc w
  rw [hw, Fl.sg_rnd] at this
  exact this

theorem ret_W {n m : Int} {b c : Bool} (h1 : n = m) (h2 : b = c) : Ending.returned (.tuple #[.int .i64 n, .bool b]) = .returned (.tuple #[.int .i64 m, .bool c]) := by rw [h1, h2]
theorem isW_no (x : Nat) (h : ¬ (Fl.rg x ≤ Fl.c53 ∧ Fl.wh x * Fl.U = Fl.rv (Fl.rg x))) : Fl.isW x = false := decide_eq_false h
theorem isW_yes (x : Nat) (h : Fl.rg x ≤ Fl.c53 ∧ Fl.wh x * Fl.U = Fl.rv (Fl.rg x)) : Fl.isW x = true := decide_eq_true h

theorem abs_le53 (x : Nat) (hc : Fl.rg x ≤ Fl.c53) : FloatKind.f64.format.order (Fl.rg x) 4845873199050653696 = some .lt ∨ FloatKind.f64.format.order (Fl.rg x) 4845873199050653696 = some .eq := by
  have cl := Fl.c53_lt
  rw [Fl.abs53 x (by omega), Fl.compare_int]
  unfold Fl.c53 at hc
  by_cases h : (Fl.rg x : Int) < 4845873199050653696
  · left; rw [if_pos h]
  · right; rw [if_neg h, if_pos (by omega)]
theorem abs_gt53 (x : Nat) (hc : ¬ Fl.rg x ≤ Fl.c53) : FloatKind.f64.format.order (Fl.rg x) 4845873199050653696 = some .gt ∨ FloatKind.f64.format.order (Fl.rg x) 4845873199050653696 = none := by
  rcases Nat.lt_or_ge Fl.I (Fl.rg x) with h | h
  · right; exact Fl.cmp_nan _ _ (by rw [show Fl.rg (Fl.rg x) = Fl.rg x from Nat.mod_eq_of_lt (Fl.rg_lt x)]; exact h)
  · left
    rw [Fl.abs53 x h, Fl.compare_int]
    unfold Fl.c53 at hc
    rw [if_neg (by omega), if_neg (by omega)]

theorem isW_dec (x : Nat) (hc : Fl.rg x ≤ Fl.c53) : (FloatKind.f64.format.order x (Fl.tr x) == some .eq) = Fl.isW x := by
  rcases Fl.wh_eq x hc (Fl.sg x) (.inl rfl) with ⟨ho, he⟩ | ⟨⟨o, ho, hne⟩, he⟩
  · rw [isW_yes x ⟨hc, he⟩, Fl.tr, ho]; rfl
  · rw [isW_no x (fun h => he h.2), Fl.tr, ho]
    cases o <;> first | rfl | exact absurd rfl hne
end Go.Proofs.Ytanpcieipgdnkaa

namespace Go.Proofs.Ytanpcieipgdnkaa
open Go.RowKit

theorem in53 (x : Nat) (h : Fl.rg x ≤ Fl.c53) : (FloatKind.f64.format.order x 14069245235905429504 = some .gt ∨ FloatKind.f64.format.order x 14069245235905429504 = some .eq) ∧ (FloatKind.f64.format.order x 4845873199050653696 = some .lt ∨ FloatKind.f64.format.order x 4845873199050653696 = some .eq) := by
  have cl := Fl.c53_lt
  have h1 := Fl.lo53 x (by omega)
  have h2 := Fl.hi53 x (by omega)
  rw [decide_eq_true (.inr h)] at h1 h2
  exact ⟨by simpa using h1, by simpa using h2⟩
theorem out53 (x : Nat) (h : ¬ Fl.rg x ≤ Fl.c53) : FloatKind.f64.format.order x 14069245235905429504 = none ∨ FloatKind.f64.format.order x 14069245235905429504 = some .lt ∨ (FloatKind.f64.format.order x 14069245235905429504 = some .gt ∧ FloatKind.f64.format.order x 4845873199050653696 = some .gt) := by
  rcases Nat.lt_or_ge Fl.I (Fl.rg x) with h0 | h0
  · exact .inl (Fl.cmp_nan _ _ h0)
  · right
    cases hs : Fl.sg x
    · right
      refine ⟨Fl.order_gt _ _ h0 (by decide) ?_, Fl.order_gt _ _ h0 (by decide) ?_⟩
      · rw [show Fl.key 14069245235905429504 = -4845873199050653696 by decide]; unfold Fl.key; rw [hs]; simp; omega
      · rw [show Fl.key 4845873199050653696 = 4845873199050653696 by decide]; unfold Fl.key; rw [hs]; unfold Fl.c53 at h; simp; omega
    · left
      refine Fl.order_lt _ _ h0 (by decide) ?_
      rw [show Fl.key 14069245235905429504 = -4845873199050653696 by decide]; unfold Fl.key; rw [hs]; unfold Fl.c53 at h; simp; omega

theorem ord_eq_symm (x y : Nat) : (FloatKind.f64.format.order x y == some .eq) = (FloatKind.f64.format.order y x == some .eq) := by
  rcases Nat.lt_or_ge Fl.I (Fl.rg x) with h | h
  · rw [show FloatKind.f64.format.order x y = none from Fl.order_nan _ _ (.inl h), show FloatKind.f64.format.order y x = none from Fl.order_nan _ _ (.inr h)]
  · rcases Nat.lt_or_ge Fl.I (Fl.rg y) with h2 | h2
    · rw [show FloatKind.f64.format.order x y = none from Fl.order_nan _ _ (.inr h2), show FloatKind.f64.format.order y x = none from Fl.order_nan _ _ (.inl h2)]
    · rw [show FloatKind.f64.format.order x y = _ from Fl.order_key _ _ h h2, show FloatKind.f64.format.order y x = _ from Fl.order_key _ _ h2 h, Fl.compare_int, Fl.compare_int]
      rcases Int.lt_trichotomy (Fl.key x) (Fl.key y) with h3 | h3 | h3
      · rw [if_pos h3, if_neg (by omega), if_neg (by omega)]; rfl
      · rw [h3]
      · rw [if_neg (by omega), if_neg (by omega), if_pos h3]; rfl

theorem fi_dec (x : Nat) (hc : Fl.rg x ≤ Fl.c53) : (FloatKind.f64.format.order (floatOfInt .f64 (Fl.sgi (Fl.sg x) (Fl.wh x))) x == some .eq) = Fl.isW x := by
  rw [ord_eq_symm, Fl.ofInt_sgi]
  have ht : (Fl.sg x && decide (0 < Fl.wh x)) = Fl.sg x ∨ Fl.wh x = 0 := by
    by_cases h : 0 < Fl.wh x
    · left; rw [decide_eq_true h, Bool.and_true]
    · right; omega
  rcases Fl.wh_eq x hc _ ht with ⟨ho, he⟩ | ⟨⟨o, ho, hne⟩, he⟩
  · rw [isW_yes x ⟨hc, he⟩, ho]; rfl
  · rw [isW_no x (fun h => he h.2), ho]
    cases o <;> first | rfl | exact absurd rfl hne
/-! ### Nearest -/
/-- What Nearest tells: the whole number, how far it is, the error. -/
def Fl.nearN (x : Nat) : Int := if Fl.rg x ≤ Fl.c53 then Fl.sgi (Fl.sg x) (Fl.nk x) else 0
noncomputable def Fl.nearD (x : Nat) : Nat := if Fl.rg x ≤ Fl.c53 then Fl.rr (Fl.dist (Fl.rv (Fl.rg x)) (Fl.nk x)) else 0
def Fl.nearE (x : Nat) : Int := if Fl.rg x ≤ Fl.c53 then 0 else if Fl.rg x < Fl.I then 6 else 5
def NPost (x : Nat) (w : World) (e : Ending) (w' : World) : Prop := e = .returned (.tuple #[.int .i64 (Fl.nearN x), .float .f64 (Fl.nearD x), .int .i64 (Fl.nearE x)]) ∧ Dr w w'

end Go.Proofs.Ytanpcieipgdnkaa

namespace Go.Proofs.Ytanpcieipgdnkaa
open Go.RowKit

def gtB (o : Ordering) : Bool := o == .gt
/-! ### which whole number -/
theorem Fl.wh_le_rv (x : Nat) : Fl.wh x * Fl.U ≤ Fl.rv (Fl.rg x) := Nat.div_mul_le_self _ _
theorem Fl.rv_lt_wh (x : Nat) : Fl.rv (Fl.rg x) < (Fl.wh x + 1) * Fl.U := by
  have := Nat.div_add_mod (Fl.rv (Fl.rg x)) Fl.U
  have h2 := Nat.mod_lt (Fl.rv (Fl.rg x)) Fl.U_pos
  have h3 : Fl.U * (Fl.rv (Fl.rg x) / Fl.U) = Fl.wh x * Fl.U := Nat.mul_comm _ _
  rw [Nat.add_mul, Nat.one_mul]; omega
theorem Fl.cut_of (n k : Nat) (h1 : 2 * n ≤ (2 * k + 1) * Fl.U) (h2 : 2 * n = (2 * k + 1) * Fl.U → k % 2 = 0) (h3 : 2 * k * Fl.U ≤ 2 * n + Fl.U) (h4 : 2 * k * Fl.U = 2 * n + Fl.U → k % 2 = 0) : Fl.Cut n Fl.E k := by
  rw [Fl.U_def] at h1 h2 h3 h4
  exact ⟨h1, h2, h3, h4⟩
theorem Fl.nk_is (x k : Nat) (h1 : 2 * Fl.rv (Fl.rg x) ≤ (2 * k + 1) * Fl.U) (h2 : 2 * Fl.rv (Fl.rg x) = (2 * k + 1) * Fl.U → k % 2 = 0) (h3 : 2 * k * Fl.U ≤ 2 * Fl.rv (Fl.rg x) + Fl.U) (h4 : 2 * k * Fl.U = 2 * Fl.rv (Fl.rg x) + Fl.U → k % 2 = 0) : Fl.nk x = k :=
  (Fl.nk_cut x).eq (Fl.cut_of _ _ h1 h2 h3 h4)
theorem Fl.dist_wh (x : Nat) : Fl.dist (Fl.rv (Fl.rg x)) (Fl.wh x) + Fl.wh x * Fl.U = Fl.rv (Fl.rg x) := by
  have := Fl.wh_le_rv x
  unfold Fl.dist
  generalize Fl.wh x * Fl.U = q at *
  omega
/-- The nearest one, by how far the whole part is. -/
theorem Fl.nk_lo (x : Nat) (h : 2 * Fl.dist (Fl.rv (Fl.rg x)) (Fl.wh x) < Fl.U ∨ (2 * Fl.dist (Fl.rv (Fl.rg x)) (Fl.wh x) = Fl.U ∧ Fl.wh x % 2 = 0)) : Fl.nk x = Fl.wh x := by
  have h1 := Fl.dist_wh x
  have e1 : (2 * Fl.wh x + 1) * Fl.U = 2 * (Fl.wh x * Fl.U) + Fl.U := by rw [Nat.add_mul, Nat.one_mul, Nat.mul_assoc]
  have e2 : 2 * Fl.wh x * Fl.U = 2 * (Fl.wh x * Fl.U) := Nat.mul_assoc _ _ _
  have hU := Fl.U_pos
  apply Fl.nk_is
  all_goals (try rw [e1]); (try rw [e2]); generalize Fl.wh x * Fl.U = q at *; generalize Fl.dist (Fl.rv (Fl.rg x)) (Fl.wh x) = d at *; generalize Fl.U = u at *; generalize Fl.wh x = v at *; omega
theorem Fl.nk_hi (x : Nat) (h : Fl.U < 2 * Fl.dist (Fl.rv (Fl.rg x)) (Fl.wh x) ∨ (2 * Fl.dist (Fl.rv (Fl.rg x)) (Fl.wh x) = Fl.U ∧ Fl.wh x % 2 = 1)) : Fl.nk x = Fl.wh x + 1 := by
  have h1 := Fl.dist_wh x
  have h0 := Fl.rv_lt_wh x
  have e0 : (Fl.wh x + 1) * Fl.U = Fl.wh x * Fl.U + Fl.U := by rw [Nat.add_mul, Nat.one_mul]
  have e1 : (2 * (Fl.wh x + 1) + 1) * Fl.U = 2 * (Fl.wh x * Fl.U) + 3 * Fl.U := by
    rw [Nat.add_mul, Nat.one_mul, Nat.mul_assoc, e0]; omega
  have e2 : 2 * (Fl.wh x + 1) * Fl.U = 2 * (Fl.wh x * Fl.U) + 2 * Fl.U := by rw [Nat.mul_assoc, e0]; omega
  rw [e0] at h0
  have hU := Fl.U_pos
  apply Fl.nk_is
  all_goals (try rw [e1]); (try rw [e2]); generalize Fl.wh x * Fl.U = q at *; generalize Fl.dist (Fl.rv (Fl.rg x)) (Fl.wh x) = d at *; generalize Fl.U = u at *; generalize Fl.wh x = v at *; omega

/-- How far the whole part is, is a float. -/
theorem Fl.ex_c53 (r : Nat) (h : r ≤ Fl.c53) : Fl.ex r ≤ 1075 := by
  unfold Fl.ex Fl.B Fl.c53 at *; omega
theorem Fl.dist_wh_rep (x : Nat) (h : Fl.rg x ≤ Fl.c53) : Fl.rv (Fl.rr (Fl.dist (Fl.rv (Fl.rg x)) (Fl.wh x))) = Fl.dist (Fl.rv (Fl.rg x)) (Fl.wh x) := by
  have hc := Fl.c53_lt
  by_cases he : Fl.ex (Fl.rg x) ≤ 1074
  · refine (Fl.dist_rep (Fl.rg x) (Fl.wh x) (by omega) ?_ he).1
    have := Fl.dist_wh x; omega
  · have : Fl.rg x = Fl.c53 := by unfold Fl.ex Fl.B Fl.c53 at *; omega
    have hw : Fl.wh x = 9007199254740992 := by
      unfold Fl.wh; rw [this, Fl.rv_c53]; exact Nat.mul_div_cancel _ Fl.U_pos
    have hd := Fl.dist_wh x
    rw [this, Fl.rv_c53, hw] at hd
    have : Fl.dist (Fl.rv (Fl.rg x)) (Fl.wh x) = 0 := by rw [this, Fl.rv_c53, hw]; generalize 9007199254740992 * Fl.U = q at *; omega
    rw [this, Fl.rr_zero, Fl.rv_zero]
theorem Fl.half_aux (n r c u : Nat) (h : Fl.rv r = n) (hu : 2 * Fl.rv c = u) : (if (r : Int) < (c : Int) then Ordering.lt else if (r : Int) = (c : Int) then .eq else .gt) = (if 2 * n < u then .lt else if 2 * n = u then .eq else .gt) := by
  rcases Nat.lt_trichotomy r c with h1 | h1 | h1
  · have := Fl.rv_mono h1
    rw [if_pos (by omega), if_pos (by omega)]
  · subst h1
    rw [if_neg (by omega), if_pos rfl, if_neg (by omega), if_pos (by omega)]
  · have := Fl.rv_mono h1
    rw [if_neg (by omega), if_neg (by omega), if_neg (by omega), if_neg (by omega)]
theorem Fl.half_ord (n : Nat) (h : Fl.rv (Fl.rr n) = n) : FloatKind.f64.format.order (Fl.rr n) 4602678819172646912 = some (if 2 * n < Fl.U then .lt else if 2 * n = Fl.U then .eq else .gt) := by
  rw [Fl.ord_pos _ _ (Fl.rnd_rr false n).2 (by decide), Fl.compare_int]
  exact congrArg some (Fl.half_aux n (Fl.rr n) 4602678819172646912 Fl.U h Fl.rv_half)
theorem Fl.tmod_nat (k : Nat) : Int.tmod (k : Int) 2 = ((k % 2 : Nat) : Int) := by
  rw [Int.tmod_eq_emod_of_nonneg (by omega)]; omega
theorem Fl.sgi_odd (s : Bool) (k : Nat) : (Int.tmod (Fl.sgi s k) 2 != 0) = decide (k % 2 = 1) := by
  unfold Fl.sgi
  cases s
  · simp only [Bool.false_eq_true, if_false]
    rw [Fl.tmod_nat]
    by_cases h : k % 2 = 1
    · rw [decide_eq_true h, bne_iff_ne]; omega
    · rw [decide_eq_false h, bne_eq_false_iff_eq]; omega
  · simp only [if_true]
    rw [Int.neg_tmod, Fl.tmod_nat]
    by_cases h : k % 2 = 1
    · rw [decide_eq_true h, bne_iff_ne]; omega
    · rw [decide_eq_false h, bne_eq_false_iff_eq]; omega

theorem ex_ord {o : Option Ordering} {a b : Ordering} (h : o = some a ∨ o = some b) : ∃ c, o = some c ∧ (c = a ∨ c = b) := by
  rcases h with h | h
  · exact ⟨_, h, .inl rfl⟩
  · exact ⟨_, h, .inr rfl⟩
theorem Fl.t_ok (x : Nat) (k : Nat) : (Fl.sg x && decide (0 < k)) = Fl.sg x ∨ k = 0 := by
  by_cases h : 0 < k
  · left; rw [decide_eq_true h, Bool.and_true]
  · right; omega
theorem run_sub_int (x : Nat) (hx : x < 2 * Fl.W) (hf : Fl.rg x < Fl.I) (k : Nat) (hk : k ≤ 9007199254740992) : ∃ s, s < 2 * Fl.W ∧ Fl.rg s = Fl.rr (Fl.dist (Fl.rv (Fl.rg x)) k) ∧ ∀ w, (binOp .sub 22 (.float .f64 x) (.float .f64 (floatOfInt .f64 (Fl.sgi (Fl.sg x) k)))).run Try.prog w = .ok (.float .f64 s) w := by
  obtain ⟨t, ht⟩ := Fl.sub_whole x hx hf _ k hk (Fl.t_ok x k)
  refine ⟨_, Fl.rnd_lt t _, Fl.rg_rnd t _, fun w => ?_⟩
  rw [Fl.ofInt_sgi]
  exact run_float_arith (P := Try.prog) w .sub 22 .f64 x _ _ ht

end Go.Proofs.Ytanpcieipgdnkaa

namespace Go.Proofs.Ytanpcieipgdnkaa
open Go.RowKit

/-- Beyond the floats. -/
def Fl.greatW (x : Nat) (up : Bool) : Nat := if up = !Fl.sg x then x else Fl.wd (Fl.sg x) 9218868437227405311
/-- The sum of finite floats, to a side. -/
def Fl.nearS (a b : Nat) : Nat := Fl.rnd (Fl.sgn2 (Fl.sg a) (Fl.sg b) (Fl.vl a + Fl.vl b)) (Fl.vl a + Fl.vl b).natAbs
def Fl.addF (a b : Nat) (up : Bool) : Nat :=
  if Fl.rg (Fl.nearS a b) = Fl.I then Fl.greatW (Fl.nearS a b) up
  else if Fl.rg (Fl.nearS a b) = 0 then (if Fl.rg a = 0 ∧ Fl.sg a = Fl.sg b then a else if up then 0 else Fl.W)
  else Fl.sideW (Fl.nearS a b) (compare (Fl.vl a + Fl.vl b) (Fl.vl (Fl.nearS a b))) (Fl.next (Fl.nearS a b) up) up
/-- What Add tells. -/
def Fl.addS (a b : Nat) (up : Bool) : Option Nat := if Fl.rg a < Fl.I ∧ Fl.rg b < Fl.I then some (Fl.addF a b up) else Ieee.double.add a b

theorem Fl.ord0 (x : Nat) (h : Fl.rg x ≤ Fl.I) : FloatKind.f64.format.order x 0 = some (compare (Fl.key x) 0) := by
  have := Fl.order_key x 0 h (by decide)
  rw [Fl.key0] at this; exact this

theorem side_any (near off : Nat) (up : Bool) (w : World) (hn : near < 2 * Fl.W) (o : Ordering) (ho : FloatKind.f64.format.order off 0 = some o) :
    Calls Try.prog 53 #[.float .f64 near, .float .f64 off, .bool up] w fun e w' => e = .returned (.float .f64 (Fl.sideW near o (Fl.next near up) up)) ∧ w = w' := by
  unfold Fl.sideW
  cases up <;> cases o
  all_goals
    simp only [reduceCtorEq, false_and, and_false, and_true, true_and, or_false, false_or, or_true, if_true, if_false]
    go_enter Try.func53, Try.ntmps53
    go_wp2_with (go_at_call 66; refine (next_any _ _ _ hn).mono ?_; rintro e w' ⟨rfl, rfl⟩)
    go_ret
    exact ⟨rfl, rfl⟩
theorem great_any (x : Nat) (up : Bool) (w : World) (hx : x < 2 * Fl.W) (h : Fl.rg x = Fl.I) :
    Calls Try.prog 51 #[.float .f64 x, .bool up] w fun e w' => e = .returned (.float .f64 (Fl.greatW x up)) ∧ w = w' := by
  unfold Fl.greatW
  have hm : (9218868437227405311 : Nat) < 2 * Fl.W := by decide
  have hr : Fl.rg 9218868437227405311 = 9218868437227405311 := by decide
  have HR := Lib.hid hr
  clear hr
  have hi : 0 < Fl.rg x := by rw [h]; decide
  cases hs : Fl.sg x
  · have h0 := Fl.cmp0_gt x hi (Nat.le_of_eq h) hs
    clear hi h
    cases up
    · simp only [Bool.not_false, Bool.false_eq_true, if_false]
      go_enter Try.func51, Try.ntmps51
      go_wp2_with (go_at_call 14; refine (copysign_any _ _ _ hm hx).mono ?_; rintro e w' ⟨rfl, rfl⟩)
      go_ret
      exact ⟨ret_fl (by rw [HR.out]), rfl⟩
    · simp only [Bool.not_false, if_true]
      go_enter Try.func51, Try.ntmps51
      go_wp2
      go_ret
      exact ⟨rfl, rfl⟩
  · have h0 := Fl.cmp0_lt x hi (Nat.le_of_eq h) hs
    clear hi h
    cases up
    · simp only [Bool.not_true, if_true]
      go_enter Try.func51, Try.ntmps51
      go_wp2
      go_ret
      exact ⟨rfl, rfl⟩
    · simp only [Bool.not_true, Bool.true_eq_false, if_false]
      go_enter Try.func51, Try.ntmps51
      go_wp2_with (go_at_call 14; refine (copysign_any _ _ _ hm hx).mono ?_; rintro e w' ⟨rfl, rfl⟩)
      go_ret
      exact ⟨ret_fl (by rw [HR.out]), rfl⟩

/-- An operand that is not finite: Go's own sum. -/
theorem add_not (a b : Nat) (up : Bool) (w : World) (ha : a < 2 * Fl.W) (hb : b < 2 * Fl.W) (h : ¬ (Fl.rg a < Fl.I ∧ Fl.rg b < Fl.I)) :
    Calls Try.prog 39 #[.float .f64 a, .float .f64 b, .bool up] w (FlPost (Ieee.double.add a b) w) := by
  obtain ⟨s, w1, hr, hs, hw1⟩ := run_float_any .add 22 a b w (by simp)
  have HD : Hid (Dr w w1) := by rcases hw1 with rfl | rfl; exact Dr.refl _; exact Dr.drew _
  have HS : Hid (Fl.Is (Ieee.double.add a b) s) := hs
  clear hs hw1
  by_cases hfa : Fl.rg a < Fl.I
  · have hfb : ¬ Fl.rg b < Fl.I := fun h2 => h ⟨hfa, h2⟩
    clear h
    go_enter Try.func39, Try.ntmps39
    go_wp2_with fail
    refine (finite_yes a _ ha hfa).mono ?_
    rintro e w' ⟨rfl, rfl⟩
    go_wp2_with fail
    refine (finite_no b _ hfb).mono ?_
    rintro e w' ⟨rfl, hd⟩
    have HD2 := Lib.hid hd
    clear hd
    go_wp2
    go_ret
    exact ⟨s, rfl, HS.out, HD.out.trans HD2.out⟩
  · clear h
    go_enter Try.func39, Try.ntmps39
    go_wp2_with fail
    refine (finite_no a _ hfa).mono ?_
    rintro e w' ⟨rfl, hd⟩
    have HD2 := Lib.hid hd
    clear hd
    go_wp2
    go_ret
    exact ⟨s, rfl, HS.out, HD.out.trans HD2.out⟩

theorem nearS_run (a b : Nat) (fa : Fl.rg a < Fl.I) (fb : Fl.rg b < Fl.I) (w : World) : (binOp .add 22 (.float .f64 a) (.float .f64 b)).run Try.prog w = .ok (.float .f64 (Fl.nearS a b)) w :=
  run_float_arith w .add _ .f64 a b _ (Fl.add_fin a b fa fb)
theorem nearS_lt (a b : Nat) : Fl.nearS a b < 2 * Fl.W := Fl.rnd_lt _ _
theorem nearS_rg (a b : Nat) : Fl.rg (Fl.nearS a b) ≤ Fl.I := by unfold Fl.nearS; rw [Fl.rg_rnd]; exact (Fl.rnd_rr false _).2

/-- The sum lies beyond the floats. -/
theorem add_great (a b : Nat) (up : Bool) (w : World) (ha : a < 2 * Fl.W) (hb : b < 2 * Fl.W) (fa : Fl.rg a < Fl.I) (fb : Fl.rg b < Fl.I) (hI : Fl.rg (Fl.nearS a b) = Fl.I) :
    Calls Try.prog 39 #[.float .f64 a, .float .f64 b, .bool up] w fun e w' => e = .returned (.float .f64 (Fl.greatW (Fl.nearS a b) up)) ∧ Dr w w' := by
  have h1 := nearS_run a b fa fb
  have h2 := nearS_lt a b
  have h3 : ¬ Fl.rg (Fl.nearS a b) < Fl.I := by omega
  go_enter Try.func39, Try.ntmps39
  go_wp2_with fail
  refine (finite_yes a _ ha fa).mono ?_
  rintro e w' ⟨rfl, rfl⟩
  go_wp2_with fail
  refine (finite_yes b _ hb fb).mono ?_
  rintro e w' ⟨rfl, rfl⟩
  go_wp2_with fail
  refine (finite_no _ _ h3).mono ?_
  rintro e w' ⟨rfl, hd⟩
  have HD := Lib.hid hd
  clear hd
  go_wp2_with fail
  refine (great_any _ _ _ h2 hI).mono ?_
  rintro e w' ⟨rfl, rfl⟩
  go_wp2
  go_ret
  exact ⟨rfl, HD.out⟩

/-- A sum that comes to 0. -/
theorem nearS_zero (a b : Nat) (h0 : Fl.rg (Fl.nearS a b) = 0) : Fl.vl a + Fl.vl b = 0 ∧ Fl.rg b = Fl.rg a := by
  unfold Fl.nearS at h0
  rw [Fl.rg_rnd] at h0
  have hz : (Fl.vl a + Fl.vl b).natAbs = 0 := by
    rcases Nat.eq_zero_or_pos (Fl.vl a + Fl.vl b).natAbs with h | h
    · exact h
    · have := Fl.rr_pos _ h; omega
  have hz2 : Fl.vl a + Fl.vl b = 0 := by omega
  refine ⟨hz2, Fl.rv_inj ?_⟩
  have h1 := Fl.vl_abs a
  have h2 := Fl.vl_abs b
  omega
theorem ord0_not (x : Nat) (h : Fl.rg x < Fl.I) (h0 : ¬ Fl.rg x = 0) : (FloatKind.f64.format.order x 0 == some .eq) = false := by
  cases hs : Fl.sg x
  · rw [Fl.cmp0_gt x (by omega) (by omega) hs]; rfl
  · rw [Fl.cmp0_lt x (by omega) (by omega) hs]; rfl

theorem add_zero_same (a b : Nat) (up : Bool) (w : World) (ha : a < 2 * Fl.W) (hb : b < 2 * Fl.W) (fa : Fl.rg a < Fl.I) (fb : Fl.rg b < Fl.I) (h0 : Fl.rg (Fl.nearS a b) = 0) (hz : Fl.rg a = 0) (hs : Fl.sg a = Fl.sg b) :
    Calls Try.prog 39 #[.float .f64 a, .float .f64 b, .bool up] w fun e w' => e = .returned (.float .f64 a) ∧ w = w' := by
  have h1 := nearS_run a b fa fb
  have h2 := nearS_lt a b
  have h3 : Fl.rg (Fl.nearS a b) < Fl.I := by rw [h0]; decide
  have h4 := Fl.cmp0_eq _ h0
  have h5 := Fl.cmp0_eq a hz
  have h6 := Fl.cmp0_eq b ((nearS_zero a b h0).2.trans hz)
  have h7 : (Fl.sg a == Fl.sg b) = true := by rw [hs]; simp
  clear hs hz h0
  go_enter Try.func39, Try.ntmps39
  go_wp2_with fail
  refine (finite_yes a _ ha fa).mono ?_
  rintro e w' ⟨rfl, rfl⟩
  go_wp2_with fail
  refine (finite_yes b _ hb fb).mono ?_
  rintro e w' ⟨rfl, rfl⟩
  go_wp2_with fail
  refine (finite_yes _ _ h2 h3).mono ?_
  rintro e w' ⟨rfl, rfl⟩
  go_wp2_with fail
  refine (signbit_any a _ ha).mono ?_
  rintro e w' ⟨rfl, rfl⟩
  go_wp2_with fail
  refine (signbit_any b _ hb).mono ?_
  rintro e w' ⟨rfl, rfl⟩
  go_wp2
  go_ret
  exact ⟨rfl, rfl⟩
theorem add_zero_other (a b : Nat) (up : Bool) (w : World) (ha : a < 2 * Fl.W) (hb : b < 2 * Fl.W) (fa : Fl.rg a < Fl.I) (fb : Fl.rg b < Fl.I) (h0 : Fl.rg (Fl.nearS a b) = 0) (hn : ¬ (Fl.rg a = 0 ∧ Fl.sg a = Fl.sg b)) :
    Calls Try.prog 39 #[.float .f64 a, .float .f64 b, .bool up] w fun e w' => e = .returned (.float .f64 (if up then 0 else Fl.W)) ∧ w = w' := by
  have h1 := nearS_run a b fa fb
  have h2 := nearS_lt a b
  have h3 : Fl.rg (Fl.nearS a b) < Fl.I := by rw [h0]; decide
  have h4 := Fl.cmp0_eq _ h0
  have c1 : (0 : Nat) < 2 * Fl.W := by decide
  have c2 : (13830554455654793216 : Nat) < 2 * Fl.W := by decide
  by_cases hz : Fl.rg a = 0
  · have h5 := Fl.cmp0_eq a hz
    have h6 := Fl.cmp0_eq b ((nearS_zero a b h0).2.trans hz)
    have h7 : (Fl.sg a == Fl.sg b) = false := by
      have : ¬ Fl.sg a = Fl.sg b := fun h => hn ⟨hz, h⟩
      simpa using this
    clear hn hz h0
    cases up
    all_goals
      go_enter Try.func39, Try.ntmps39
      go_wp2_with fail
      refine (finite_yes a _ ha fa).mono ?_
      rintro e w' ⟨rfl, rfl⟩
      go_wp2_with fail
      refine (finite_yes b _ hb fb).mono ?_
      rintro e w' ⟨rfl, rfl⟩
      go_wp2_with fail
      refine (finite_yes _ _ h2 h3).mono ?_
      rintro e w' ⟨rfl, rfl⟩
      go_wp2_with fail
      refine (signbit_any a _ ha).mono ?_
      rintro e w' ⟨rfl, rfl⟩
      go_wp2_with fail
      refine (signbit_any b _ hb).mono ?_
      rintro e w' ⟨rfl, rfl⟩
      go_wp2_with (go_at_call 14; refine (copysign_any _ _ _ c1 c2).mono ?_; rintro e w' ⟨rfl, rfl⟩)
      go_ret
      exact ⟨rfl, rfl⟩
  · have h5 := ord0_not a fa hz
    clear hn hz h0
    cases up
    all_goals
      go_enter Try.func39, Try.ntmps39
      go_wp2_with fail
      refine (finite_yes a _ ha fa).mono ?_
      rintro e w' ⟨rfl, rfl⟩
      go_wp2_with fail
      refine (finite_yes b _ hb fb).mono ?_
      rintro e w' ⟨rfl, rfl⟩
      go_wp2_with fail
      refine (finite_yes _ _ h2 h3).mono ?_
      rintro e w' ⟨rfl, rfl⟩
      go_wp2_with (go_at_call 14; refine (copysign_any _ _ _ c1 c2).mono ?_; rintro e w' ⟨rfl, rfl⟩)
      go_ret
      exact ⟨rfl, rfl⟩

/-- A sum among the floats, not 0. -/
theorem nearS_comm (a b : Nat) : Fl.nearS a b = Fl.nearS b a := by
  unfold Fl.nearS Fl.sgn2
  rw [Int.add_comm, Bool.and_comm]
theorem add_side (a b : Nat) (up : Bool) (w : World) (ha : a < 2 * Fl.W) (hb : b < 2 * Fl.W) (fa : Fl.rg a < Fl.I) (fb : Fl.rg b < Fl.I) (h3 : Fl.rg (Fl.nearS a b) < Fl.I) (h0 : ¬ Fl.rg (Fl.nearS a b) = 0) :
    Calls Try.prog 39 #[.float .f64 a, .float .f64 b, .bool up] w fun e w' => e = .returned (.float .f64 (Fl.sideW (Fl.nearS a b) (compare (Fl.vl a + Fl.vl b) (Fl.vl (Fl.nearS a b))) (Fl.next (Fl.nearS a b) up) up)) ∧ w = w' := by
  have h1 := nearS_run a b fa fb
  have h2 := nearS_lt a b
  have h4 := ord0_not _ h3 h0
  rcases Nat.lt_or_ge (Fl.rg a) (Fl.rg b) with hlt | hge
  · have ho : FloatKind.f64.format.order (Fl.rg a) (Fl.rg b) = some .lt := by
      rw [Fl.ord_pos _ _ (by omega) (by omega), Fl.compare_int, if_pos (by omega)]
    obtain ⟨t, off, e1, e2, e3, e4⟩ := Fl.fast_sign b a hb ha fb fa (Nat.le_of_lt hlt) (Fl.nearS a b) (by rw [nearS_comm]; rfl) h3
    have s1 := fun w => run_float_arith (P := Try.prog) w .sub 22 .f64 (Fl.nearS a b) b t e1
    have s2 := fun w => run_float_arith (P := Try.prog) w .sub 22 .f64 a t off e2
    have hoff := Fl.ord0 off e3
    rw [e4, Int.add_comm (Fl.vl b)] at hoff
    have HO := Lib.hid hoff
    clear e1 e2 e3 e4 hoff hlt h0
    go_enter Try.func39, Try.ntmps39
    go_wp2_with fail
    refine (finite_yes a _ ha fa).mono ?_
    rintro e w' ⟨rfl, rfl⟩
    go_wp2_with fail
    refine (finite_yes b _ hb fb).mono ?_
    rintro e w' ⟨rfl, rfl⟩
    go_wp2_with fail
    refine (finite_yes _ _ h2 h3).mono ?_
    rintro e w' ⟨rfl, rfl⟩
    go_wp2_with fail
    refine (abs_any a _ ha).mono ?_
    rintro e w' ⟨rfl, rfl⟩
    go_wp2_with fail
    refine (abs_any b _ hb).mono ?_
    rintro e w' ⟨rfl, rfl⟩
    go_wp2_with fail
    refine (side_any _ off up _ h2 _ HO.out).mono ?_
    rintro e w' ⟨rfl, rfl⟩
    go_wp2
    go_ret
    exact ⟨rfl, rfl⟩
  · have ho : (FloatKind.f64.format.order (Fl.rg a) (Fl.rg b) == some .lt) = false := by
      rw [Fl.ord_pos _ _ (by omega) (by omega), Fl.compare_int, if_neg (by omega)]
      split <;> rfl
    obtain ⟨t, off, e1, e2, e3, e4⟩ := Fl.fast_sign a b ha hb fa fb hge (Fl.nearS a b) rfl h3
    have s1 := fun w => run_float_arith (P := Try.prog) w .sub 22 .f64 (Fl.nearS a b) a t e1
    have s2 := fun w => run_float_arith (P := Try.prog) w .sub 22 .f64 b t off e2
    have hoff := Fl.ord0 off e3
    rw [e4] at hoff
    have HO := Lib.hid hoff
    clear e1 e2 e3 e4 hoff hge h0
    go_enter Try.func39, Try.ntmps39
    go_wp2_with fail
    refine (finite_yes a _ ha fa).mono ?_
    rintro e w' ⟨rfl, rfl⟩
    go_wp2_with fail
    refine (finite_yes b _ hb fb).mono ?_
    rintro e w' ⟨rfl, rfl⟩
    go_wp2_with fail
    refine (finite_yes _ _ h2 h3).mono ?_
    rintro e w' ⟨rfl, rfl⟩
    go_wp2_with fail
    refine (abs_any a _ ha).mono ?_
    rintro e w' ⟨rfl, rfl⟩
    go_wp2_with fail
    refine (abs_any b _ hb).mono ?_
    rintro e w' ⟨rfl, rfl⟩
    go_wp2_with fail
    refine (side_any _ off up _ h2 _ HO.out).mono ?_
    rintro e w' ⟨rfl, rfl⟩
    go_wp2
    go_ret
    exact ⟨rfl, rfl⟩

theorem add_any (a b : Nat) (up : Bool) (w : World) (ha : a < 2 * Fl.W) (hb : b < 2 * Fl.W) : Calls Try.prog 39 #[.float .f64 a, .float .f64 b, .bool up] w (FlPost (Fl.addS a b up) w) := by
  unfold Fl.addS
  by_cases h : Fl.rg a < Fl.I ∧ Fl.rg b < Fl.I
  · rw [if_pos h]
    unfold Fl.addF
    by_cases hI : Fl.rg (Fl.nearS a b) = Fl.I
    · rw [if_pos hI]
      exact (add_great a b up w ha hb h.1 h.2 hI).mono fun e w' ⟨h1, h2⟩ => ⟨_, h1, rfl, h2⟩
    · rw [if_neg hI]
      by_cases h0 : Fl.rg (Fl.nearS a b) = 0
      · rw [if_pos h0]
        by_cases hz : Fl.rg a = 0 ∧ Fl.sg a = Fl.sg b
        · rw [if_pos hz]
          exact (add_zero_same a b up w ha hb h.1 h.2 h0 hz.1 hz.2).mono fun e w' ⟨h1, h2⟩ => ⟨_, h1, rfl, h2 ▸ Dr.refl w⟩
        · rw [if_neg hz]
          exact (add_zero_other a b up w ha hb h.1 h.2 h0 hz).mono fun e w' ⟨h1, h2⟩ => ⟨_, h1, rfl, h2 ▸ Dr.refl w⟩
      · rw [if_neg h0]
        have := nearS_rg a b
        exact (add_side a b up w ha hb h.1 h.2 (by omega) h0).mono fun e w' ⟨h1, h2⟩ => ⟨_, h1, rfl, h2 ▸ Dr.refl w⟩
  · rw [if_neg h]
    exact add_not a b up w ha hb h

end Go.Proofs.Ytanpcieipgdnkaa

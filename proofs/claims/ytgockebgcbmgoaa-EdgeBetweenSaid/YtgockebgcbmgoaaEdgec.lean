/-
  The walks of SameFloat, LikeFloat, Finite, the reference's Next; Whole and Nearest, of edge and of its reference.
-/
import Derived.Test.YtgockebgcbmgoaaEdgeb
import Derived.Test.YtgockebgcbmgoaaWhole
set_option linter.unusedVariables false
set_option linter.unusedSimpArgs false
namespace Go.Proofs.Ytgockebgcbmgoaa
open Go.RowKit

/-- The same floats: one word, or both NaN. -/
def Fl.Same (a b : Nat) : Prop := a = b ∨ (Fl.I < Fl.rg a ∧ Fl.I < Fl.rg b)

theorem same_yes (a b : Nat) (w : World) (h : Fl.Same a b) : Calls Try.prog 15 #[.float .f64 a, .float .f64 b] w fun e w' => e = .returned (.bool true) ∧ w = w' := by
  have hb := run_bits
  by_cases he : a = b
  · subst he
    clear h
    go_enter Try.func15, Try.ntmps15
    go_wp2
    go_ret
    exact ⟨rfl, rfl⟩
  · have hn : Fl.I < Fl.rg a ∧ Fl.I < Fl.rg b := by rcases h with h | h; exact absurd h he; exact h
    have h1 := Fl.cmp_nan a a hn.1
    have h2 := Fl.cmp_nan b b hn.2
    have h3 : ((a : Int) == (b : Int)) = false := by simp; omega
    clear h hn he
    go_enter Try.func15, Try.ntmps15
    go_wp2
    go_ret
    exact ⟨rfl, rfl⟩
/-- Alike: equal, or both NaN. -/
def Fl.Like (a b : Nat) : Prop := (Fl.rg a ≤ Fl.I ∧ Fl.rg b ≤ Fl.I ∧ Fl.key a = Fl.key b) ∨ (Fl.I < Fl.rg a ∧ Fl.I < Fl.rg b)
theorem like_yes (a b : Nat) (w : World) (h : Fl.Like a b) : Calls Try.prog 19 #[.float .f64 a, .float .f64 b] w fun e w' => e = .returned (.bool true) ∧ w = w' := by
  rcases h with ⟨ha, hb, hk⟩ | ⟨ha, hb⟩
  · have h1 : FloatKind.f64.format.order a b = some .eq := Fl.order_eq a b ha hb hk
    clear ha hb hk
    go_enter Try.func19, Try.ntmps19
    go_wp2
    go_ret
    exact ⟨rfl, rfl⟩
  · have h1 := Fl.cmp_nan a a ha
    have h2 := Fl.cmp_nan b b hb
    have h3 := Fl.cmp_nan a b ha
    clear ha hb
    go_enter Try.func19, Try.ntmps19
    go_wp2
    go_ret
    exact ⟨rfl, rfl⟩

theorem kfinite_yes (x : Nat) (w : World) (hw : x < 2 * Fl.W) (h : Fl.rg x < Fl.I) : Calls Try.prog 18 #[.float .f64 x] w fun e w' => e = .returned (.bool true) ∧ w = w' := by
  have h1 := fin_walk_yes x hw h
  have h2 : FloatKind.f64.format.order 0 0 = some .eq := by decide
  go_enter Try.func18, Try.ntmps18
  go_wp2
  go_ret
  exact ⟨rfl, rfl⟩
theorem kfinite_no (x : Nat) (w : World) (h : ¬ Fl.rg x < Fl.I) : Calls Try.prog 18 #[.float .f64 x] w (BPost false w) := by
  obtain ⟨s, w1, hr, hs, hw1⟩ := run_float_any .sub 22 x x w (by simp)
  have hs1 : Fl.Is none s := by rw [← Fl.sub_self_not x h]; exact hs
  have ho := nan_order s hs1.1
  have HD : Hid (Dr w w1) := by rcases hw1 with rfl | rfl; exact Dr.refl _; exact Dr.drew _
  clear hs hs1 hw1 h
  go_enter Try.func18, Try.ntmps18
  go_wp2
  go_ret
  exact ⟨rfl, HD.out⟩
theorem rfinite_yes (x : Nat) (w : World) (hw : x < 2 * Fl.W) (h : Fl.rg x < Fl.I) : Calls Try.prog 42 #[.float .f64 x] w fun e w' => e = .returned (.bool true) ∧ w = w' := by
  have h1 := fin_walk_yes x hw h
  have h2 : FloatKind.f64.format.order 0 0 = some .eq := by decide
  go_enter Try.func42, Try.ntmps42
  go_wp2
  go_ret
  exact ⟨rfl, rfl⟩
theorem rfinite_no (x : Nat) (w : World) (h : ¬ Fl.rg x < Fl.I) : Calls Try.prog 42 #[.float .f64 x] w (BPost false w) := by
  obtain ⟨s, w1, hr, hs, hw1⟩ := run_float_any .sub 22 x x w (by simp)
  have hs1 : Fl.Is none s := by rw [← Fl.sub_self_not x h]; exact hs
  have ho := nan_order s hs1.1
  have HD : Hid (Dr w w1) := by rcases hw1 with rfl | rfl; exact Dr.refl _; exact Dr.drew _
  clear hs hs1 hw1 h
  go_enter Try.func42, Try.ntmps42
  go_wp2
  go_ret
  exact ⟨rfl, HD.out⟩

/-! ### the reference's Next -/
theorem most_no (x : Nat) (h : Fl.rg x < Fl.I) : (FloatKind.f64.format.order x 9218868437227405311 == some .gt) = false := by
  rw [Fl.gt_most, decide_eq_false (by omega)]; rfl
theorem rnext_up (x : Nat) (w : World) (hx : x < 2 * Fl.W) : Calls Try.prog 17 #[.float .f64 x, .bool true] w fun e w' => e = .returned (.float .f64 (Fl.next x true)) ∧ w = w' := by
  have hb := run_bits
  have hf := run_from
  unfold Fl.next
  rcases Nat.lt_or_ge Fl.I (Fl.rg x) with h | h
  · have h1 := Fl.cmp_nan x x h
    rw [if_pos h]
    clear h
    go_enter Try.func17, Try.ntmps17
    go_wp2
    go_ret
    exact ⟨rfl, rfl⟩
  · have h1 := Fl.cmp_self x h
    have hm := Fl.gt_most x
    rw [if_neg (by omega)]
    have HH := Lib.hid h
    by_cases hz : Fl.rg x = 0
    · have h2 := Fl.cmp0_eq x hz
      have h3 : ¬ Fl.rg x = Fl.I := by rw [hz]; decide
      have h4 : (FloatKind.f64.format.order x 9218868437227405311 == some .gt) = false := by rw [hm, decide_eq_false h3]; rfl
      rw [if_neg (by simp [h3]), if_pos hz, if_pos rfl]
      clear h hz h3 hm
      go_enter Try.func17, Try.ntmps17
      go_wp2
      go_ret
      exact ⟨rfl, rfl⟩
    · have h0 : 0 < Fl.rg x := by omega
      have H0 := Lib.hid h0
      cases hs : Fl.sg x
      · have h2 := Fl.cmp0_gt x h0 h hs
        by_cases hI : Fl.rg x = Fl.I
        · have h4 : (FloatKind.f64.format.order x 9218868437227405311 == some .gt) = true := by rw [hm, decide_eq_true hI, hs]; rfl
          rw [if_pos ⟨hI, rfl⟩]
          clear h hz hI hm hs h0
          go_enter Try.func17, Try.ntmps17
          go_wp2
          go_ret
          exact ⟨rfl, rfl⟩
        · have h4 : (FloatKind.f64.format.order x 9218868437227405311 == some .gt) = false := by rw [hm, decide_eq_false hI]; rfl
          rw [if_neg (by simp [hI]), if_neg hz, if_pos (by simp)]
          clear h hz hI hm hs h0
          go_enter Try.func17, Try.ntmps17
          go_wp2
          go_ret
          exact ⟨ret_fl (u64_succ x (rg_succ_lt x hx HH.out)), rfl⟩
      · have h2 := Fl.cmp0_lt x h0 h hs
        have h4 : (FloatKind.f64.format.order x 9218868437227405311 == some .gt) = false := by rw [hm, hs]; simp
        rw [if_neg (by simp), if_neg hz, if_neg (by simp)]
        clear h hz hm hs h0
        go_enter Try.func17, Try.ntmps17
        go_wp2
        go_ret
        exact ⟨ret_fl (u64_pred x hx (sg_pos x hx H0.out)), rfl⟩

theorem Fl.next_lt (x : Nat) (up : Bool) (hx : x < 2 * Fl.W) : Fl.next x up < 2 * Fl.W := by
  unfold Fl.next
  split
  · exact hx
  · rename_i h
    have := rg_succ_lt x hx (by omega)
    split
    · exact hx
    · split
      · split <;> decide
      · split <;> omega
theorem Fl.next_ng (x : Nat) (hx : x < 2 * Fl.W) : Fl.ng (Fl.next (Fl.ng x) true) = Fl.next x false := by
  unfold Fl.next
  rw [Fl.rg_ng x hx, Fl.sg_ng x hx]
  have hI : Fl.I < Fl.W := by decide
  split
  · exact Fl.ng_ng x hx
  · rename_i h
    cases hs : Fl.sg x
    · simp only [Bool.not_false, Bool.not_true]
      by_cases h1 : Fl.rg x = Fl.I
      · have h0 : ¬ Fl.rg x = 0 := by rw [h1]; decide
        simp only [h1, Bool.true_eq_false, Bool.false_eq_true, and_false, if_false]
        rw [if_neg (by decide)]
        have e : x = Fl.rg x := by have := Fl.wd_sg_rg x hx; rw [hs] at this; exact this.symm
        have : Fl.ng x = Fl.W + x := by unfold Fl.ng; rw [hs]; simp; omega
        rw [this]
        have : Fl.W + x - 1 = Fl.wd true (x - 1) := by unfold Fl.wd; simp; rw [e, h1]; decide
        rw [this, Fl.ng_wd _ _ (by rw [e, h1]; decide)]; rfl
      · simp only [h1, false_and, if_false]
        by_cases h2 : Fl.rg x = 0
        · rw [if_pos h2, if_pos h2]; rfl
        · rw [if_neg h2, if_neg h2, if_neg (by simp), if_neg (by simp)]
          have e : x = Fl.rg x := by have := Fl.wd_sg_rg x hx; rw [hs] at this; exact this.symm
          have : Fl.ng x = Fl.W + x := by unfold Fl.ng; rw [hs]; simp; omega
          rw [this]
          have hl := Fl.rg_lt x
          have : Fl.W + x - 1 = Fl.wd true (x - 1) := by unfold Fl.wd; simp; omega
          rw [this, Fl.ng_wd _ _ (by omega)]; rfl
    · simp only [Bool.not_false, Bool.not_true]
      have e : x = Fl.W + Fl.rg x := by have := Fl.wd_sg_rg x hx; rw [hs] at this; exact this.symm
      have hn : Fl.ng x = Fl.rg x := by unfold Fl.ng; rw [hs]; simp; omega
      by_cases h1 : Fl.rg x = Fl.I
      · simp only [h1, and_self, if_true]
        exact Fl.ng_ng x hx
      · simp only [h1, false_and, if_false]
        by_cases h2 : Fl.rg x = 0
        · rw [if_pos h2, if_pos h2]; rfl
        · rw [if_neg h2, if_neg h2]
          simp only [if_true]
          rw [hn]
          have : Fl.rg x + 1 = Fl.wd false (Fl.rg x + 1) := rfl
          rw [this, Fl.ng_wd _ _ (by omega)]
          unfold Fl.wd; simp; omega
theorem run_neg (x : Nat) (hx : x < 2 * Fl.W) (w : World) : (Op.unary .neg (.float .f64 x)).run Try.prog w = .ok (.float .f64 (Fl.ng x)) w := by
  rw [← Fl.neg_word x hx]; rfl
theorem rnext_any (x : Nat) (up : Bool) (w : World) (hx : x < 2 * Fl.W) : Calls Try.prog 17 #[.float .f64 x, .bool up] w fun e w' => e = .returned (.float .f64 (Fl.next x up)) ∧ w = w' := by
  cases up
  · have h1 := run_neg x hx
    have h2 := run_neg (Fl.next (Fl.ng x) true) (Fl.next_lt _ _ (Fl.ng_lt x hx))
    rw [Fl.next_ng x hx] at h2
    go_enter Try.func17, Try.ntmps17
    go_wp2_with fail
    refine (rnext_up _ _ (Fl.ng_lt x hx)).mono ?_
    rintro e w' ⟨rfl, rfl⟩
    go_wp2
    go_ret
    exact ⟨rfl, rfl⟩
  · exact rnext_up x w hx
end Go.Proofs.Ytgockebgcbmgoaa

/-
  The walks of SameFloat, LikeFloat, Finite, the reference's Next; Whole and Nearest, of edge and of its reference.
-/
import Derived.Test.YtanpcieipgdnkaaEdgeb
import Derived.Test.YtanpcieipgdnkaaWhole
set_option linter.unusedVariables false
set_option linter.unusedSimpArgs false
namespace Go.Proofs.Ytanpcieipgdnkaa
open Go.RowKit

/-- The same floats: one word, or both NaN. -/
def Fl.Same (a b : Nat) : Prop := a = b ∨ (Fl.I < Fl.rg a ∧ Fl.I < Fl.rg b)

theorem same_yes (a b : Nat) (w : World) (h : Fl.Same a b) : Calls Try.prog 24 #[.float .f64 a, .float .f64 b] w fun e w' => e = .returned (.bool true) ∧ w = w' := by
  have hb := run_bits
  by_cases he : a = b
  · subst he
    clear h
    go_enter Try.func24, Try.ntmps24
    go_wp2
    go_ret
    exact ⟨rfl, rfl⟩
  · have hn : Fl.I < Fl.rg a ∧ Fl.I < Fl.rg b := by rcases h with h | h; exact absurd h he; exact h
    have h1 := Fl.cmp_nan a a hn.1
    have h2 := Fl.cmp_nan b b hn.2
    have h3 : ((a : Int) == (b : Int)) = false := by simp; omega
    clear h hn he
    go_enter Try.func24, Try.ntmps24
    go_wp2
    go_ret
    exact ⟨rfl, rfl⟩
/-- Alike: equal, or both NaN. -/
def Fl.Like (a b : Nat) : Prop := (Fl.rg a ≤ Fl.I ∧ Fl.rg b ≤ Fl.I ∧ Fl.key a = Fl.key b) ∨ (Fl.I < Fl.rg a ∧ Fl.I < Fl.rg b)
/-! ### the reference's Next -/
theorem most_no (x : Nat) (h : Fl.rg x < Fl.I) : (FloatKind.f64.format.order x 9218868437227405311 == some .gt) = false := by
  rw [Fl.gt_most, decide_eq_false (by omega)]; rfl
theorem Fl.next_lt (x : Nat) (up : Bool) (hx : x < 2 * Fl.W) : Fl.next x up < 2 * Fl.W := by
  unfold Fl.next
  split
  · exact hx
  · rename_i h
    have := rg_succ_lt x hx (by omega)
    split
    · exact hx
    · split
      · split <;> decide
      · split <;> omega
theorem Fl.next_ng (x : Nat) (hx : x < 2 * Fl.W) : Fl.ng (Fl.next (Fl.ng x) true) = Fl.next x false := by
  unfold Fl.next
  rw [Fl.rg_ng x hx, Fl.sg_ng x hx]
  have hI : Fl.I < Fl.W := by decide
  split
  · exact Fl.ng_ng x hx
  · rename_i h
    cases hs : Fl.sg x
    · simp only [Bool.not_false, Bool.not_true]
      by_cases h1 : Fl.rg x = Fl.I
      · have h0 : ¬ Fl.rg x = 0 := by rw [h1]; decide
        simp only [h1, Bool.true_eq_false, Bool.false_eq_true, and_false, if_false]
        rw [if_neg (by decide)]
        have e : x = Fl.rg x := by have := Fl.wd_sg_rg x hx; rw [hs] at this; exact this.symm
        have : Fl.ng x = Fl.W + x := by unfold Fl.ng; rw [hs]; simp; omega
        rw [this]
        have : Fl.W + x - 1 = Fl.wd true (x - 1) := by unfold Fl.wd; simp; rw [e, h1]; decide
        rw [this, Fl.ng_wd _ _ (by rw [e, h1]; decide)]; rfl
      · simp only [h1, false_and, if_false]
        by_cases h2 : Fl.rg x = 0
        · rw [if_pos h2, if_pos h2]; rfl
        · rw [if_neg h2, if_neg h2, if_neg (by simp), if_neg (by simp)]
          have e : x = Fl.rg x := by have := Fl.wd_sg_rg x hx; rw [hs] at this; exact this.symm
          have : Fl.ng x = Fl.W + x := by unfold Fl.ng; rw [hs]; simp; omega
          rw [this]
          have hl := Fl.rg_lt x
          have : Fl.W + x - 1 = Fl.wd true (x - 1) := by unfold Fl.wd; simp; omega
          rw [this, Fl.ng_wd _ _ (by omega)]; rfl
    · simp only [Bool.not_false, Bool.not_true]
      have e : x = Fl.W + Fl.rg x := by have := Fl.wd_sg_rg x hx; rw [hs] at this; exact this.symm
      have hn : Fl.ng x = Fl.rg x := by unfold Fl.ng; rw [hs]; simp; omega
      by_cases h1 : Fl.rg x = Fl.I
      · simp only [h1, and_self, if_true]
        exact Fl.ng_ng x hx
      · simp only [h1, false_and, if_false]
        by_cases h2 : Fl.rg x = 0
        · rw [if_pos h2, if_pos h2]; rfl
        · rw [if_neg h2, if_neg h2]
          simp only [if_true]
          rw [hn]
          have : Fl.rg x + 1 = Fl.wd false (Fl.rg x + 1) := rfl
          rw [this, Fl.ng_wd _ _ (by omega)]
          unfold Fl.wd; simp; omega
theorem run_neg (x : Nat) (hx : x < 2 * Fl.W) (w : World) : (Op.unary .neg (.float .f64 x)).run Try.prog w = .ok (.float .f64 (Fl.ng x)) w := by
  rw [← Fl.neg_word x hx]; rfl
end Go.Proofs.Ytanpcieipgdnkaa

/-
  Plain facts: sums, products and roots to a side grow, the infinities too.
-/
import Derived.Test.YtgockebgcbmgoaaDirb
set_option linter.unusedVariables false
set_option linter.unusedSimpArgs false
namespace Go.Proofs.Ytgockebgcbmgoaa
namespace Fl
open Ieee

/-- An infinity. -/
def Inf (s : Bool) (x : Nat) : Prop := rg x = I ∧ sg x = s
/-- x is not above y (or one is a NaN). -/
def NGt (x y : Nat) : Prop := I < rg x ∨ I < rg y ∨ (rg x ≤ I ∧ rg y ≤ I ∧ key x ≤ key y)
theorem key_of (x : Nat) : key x = sgz (sg x) (rg x) := rfl
theorem Inf.le_true {x : Nat} (h : Inf true x) (k : Int) (hk : -(I : Int) ≤ k) : key x ≤ k := by
  rw [key_of, h.1, h.2, sgz_true]; exact hk
theorem Inf.le_false {x : Nat} (h : Inf false x) (k : Int) (hk : k ≤ (I : Int)) : k ≤ key x := by
  rw [key_of, h.1, h.2, sgz_false]; exact hk
theorem key_range {x : Nat} (h : rg x ≤ I) : -(I : Int) ≤ key x ∧ key x ≤ (I : Int) := by
  rw [key_of]; unfold sgz; generalize I = i at *; split <;> omega
theorem key_fin_range {x : Nat} (h : rg x < I) : -(I : Int) < key x ∧ key x < (I : Int) := by
  rw [key_of]; unfold sgz; generalize I = i at *; split <;> omega
theorem I_pos : 0 < I := by decide
theorem Inf.up {a b : Nat} (h : Inf false a) (hb : rg b ≤ I) (hab : key a ≤ key b) : Inf false b := by
  have h1 := h.le_false (I : Int) (Int.le_refl _)
  have h2 := I_pos
  unfold Inf
  have h3 := key_of b
  generalize I = i at *
  unfold sgz at h3
  cases hs : sg b
  · rw [hs] at h3; simp only [Bool.false_eq_true, if_false] at h3; exact ⟨by omega, rfl⟩
  · rw [hs] at h3; simp only [if_true] at h3; omega
theorem Inf.down {a b : Nat} (h : Inf true b) (ha : rg a ≤ I) (hab : key a ≤ key b) : Inf true a := by
  have h1 := h.le_true (-(I : Int)) (Int.le_refl _)
  have h2 := I_pos
  unfold Inf
  have h3 := key_of a
  generalize I = i at *
  unfold sgz at h3
  cases hs : sg a
  · rw [hs] at h3; simp only [Bool.false_eq_true, if_false] at h3; omega
  · rw [hs] at h3; simp only [if_true] at h3; exact ⟨by omega, rfl⟩
theorem write_inf (s : Bool) : double.write (.infinity s) = wd s I := by
  show double.word s double.infRung = _
  rw [word_eq, dI]
theorem Inf_wd (s : Bool) : Inf s (wd s I) := ⟨rg_wd _ _ I_lt_W, sg_wd _ _ I_lt_W⟩
theorem fin_not_inf {a : Nat} (h : rg a < I) (s : Bool) : ¬ Inf s a := fun hh => absurd hh.1 (Nat.ne_of_lt h)
theorem three (a : Nat) : rg a < I ∨ rg a = I ∨ I < rg a := Nat.lt_trichotomy _ _

theorem addS_cases {a c x : Nat} {up : Bool} (ha : a < 2 * W) (hc : c < 2 * W) (h : Is (addS a c up) x) :
    I < rg x ∨ (rg x ≤ I ∧ rg a ≤ I ∧ rg c ≤ I ∧ ((rg a < I ∧ rg c < I ∧ DirW up (vl a + vl c) 0 x) ∨ (∃ s, Inf s x ∧ (Inf s a ∨ Inf s c) ∧ ¬ Inf (!s) a ∧ ¬ Inf (!s) c))) := by
  by_cases hf : rg a < I ∧ rg c < I
  · unfold addS at h; rw [if_pos hf] at h
    have hx : x = addF a c up := h
    have hd := addF_dir a c up ha hc hf.1 hf.2
    rw [← hx] at hd
    exact .inr ⟨hd.1, Nat.le_of_lt hf.1, Nat.le_of_lt hf.2, .inl ⟨hf.1, hf.2, hd⟩⟩
  · unfold addS at h; rw [if_neg hf] at h
    unfold Format.add at h
    have nn : ∀ s : Bool, ¬ (!s) = s := fun s => by cases s <;> decide
    rcases three a with h1 | h1 | h1 <;> rcases three c with h2 | h2 | h2
    · exact absurd ⟨h1, h2⟩ hf
    · rw [read_fin a h1, read_inf c h2] at h
      have hx : x = double.write (.infinity (sg c)) := h
      rw [write_inf] at hx
      subst hx
      exact .inr ⟨Nat.le_of_eq (Inf_wd _).1, Nat.le_of_lt h1, Nat.le_of_eq h2, .inr ⟨sg c, Inf_wd _, .inr ⟨h2, rfl⟩, fin_not_inf h1 _, fun hh => nn _ hh.2.symm⟩⟩
    · rw [read_nan c h2] at h; unfold Datum.sum at h; cases hr : double.read a <;> rw [hr] at h <;> exact .inl h.1
    · rw [read_inf a h1, read_fin c h2] at h
      have hx : x = double.write (.infinity (sg a)) := h
      rw [write_inf] at hx
      subst hx
      exact .inr ⟨Nat.le_of_eq (Inf_wd _).1, Nat.le_of_eq h1, Nat.le_of_lt h2, .inr ⟨sg a, Inf_wd _, .inl ⟨h1, rfl⟩, fun hh => nn _ hh.2.symm, fin_not_inf h2 _⟩⟩
    · rw [read_inf a h1, read_inf c h2] at h
      simp only [Datum.sum] at h
      by_cases hs : sg a = sg c
      · rw [if_pos hs] at h
        have hx : x = double.write (.infinity (sg a)) := h
        rw [write_inf] at hx
        subst hx
        exact .inr ⟨Nat.le_of_eq (Inf_wd _).1, Nat.le_of_eq h1, Nat.le_of_eq h2, .inr ⟨sg a, Inf_wd _, .inl ⟨h1, rfl⟩, fun hh => nn _ hh.2.symm, fun hh => nn _ (hh.2.symm.trans hs.symm)⟩⟩
      · rw [if_neg hs] at h
        exact .inl h.1
    · rw [read_nan c h2] at h; unfold Datum.sum at h; cases hr : double.read a <;> rw [hr] at h <;> exact .inl h.1
    · rw [read_nan a h1] at h; unfold Datum.sum at h; cases hr : double.read c <;> rw [hr] at h <;> exact .inl h.1
    · rw [read_nan a h1] at h; unfold Datum.sum at h; cases hr : double.read c <;> rw [hr] at h <;> exact .inl h.1
    · rw [read_nan a h1] at h; unfold Datum.sum at h; cases hr : double.read c <;> rw [hr] at h <;> exact .inl h.1
/-- Sums grow. -/
theorem add_grow {a b c x y : Nat} {up1 up2 : Bool} (ha : a < 2 * W) (hb : b < 2 * W) (hc : c < 2 * W) (hu : up1 = false ∨ up2 = true) (h1 : Is (addS a c up1) x) (h2 : Is (addS b c up2) y) (hab : NGt a b) : NGt x y := by
  rcases addS_cases ha hc h1 with n1 | ⟨x1, a1, c1, k1⟩
  · exact .inl n1
  rcases addS_cases hb hc h2 with n2 | ⟨x2, b1, c2, k2⟩
  · exact .inr (.inl n2)
  have hk : key a ≤ key b := by
    rcases hab with h | h | h
    · exact absurd h (Nat.not_lt.2 a1)
    · exact absurd h (Nat.not_lt.2 b1)
    · exact h.2.2
  refine .inr (.inr ⟨x1, x2, ?_⟩)
  rcases k1 with ⟨fa, fc, d1⟩ | ⟨s, i1, i2, i3, i4⟩
  · rcases k2 with ⟨fb, _, d2⟩ | ⟨t, j1, j2, j3, j4⟩
    · refine d1.mono d2 hu ?_
      have := V_le hk
      rw [← vl_key, ← vl_key] at this
      simp only [Int.pow_zero, Int.mul_one]
      exact Int.add_le_add_right this _
    · cases t
      · exact j1.le_false _ (key_range x1).2
      · rcases j2 with j2 | j2
        · exact absurd (j2.down a1 hk) (fin_not_inf fa _)
        · exact absurd j2 (fin_not_inf fc _)
  · cases s
    · rcases k2 with ⟨fb, fc, d2⟩ | ⟨t, j1, j2, j3, j4⟩
      · rcases i2 with i2 | i2
        · exact absurd (i2.up b1 hk) (fin_not_inf fb _)
        · exact absurd i2 (fin_not_inf fc _)
      · cases t
        · exact j1.le_false _ (key_range x1).2
        · rcases j2 with j2 | j2
          · exact absurd (j2.down a1 hk) i3
          · exact absurd j2 i4
    · exact i1.le_true _ (key_range x2).1
end Fl
end Go.Proofs.Ytgockebgcbmgoaa

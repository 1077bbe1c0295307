/-
  The walks of the reference's Whole, and of Nearest, of edge and of its reference.
-/
import Derived.Test.YtanpcieipgdnkaaEdged
set_option linter.unusedVariables false
set_option linter.unusedSimpArgs false
namespace Go.Proofs.Ytanpcieipgdnkaa
open Go.RowKit

theorem in53 (x : Nat) (h : Fl.rg x ≤ Fl.c53) : (FloatKind.f64.format.order x 14069245235905429504 = some .gt ∨ FloatKind.f64.format.order x 14069245235905429504 = some .eq) ∧ (FloatKind.f64.format.order x 4845873199050653696 = some .lt ∨ FloatKind.f64.format.order x 4845873199050653696 = some .eq) := by
  have cl := Fl.c53_lt
  have h1 := Fl.lo53 x (by omega)
  have h2 := Fl.hi53 x (by omega)
  rw [decide_eq_true (.inr h)] at h1 h2
  exact ⟨by simpa using h1, by simpa using h2⟩
theorem out53 (x : Nat) (h : ¬ Fl.rg x ≤ Fl.c53) : FloatKind.f64.format.order x 14069245235905429504 = none ∨ FloatKind.f64.format.order x 14069245235905429504 = some .lt ∨ (FloatKind.f64.format.order x 14069245235905429504 = some .gt ∧ FloatKind.f64.format.order x 4845873199050653696 = some .gt) := by
  rcases Nat.lt_or_ge Fl.I (Fl.rg x) with h0 | h0
  · exact .inl (Fl.cmp_nan _ _ h0)
  · right
    cases hs : Fl.sg x
    · right
      refine ⟨Fl.order_gt _ _ h0 (by decide) ?_, Fl.order_gt _ _ h0 (by decide) ?_⟩
      · rw [show Fl.key 14069245235905429504 = -4845873199050653696 by decide]; unfold Fl.key; rw [hs]; simp; omega
      · rw [show Fl.key 4845873199050653696 = 4845873199050653696 by decide]; unfold Fl.key; rw [hs]; unfold Fl.c53 at h; simp; omega
    · left
      refine Fl.order_lt _ _ h0 (by decide) ?_
      rw [show Fl.key 14069245235905429504 = -4845873199050653696 by decide]; unfold Fl.key; rw [hs]; unfold Fl.c53 at h; simp; omega

theorem ord_eq_symm (x y : Nat) : (FloatKind.f64.format.order x y == some .eq) = (FloatKind.f64.format.order y x == some .eq) := by
  rcases Nat.lt_or_ge Fl.I (Fl.rg x) with h | h
  · rw [show FloatKind.f64.format.order x y = none from Fl.order_nan _ _ (.inl h), show FloatKind.f64.format.order y x = none from Fl.order_nan _ _ (.inr h)]
  · rcases Nat.lt_or_ge Fl.I (Fl.rg y) with h2 | h2
    · rw [show FloatKind.f64.format.order x y = none from Fl.order_nan _ _ (.inr h2), show FloatKind.f64.format.order y x = none from Fl.order_nan _ _ (.inl h2)]
    · rw [show FloatKind.f64.format.order x y = _ from Fl.order_key _ _ h h2, show FloatKind.f64.format.order y x = _ from Fl.order_key _ _ h2 h, Fl.compare_int, Fl.compare_int]
      rcases Int.lt_trichotomy (Fl.key x) (Fl.key y) with h3 | h3 | h3
      · rw [if_pos h3, if_neg (by omega), if_neg (by omega)]; rfl
      · rw [h3]
      · rw [if_neg (by omega), if_neg (by omega), if_pos h3]; rfl

theorem fi_dec (x : Nat) (hc : Fl.rg x ≤ Fl.c53) : (FloatKind.f64.format.order (floatOfInt .f64 (Fl.sgi (Fl.sg x) (Fl.wh x))) x == some .eq) = Fl.isW x := by
  rw [ord_eq_symm, Fl.ofInt_sgi]
  have ht : (Fl.sg x && decide (0 < Fl.wh x)) = Fl.sg x ∨ Fl.wh x = 0 := by
    by_cases h : 0 < Fl.wh x
    · left; rw [decide_eq_true h, Bool.and_true]
    · right; omega
  rcases Fl.wh_eq x hc _ ht with ⟨ho, he⟩ | ⟨⟨o, ho, hne⟩, he⟩
  · rw [isW_yes x ⟨hc, he⟩, ho]; rfl
  · rw [isW_no x (fun h => he h.2), ho]
    cases o <;> first | rfl | exact absurd rfl hne
/-! ### Nearest -/
/-- What Nearest tells: the whole number, how far it is, the error. -/
def Fl.nearN (x : Nat) : Int := if Fl.rg x ≤ Fl.c53 then Fl.sgi (Fl.sg x) (Fl.nk x) else 0
noncomputable def Fl.nearD (x : Nat) : Nat := if Fl.rg x ≤ Fl.c53 then Fl.rr (Fl.dist (Fl.rv (Fl.rg x)) (Fl.nk x)) else 0
def Fl.nearE (x : Nat) : Int := if Fl.rg x ≤ Fl.c53 then 0 else if Fl.rg x < Fl.I then 6 else 5
def NPost (x : Nat) (w : World) (e : Ending) (w' : World) : Prop := e = .returned (.tuple #[.int .i64 (Fl.nearN x), .float .f64 (Fl.nearD x), .int .i64 (Fl.nearE x)]) ∧ Dr w w'

end Go.Proofs.Ytanpcieipgdnkaa

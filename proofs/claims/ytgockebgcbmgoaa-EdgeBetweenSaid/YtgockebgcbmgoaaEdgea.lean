/-
  The walks of the small float functions of edge, of its reference and of rosettekit: which floats are finite, the next float, the same floats.
-/
import Derived.Test.YtgockebgcbmgoaaMatha
set_option linter.unusedVariables false
set_option linter.unusedSimpArgs false
namespace Go.Proofs.Ytgockebgcbmgoaa
open Go.RowKit

/-- Only draws. -/
def Dr (w w' : World) : Prop := ∃ n, w' = w.drewN n
theorem Dr.refl (w : World) : Dr w w := ⟨0, rfl⟩
theorem Dr.drew (w : World) : Dr w w.drew := ⟨1, rfl⟩
theorem drewN_drewN (w : World) (n m : Nat) : (w.drewN n).drewN m = w.drewN (n + m) := by
  simp [World.drewN, Nat.add_assoc]
theorem Dr.trans {a b c : World} (h1 : Dr a b) (h2 : Dr b c) : Dr a c := by
  obtain ⟨n, rfl⟩ := h1; obtain ⟨m, rfl⟩ := h2; exact ⟨n + m, drewN_drewN _ _ _⟩

/-- The result is what the operation gave; the world has drawn at most. -/
def FlPost (o : Option Nat) (w : World) (e : Ending) (w' : World) : Prop := ∃ s, e = .returned (.float .f64 s) ∧ Fl.Is o s ∧ Dr w w'
def BPost (b : Bool) (w : World) (e : Ending) (w' : World) : Prop := e = .returned (.bool b) ∧ Dr w w'

/-- An operation on floats: its word, or a NaN that is drawn. -/
theorem run_float_any (op : BinOp) (t : TypeId) (x y : Nat) (w : World) (hop : op = .add ∨ op = .sub ∨ op = .mul ∨ op = .quo) :
    ∃ s w1, (binOp op t (.float .f64 x) (.float .f64 y)).run Try.prog w = .ok (.float .f64 s) w1 ∧ Fl.Is (floatBits op .f64 x y) s ∧ (w1 = w ∨ w1 = w.drew) := by
  cases h : floatBits op .f64 x y with
  | some r => exact ⟨r, w, run_float_arith w op t .f64 x y r h, rfl, .inl rfl⟩
  | none =>
    refine ⟨_, w.drew, ?_, Fl.nan_draw (w.tape w.drawn (.nanBits .f64 x y)), .inr rfl⟩
    rcases hop with rfl | rfl | rfl | rfl <;> (simp only [floatBits] at h; simp [binOp, Op.floatArith, h, Question.forced, Question.cut])

theorem fin_walk_yes (x : Nat) (hw : x < 2 * Fl.W) (h : Fl.rg x < Fl.I) (w : World) : (binOp .sub 22 (.float .f64 x) (.float .f64 x)).run Try.prog w = .ok (.float .f64 0) w :=
  run_float_arith w .sub _ .f64 x x 0 (Fl.sub_self_fin x hw h)

theorem finite_yes (x : Nat) (w : World) (hw : x < 2 * Fl.W) (h : Fl.rg x < Fl.I) : Calls Try.prog 40 #[.float .f64 x] w fun e w' => e = .returned (.bool true) ∧ w = w' := by
  have h1 := fin_walk_yes x hw h
  have h2 : FloatKind.f64.format.order 0 0 = some .eq := by decide
  go_enter Try.func40, Try.ntmps40
  go_wp2
  go_ret
  exact ⟨rfl, rfl⟩
theorem nan_order (s : Nat) (h : Fl.I < Fl.rg s) : FloatKind.f64.format.order s 0 = none := Fl.order_nan _ _ (.inl h)
theorem finite_no (x : Nat) (w : World) (h : ¬ Fl.rg x < Fl.I) : Calls Try.prog 40 #[.float .f64 x] w (BPost false w) := by
  obtain ⟨s, w1, hr, hs, hw1⟩ := run_float_any .sub 22 x x w (by simp)
  have hs1 : Fl.Is none s := by rw [← Fl.sub_self_not x h]; exact hs
  have ho := nan_order s hs1.1
  have HD : Hid (Dr w w1) := by rcases hw1 with rfl | rfl; exact Dr.refl _; exact Dr.drew _
  clear hs hs1 hw1 h
  go_enter Try.func40, Try.ntmps40
  go_wp2
  go_ret
  exact ⟨rfl, HD.out⟩
theorem finite_any (x : Nat) (w : World) (hw : x < 2 * Fl.W) : Calls Try.prog 40 #[.float .f64 x] w (BPost (Fl.fin x) w) := by
  by_cases h : Fl.rg x < Fl.I
  · rw [show Fl.fin x = true from decide_eq_true h]
    exact (finite_yes x w hw h).mono fun e w' ⟨h1, h2⟩ => ⟨h1, h2 ▸ Dr.refl w⟩
  · rw [show Fl.fin x = false from decide_eq_false h]
    exact finite_no x w h

/-- The float next to x. -/
def Fl.next (x : Nat) (up : Bool) : Nat :=
  if Fl.I < Fl.rg x then x
  else if Fl.rg x = Fl.I ∧ up = !Fl.sg x then x
  else if Fl.rg x = 0 then (if up then 1 else Fl.W + 1)
  else if up = !Fl.sg x then x + 1 else x - 1

end Go.Proofs.Ytgockebgcbmgoaa

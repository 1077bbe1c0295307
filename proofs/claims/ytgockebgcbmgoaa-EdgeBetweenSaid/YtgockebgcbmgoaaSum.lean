/-
  Walk: Sum, over a slice of floats.
-/
import Derived.Test.YtgockebgcbmgoaaDird
import Derived.Test.YtgockebgcbmgoaaStepsw
import Derived.Test.YtgockebgcbmgoaaTurnw
import Derived.LoopTactic
import Derived.Below
set_option linter.unusedVariables false
set_option linter.unusedSimpArgs false
namespace Go.Proofs.Ytgockebgcbmgoaa
open Go.RowKit

/-- What a row's sum may be: each NaN is any. -/
def Fl.SumIs (up : Bool) (z : Nat → Nat) : Nat → Nat → Prop
  | 0, s => s = 0
  | k + 1, s => ∃ u, Fl.SumIs up z k u ∧ Fl.Is (Fl.addS u (z k) up) s
theorem Fl.SumIs_lt {up : Bool} {z : Nat → Nat} (hz : ∀ k, z k < 2 * Fl.W) : ∀ {n s : Nat}, Fl.SumIs up z n s → s < 2 * Fl.W
  | 0, s, h => by have : s = 0 := h; subst this; decide
  | k + 1, s, ⟨u, h1, h2⟩ => Is_lt_add (Fl.SumIs_lt hz h1) (hz k) h2
theorem Fl.sum_side {z : Nat → Nat} (hz : ∀ k, z k < 2 * Fl.W) : ∀ {n s t : Nat}, Fl.SumIs false z n s → Fl.SumIs true z n t → Fl.NGt s t
  | 0, s, t, h1, h2 => by
    have e1 : s = 0 := h1
    have e2 : t = 0 := h2
    subst e1; subst e2
    exact .inr (.inr ⟨by decide, by decide, Int.le_refl _⟩)
  | k + 1, s, t, ⟨u, a1, a2⟩, ⟨v, b1, b2⟩ => Fl.add_grow (Fl.SumIs_lt hz a1) (Fl.SumIs_lt hz b1) (hz k) (.inl rfl) a2 b2 (Fl.sum_side hz a1 b1)
/-- The floats that a slice holds. -/
def FloatsAt (w : World) (A : Option Addr) (n : Nat) (z : Nat → Nat) : Prop := ∀ k, k < n → ∃ ad, A = some ad ∧ w.cell? (ad.add k) = some (.float .f64 (z k))
set_option maxRecDepth 100000 in
theorem sum_any (A : Option Addr) (n c : Nat) (z : Nat → Nat) (up : Bool) (w : World) (hz : ∀ k, z k < 2 * Fl.W) (hn : n ≤ 9223372036854775807) (hr : FloatsAt w A n z) :
    Calls Try.prog 21 #[.slice A n c, .bool up] w fun e w' => ∃ s, e = .returned (.float .f64 s) ∧ Fl.SumIs up z n s ∧ Dr w w' := by
  have HR := Lib.hid hr
  clear hr
  go_enter Try.func21, Try.ntmps21
  go_wp2_with fail
  go_loopw [5, 10] (fun v i wr => ∃ (k s : Nat), k ≤ n ∧ i = .int .i64 k ∧ v = .float .f64 s ∧ Fl.SumIs up z k s ∧ Dr w wr) (fun _ i _ => n - (intOf i).toNat)
  case atStart => exact ⟨0, 0, Nat.zero_le _, rfl, rfl, rfl, Dr.refl w⟩
  case round =>
    obtain ⟨k, s, hk, rfl, rfl, hs, hd⟩ := hrel
    have hcell : k < n → ∃ ad, A = some ad ∧ wr.cell? (ad.add k) = some (.float .f64 (z k)) := fun hl => by
      obtain ⟨ad, hA, hc⟩ := HR.out k hl
      obtain ⟨m, rfl⟩ := hd
      exact ⟨ad, hA, hc⟩
    have hsl := Fl.SumIs_lt hz hs
    have hzk := hz k
    have HS := Lib.hid hs
    have HD := Lib.hid hd
    clear hs hd
    by_cases hlt : k < n
    · obtain ⟨ad, rfl, hc⟩ := hcell hlt
      clear hcell
      go_wp2_with fail
      refine (add_any s (z k) up _ hsl hzk).mono ?_
      rintro e w1 ⟨t, rfl, ht, hdt⟩
      have HT := Lib.hid ht
      have HE := Lib.hid hdt
      clear ht hdt
      go_wp2
      go_roundw
      case rel => exact ⟨k + 1, t, by omega, by go_num, rfl, ⟨s, HS.out, HT.out⟩, HD.out.trans HE.out⟩
      case measure => simp [intOf]; omega
    · have hkn : k = n := by omega
      subst hkn
      clear hcell
      go_wp2
      go_ret
      exact ⟨s, rfl, HS.out, HD.out⟩
end Go.Proofs.Ytgockebgcbmgoaa

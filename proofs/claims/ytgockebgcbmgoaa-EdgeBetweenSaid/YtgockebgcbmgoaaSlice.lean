/-
  Slices of floats that are only read: how they come in.
-/
import Derived.Test.YtgockebgcbmgoaaSum
import Derived.ProofKit
import Derived.OpenShut
import Derived.Laws.Cover2
import Derived.Deep.Slices
set_option linter.unusedVariables false
set_option linter.unusedSimpArgs false
namespace Go.Proofs.Ytgockebgcbmgoaa
open Go.ChangeShapes Go.WideShapes Go.ChangeAt Go.RowKit Go.Deep

theorem Dr.same {w w' : World} (h : Dr w w') (p : MemPlace) : w.sameAt w' p := by
  obtain ⟨m, rfl⟩ := h
  cases p <;> rfl
/-- A slice of floats. -/
def FloatSlice (w : World) (A : Option Addr) (n c : Nat) (z : Nat → Nat) : Prop := n ≤ c ∧ n ≤ 9223372036854775807 ∧ (∀ k, z k < 2 * Fl.W) ∧ FloatsAt w A n z
theorem float_cell {H : Type} {enc : TypeId × Value → H} {P : Program} {w : World} {base : Nat} {spare : Nat → Bool} {held : Bool} {n : Nat} {e : TypeId} {v : Value} {x : DataW H × List MemPlace} (he : P.underlying e = some (.float .f64)) (h : DataW.trod enc P w base spare held n e [v] = some x) : ∃ b, v = .float .f64 b ∧ b < 2 * Fl.W := by
  cases n with
  | zero => simp [DataW.trod] at h
  | succ m =>
    simp only [DataW.trod, he] at h
    cases v <;> simp at h
    obtain ⟨⟨rfl, hw⟩, _⟩ := h
    exact ⟨_, rfl, wf_float hw⟩
theorem open_floats {H : Type} {enc : TypeId × Value → H} {P : Program} {w : World} {r : Reach} {b0 : Nat} {t e : TypeId} {v : Value} {d : DataW H} {ps : List MemPlace} (ht : P.underlying t = some (.slice e)) (he : P.underlying e = some (.float .f64)) (hc : P.cellsOf e = 1)
    (hval : Value.okWide P w r b0 t v) (hd : DataW.Trod enc P w 0 (fun _ => true) true t v d ps) : ∃ A n c z, v = .slice A n c ∧ FloatSlice w A n c z := by
  obtain ⟨A, n, c, rfl⟩ := okWide_slice ht hval
  obtain ⟨fuel, hf⟩ := hd
  rcases open_slice1 ht hc hf with ⟨hcs, _⟩ | ⟨a, len, cap, m, q, V, D, Pl, hcs, _, hl, hm, hmm, _, hx⟩
  · simp [Value.cells] at hcs
    obtain ⟨rfl, rfl, rfl⟩ := hcs
    exact ⟨_, _, _, fun _ => 0, rfl, Nat.le_refl _, Nat.zero_le _, fun _ => (by decide : (0 : Nat) < 2 * Fl.W), fun k hk => absurd hk (Nat.not_lt_zero k)⟩
  · simp [Value.cells] at hcs
    obtain ⟨rfl, rfl, rfl⟩ := hcs
    have hmc : m = c := by rw [hmm]; simp
    have key : ∀ k, ∃ b, k < n → w.cell? (a.add k) = some (.float .f64 b) ∧ b < 2 * Fl.W := fun k => by
      by_cases hk : k < n
      · obtain ⟨h1, h2⟩ := hx k (by omega)
        obtain ⟨b, hb, hb2⟩ := float_cell he h2
        exact ⟨b, fun _ => ⟨by rw [h1, hb], hb2⟩⟩
      · exact ⟨0, fun h => absurd h hk⟩
    have key2 : ∀ k, ∃ b, b < 2 * Fl.W ∧ (k < n → w.cell? (a.add k) = some (.float .f64 b)) := fun k => by
      by_cases hk : k < n
      · obtain ⟨b, hb⟩ := key k
        exact ⟨b, (hb hk).2, fun _ => (hb hk).1⟩
      · exact ⟨0, by decide, fun h => absurd h hk⟩
    refine ⟨_, _, _, fun k => Classical.choose (key2 k), rfl, hl, ?_, fun k => (Classical.choose_spec (key2 k)).1, fun k hk => ⟨a, rfl, (Classical.choose_spec (key2 k)).2 hk⟩⟩
    unfold maxLen at hm; omega
end Go.Proofs.Ytgockebgcbmgoaa

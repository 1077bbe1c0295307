/-
  The row of CutWidths: for every input the call answers true, and every argument reads behind it as before. No condition.
  A row's last step behind a call of which one knows that it turned nothing below the heap's end.
  Walks: CutWidths and CutNarrow.
  Walk: rosettelaw14's awake.
  Contracts of both Whole and both Digits for all input; the walk of rosettelaw14's awake.
  Walks: rosetteref14's Fits and Width; and the plain law of widths.
  Walks: cut's Width and rosetteref14's Width: one closed table of bounds.
  Walk: FaultTells: any order, any sizes: the program's bounds are the document's.
-/
import Derived.Test.YtclnmheplecknaaW17
import Derived.Deep.RegionHeld3
import Derived.Test.YtclnmheplecknaaRows
import Derived.WalkKit
import Derived.ProofKit
import Derived.OpenShut
import Derived.Laws.Cover2
import Derived.Below
import Derived.ChangeSame
set_option linter.unusedVariables false
set_option linter.unusedSimpArgs false
namespace Go.Proofs.Ytclnmheplecknaa
open Go.RowKit
theorem may_ok1 {order : Int} {x : Nat} (hx : x < 2 * Fl.W) (h : mayV order 1 (fun _ => x) = 0) : ∃ k : Nat, order = k ∧ k ≤ 14 ∧ Ok9 x := by
  rw [may1] at h
  split at h
  · simp at h
  · rename_i h0
    split at h
    · simp at h
    · rename_i h1
      split at h
      · simp at h
      · rename_i h2
        exact ⟨order.toNat, by omega, by omega, ok_of_may hx (by simpa using h1) (by simpa using h2)⟩
theorem may_ok2 {order : Int} {a b : Nat} (ha : a < 2 * Fl.W) (hb : b < 2 * Fl.W) (h : mayV order 2 (z2 a b) = 0) : ∃ k : Nat, order = k ∧ k ≤ 14 ∧ Ok9 a ∧ Ok9 b := by
  rw [may2] at h
  split at h
  · simp at h
  · rename_i h0
    split at h
    · simp at h
    · rename_i h1
      split at h
      · simp at h
      · rename_i h2
        simp at h1 h2
        exact ⟨order.toNat, by omega, by omega, ok_of_may ha h1.1 h2.1, ok_of_may hb h1.2 h2.2⟩
/-- What is known of Turn's float, of the reference's. -/
def TurnQ (order : Int) (x s : Nat) : Prop := (mayV order 1 (fun _ => x) ≠ 0 → s = 0) ∧ (mayV order 1 (fun _ => x) = 0 → ∃ u, Fl.Is (Fl.mulS (tC order.toNat) x true) u ∧ Fl.Is (Fl.addS u 103582791429521408 true) s)
def TurnR (order : Int) (x s : Nat) : Prop := (mayV order 1 (fun _ => x) ≠ 0 → s = 0) ∧ (mayV order 1 (fun _ => x) = 0 → ∃ k1, Fl.UpW (Fl.rv (Fl.rg (tC order.toNat)) * Fl.rv (Fl.rg x)) k1 ∧ (k1 < Fl.I → Fl.UpW ((Fl.rv (Fl.rg k1) + Fl.rv (Fl.rg least)) * 2 ^ 1074) s))
theorem turn_eq {order : Int} {x s s' : Nat} (hx : x < 2 * Fl.W) (h : TurnQ order x s) (h' : TurnR order x s') : s = s' := by
  by_cases h0 : mayV order 1 (fun _ => x) = 0
  · obtain ⟨k, rfl, hk, ok⟩ := may_ok1 hx h0
    obtain ⟨u, e1, e2⟩ := h.2 h0
    obtain ⟨k1, u1, u2⟩ := h'.2 h0
    rw [Int.toNat_natCast] at e1 u1
    obtain ⟨j1, j2⟩ := turn_join hk ok ⟨u, e1, e2⟩ u1
    exact j2 _ (u2 j1)
  · rw [h.1 h0, h'.1 h0]
def RingQ (order : Int) (a b s : Nat) (T : Int) : Prop := (mayV order 2 (z2 a b) ≠ 0 → T = mayV order 2 (z2 a b) ∧ s = 0) ∧
    (mayV order 2 (z2 a b) = 0 → ∃ u r, ProdIs (rC order.toNat) (z3 (rS order.toNat) a b) 3 u ∧ Fl.Is (Fl.addS u 103582791429521408 true) r ∧ ((Fl.rg r = Fl.I ∧ T = 6 ∧ s = 0) ∨ (Fl.rg r ≠ Fl.I ∧ T = 0 ∧ s = r)))
def RingR (order : Int) (a b s : Nat) (T : Int) : Prop := (mayV order 2 (z2 a b) ≠ 0 → T = mayV order 2 (z2 a b) ∧ s = 0) ∧
    (mayV order 2 (z2 a b) = 0 → ∃ k1 k2 k3 F, Fl.UpW (Fl.rv (Fl.rg (rC order.toNat)) * Fl.rv (Fl.rg (rS order.toNat))) k1 ∧ Fl.UpW (Fl.rv (Fl.rg k1) * Fl.rv (Fl.rg a)) k2 ∧ Fl.UpW (Fl.rv (Fl.rg k2) * Fl.rv (Fl.rg b)) k3 ∧
      (k3 < Fl.I → Fl.UpW ((Fl.rv (Fl.rg k3) + Fl.rv (Fl.rg least)) * 2 ^ 1074) F) ∧ (¬ k3 < Fl.I → F = k3) ∧ ((F < Fl.I ∧ T = 0 ∧ s = F) ∨ (¬ F < Fl.I ∧ T = 6 ∧ s = 0)))
theorem inf_least : Fl.addS Fl.I 103582791429521408 true = some Fl.I := by decide +kernel
theorem up_le_I {X k : Nat} (h : Fl.UpW X k) : k ≤ Fl.I := by
  obtain ⟨h1, h2, h3, h4⟩ := h.key
  rw [h3] at h1; exact h1
theorem ring_eq {order : Int} {a b s s' : Nat} {T T' : Int} (ha : a < 2 * Fl.W) (hb : b < 2 * Fl.W) (h : RingQ order a b s T) (h' : RingR order a b s' T') : s = s' ∧ T = T' := by
  by_cases h0 : mayV order 2 (z2 a b) = 0
  · obtain ⟨k, rfl, hk, oka, okb⟩ := may_ok2 ha hb h0
    obtain ⟨u, r, ⟨u2, ⟨u1, ⟨u0, h00, e1⟩, e2⟩, e3⟩, e4, hor⟩ := h.2 h0
    obtain ⟨k1, k2, k3, F, c1, c2, c3, c4, c5, hor'⟩ := h'.2 h0
    rw [Int.toNat_natCast] at e1 c1 h00
    rw [z3_0] at e1
    rw [z3_1] at e2
    rw [z3_2] at e3
    have e0 : u0 = rC k := h00
    rw [e0] at e1
    obtain ⟨j1, j2⟩ := ring_join hk oka okb e1 e2 e3 c1
    obtain ⟨j3, j4⟩ := j2 k2 c2
    obtain ⟨j5, j6⟩ := j4 k3 c3
    obtain ⟨p1, p2, p3, p4⟩ := up_word c3
    have hrF : r = F := by
      by_cases hf : k3 < Fl.I
      · have hpu : Fl.Pos u := by
          have hku : 0 ≤ Fl.key u := by rw [j5]; exact p3
          refine ⟨?_, hku⟩
          have e := Fl.key_pos_rg hku
          have e' := Fl.key_pos_rg p3
          rw [j5, e', p4] at e
          have : k3 = Fl.rg u := by omega
          rw [← this]; exact hf
        exact last_join (X := 0) j6 hpu j5 p3 e4 (Is_add_lt2 j6 least9.2.1 e4) (c4 hf)
      · have hk3 : k3 = Fl.I := by have := up_le_I c3; omega
        have hkI : Fl.key k3 = (k3 : Int) := by have e' := Fl.key_pos_rg p3; rw [p4] at e'; exact e'
        have hu : u = k3 := word_eq9 j6 p1 (by rw [j5, hkI, hk3]; decide) j5
        rw [hu, hk3, inf_least] at e4
        have : r = Fl.I := e4
        rw [c5 hf, hk3, this]
    have hF : Fl.rg F = F := (show Chain9 k a b k1 k2 k3 F from ⟨c1, c2, c3, c4, c5⟩).last.2
    have hFI : F ≤ Fl.I := by
      by_cases hf : k3 < Fl.I
      · exact up_le_I (c4 hf)
      · rw [c5 hf]; exact up_le_I c3
    subst hrF
    rw [hF] at hor
    rcases hor with ⟨g1, g2, g3⟩ | ⟨g1, g2, g3⟩ <;> rcases hor' with ⟨g4, g5, g6⟩ | ⟨g4, g5, g6⟩
    · omega
    · exact ⟨by rw [g3, g6], by rw [g2, g5]⟩
    · exact ⟨by rw [g3, g6], by rw [g2, g5]⟩
    · omega
  · obtain ⟨g1, g2⟩ := h.1 h0
    obtain ⟨g3, g4⟩ := h'.1 h0
    exact ⟨by rw [g2, g4], by rw [g1, g3]⟩
end Go.Proofs.Ytclnmheplecknaa

namespace Go.Proofs.Ytclnmheplecknaa
open Go.RowKit
def gA (k : Nat) : Nat := (Fl.mulS (rC k) (rS k) true).getD 0
def gS (b : Nat) : Nat := rN (b - 1)
def gB (k b : Nat) : Nat := (Fl.mulS (gA k) (gS b) true).getD 0
def gC (k b : Nat) : Nat := (Fl.mulS (gB k b) (gS b) true).getD 0
def gD (k b : Nat) : Nat := (Fl.addS (gC k b) 103582791429521408 true).getD 0
def quarterB (s : Nat) : Bool := FloatKind.f64.format.order s 4598175219545276416 == some .lt
/-- The greatest number of bits of an order. -/
def tabN (k : Nat) : Nat := [0, 0, 22, 21, 20, 19, 18, 17, 16, 16, 15, 14, 13, 12, 12].getD k 0
def fitB (k b : Nat) : Bool := decide (b ≤ tabN k)
theorem tab_chain : ∀ k : Fin 13, ∀ b : Fin 29, Fl.mulS (rC (k.val + 2)) (rS (k.val + 2)) true = some (gA (k.val + 2)) ∧ Fl.mulS (gA (k.val + 2)) (gS (b.val + 2)) true = some (gB (k.val + 2) (b.val + 2)) ∧ Fl.mulS (gB (k.val + 2) (b.val + 2)) (gS (b.val + 2)) true = some (gC (k.val + 2) (b.val + 2)) ∧
    Fl.addS (gC (k.val + 2) (b.val + 2)) 103582791429521408 true = some (gD (k.val + 2) (b.val + 2)) ∧ Fl.rg (gD (k.val + 2) (b.val + 2)) ≠ Fl.I ∧ quarterB (gD (k.val + 2) (b.val + 2)) = fitB (k.val + 2) (b.val + 2) := by decide +kernel
theorem tab_size : ∀ b : Fin 29, gS (b.val + 2) < 2 * Fl.W ∧ ((List.range 2).any fun k => badB (z2 (gS (b.val + 2)) (gS (b.val + 2)) k)) = false ∧ ((List.range 2).any fun k => overB (z2 (gS (b.val + 2)) (gS (b.val + 2)) k)) = false := by decide +kernel
theorem gS_lt {b : Nat} (hb1 : 2 ≤ b) (hb2 : b ≤ 30) : gS b < 2 * Fl.W := by
  have h := (tab_size ⟨b - 2, by omega⟩).1
  rwa [show b - 2 + 2 = b by omega] at h
theorem may_size {b : Nat} (k : Nat) (hb1 : 2 ≤ b) (hb2 : b ≤ 30) : mayV (k : Int) 2 (z2 (gS b) (gS b)) = if 14 < k then 2 else 0 := by
  obtain ⟨_, h1, h2⟩ := tab_size ⟨b - 2, by omega⟩
  rw [show b - 2 + 2 = b by omega] at h1 h2
  unfold mayV
  rw [h1, h2]
  by_cases h : 14 < k
  · rw [if_pos (by omega), if_pos h]
  · rw [if_neg (by omega), if_neg h]; simp
theorem ringq_size {k b s : Nat} {T : Int} (hk : 2 ≤ k) (hb1 : 2 ≤ b) (hb2 : b ≤ 30) (h : RingQ (k : Int) (gS b) (gS b) s T) : (14 < k → T = 2 ∧ s = 0) ∧ (¬ 14 < k → T = 0 ∧ quarterB s = fitB k b) := by
  have hm := may_size k hb1 hb2
  refine ⟨fun h14 => ?_, fun h14 => ?_⟩
  · rw [if_pos h14] at hm
    obtain ⟨e1, e2⟩ := h.1 (by rw [hm]; decide)
    exact ⟨by rw [e1, hm], e2⟩
  · rw [if_neg h14] at hm
    obtain ⟨c1, c2, c3, c4, c5, c6⟩ := tab_chain ⟨k - 2, by omega⟩ ⟨b - 2, by omega⟩
    simp only [show k - 2 + 2 = k by omega, show b - 2 + 2 = b by omega] at c1 c2 c3 c4 c5 c6
    obtain ⟨u, r, ⟨u2, ⟨u1, ⟨u0, h00, h1⟩, h2⟩, h3⟩, hr, hor⟩ := h.2 hm
    rw [z3_0] at h1
    rw [z3_1] at h2
    rw [z3_2] at h3
    rw [Int.toNat_natCast] at h00 h1
    have e0 : u0 = rC k := h00
    rw [e0] at h1
    have g1 := Is_some h1 c1
    rw [g1] at h2
    have g2 := Is_some h2 c2
    rw [g2] at h3
    have g3 := Is_some h3 c3
    rw [g3] at hr
    have d4 : Fl.addS (gC k b) 103582791429521408 true = some (gD k b) := c4
    have g4 : r = gD k b := by
      rw [d4] at hr
      exact hr
    rcases hor with ⟨h, e1, e2⟩ | ⟨h, e1, e2⟩
    · exfalso
      rw [g4] at h
      exact c5 h
    · exact ⟨e1, (congrArg quarterB (e2.trans g4)).trans c6⟩
/-- The least order for so many numbers. -/
def kOf (M : Nat) : Nat := Nat.log2 (M - 1) + 1
theorem kOf_iff {M : Nat} (hM : 2 ≤ M) (k : Nat) : 2 ^ k < M ↔ k < kOf M := by
  have h := @Nat.log2_lt (M - 1) k (by omega)
  unfold kOf
  omega
/-- Do digits of so many bits go? -/
def fit (l b : Nat) : Bool := fitB (kOf (2 * (64 * l / b + 2))) b
theorem kOf_two {l b : Nat} : 2 ≤ kOf (2 * (64 * l / b + 2)) := by
  obtain ⟨m, hm⟩ : ∃ m, m = 64 * l / b := ⟨_, rfl⟩
  rw [← hm]
  have h := (kOf_iff (M := 2 * (m + 2)) (by omega) 1).1 (by omega)
  omega
theorem kOf_le {M : Nat} (h2 : 2 ≤ M) (h : M ≤ 524288) : kOf M ≤ 19 := by
  have h1 := kOf_iff h2 19
  have h3 : (2 : Nat) ^ 19 = 524288 := by decide
  omega
theorem fitB_high {k b : Nat} (hb : 2 ≤ b) (h : 14 < k) : fitB k b = false := by
  unfold fitB tabN
  rw [List.getD_eq_getElem?_getD, List.getElem?_eq_none (by simp; omega)]
  simp; omega
def wid (l : Nat) : Nat → Nat
  | 0 => 0
  | 1 => 0
  | b + 2 => if fit l (b + 2) then b + 2 else wid l (b + 1)
theorem wid_yes {l b : Nat} (hb : 2 ≤ b) (h : fit l b = true) : wid l b = b := by
  obtain ⟨c, rfl⟩ : ∃ c, b = c + 2 := ⟨b - 2, by omega⟩
  simp [wid, h]
theorem wid_no {l b : Nat} (hb : 2 ≤ b) (h : fit l b = false) : wid l b = wid l (b - 1) := by
  obtain ⟨c, rfl⟩ : ∃ c, b = c + 2 := ⟨b - 2, by omega⟩
  simp [wid, h]
def widV (L : Int) : Int := if L < 1 ∨ 4096 < L then 0 else (wid L.toNat 30 : Nat)
def widE (L : Int) : Int := if L < 1 ∨ 4096 < L then 2 else if wid L.toNat 30 = 0 then 3 else 0
theorem ldexp_size (b : Nat) (w : World) (hb1 : 2 ≤ b) (hb2 : b ≤ 30) : Calls Try.prog 51 #[.float .f64 4607182418800017408, .int .i64 ((b : Int) - 1)] w fun e w' => e = .returned (.float .f64 (gS b)) ∧ w = w' := by
  have h := ldexp_fin 4607182418800017408 ((b - 1 : Nat) : Int) w (by decide) (by decide) (by decide) (by omega) (by omega)
  rw [show ((b - 1 : Nat) : Int) = (b : Int) - 1 by omega] at h
  refine h.mono ?_
  rintro e w' ⟨rfl, rfl⟩
  refine ⟨?_, rfl⟩
  unfold gS rN
  rw [show ((b : Int) - 1) = ((b - 1 : Nat) : Int) by omega]
set_option maxRecDepth 400000 in
set_option maxHeartbeats 4000000 in
theorem cwidth_yes (l : Nat) (w : World) (h1 : 1 ≤ l) (h2 : l ≤ 4096) : Calls Try.prog 25 #[.int .i64 l] w fun e w' => e = .returned (.tuple #[.int .i64 (wid l 30), .int .i64 (if wid l 30 = 0 then 3 else 0)]) ∧ Below w.heap.size w w' := by
  have HL := Lib.hid (fun (b : Nat) w (h1 : 2 ≤ b) (h2 : b ≤ 30) => ldexp_size b w h1 h2)
  have HR : Hid (∀ (k b : Nat) (w : World), 2 ≤ k → 2 ≤ b → b ≤ 30 → Calls Try.prog 52 #[.int .i64 k, .float .f64 (gS b), .float .f64 (gS b)] w fun e w' => ∃ s T, e = .returned (.tuple #[.float .f64 s, .int .i64 T]) ∧ ((14 < k → T = 2 ∧ s = 0) ∧ (¬ 14 < k → T = 0 ∧ quarterB s = fitB k b)) ∧ Below w.heap.size w w') := Lib.hid (fun k b w hk hb1 hb2 => by
    refine (ring_any k (gS b) (gS b) w (gS_lt hb1 hb2) (gS_lt hb1 hb2)).mono ?_
    rintro e w' ⟨s, T, he, q1, q2, hbl⟩
    exact ⟨s, T, he, ringq_size hk hb1 hb2 ⟨q1, q2⟩, hbl⟩)
  obtain ⟨R, hR⟩ : ∃ R, R = wid l 30 := ⟨_, rfl⟩
  rw [← hR]
  have HR0 := Lib.hid hR
  obtain ⟨E, hE⟩ : ∃ E : Int, E = if R = 0 then 3 else 0 := ⟨_, rfl⟩
  rw [← hE]
  have HE := Lib.hid hE
  clear hR hE
  go_enter Try.func25, Try.ntmps25
  go_wp2_with fail
  go_loopw [4] (fun t wr => ∃ b : Nat, 1 ≤ b ∧ b ≤ 30 ∧ t = .int .i64 b ∧ Hid (wid l b = R) ∧ Below w.heap.size w wr) (fun t _ => (intOf t).toNat)
  case atStart => exact ⟨30, by decide, by decide, rfl, Lib.hid HR0.out.symm, Below.refl _ _⟩
  case round =>
    obtain ⟨b, hb1, hb2, rfl, HW, hbl⟩ := hrel
    have HB := Lib.hid hbl
    clear hbl
    by_cases hlt : 2 ≤ b
    · obtain ⟨m, hm⟩ : ∃ m, m = 64 * l / b := ⟨_, rfl⟩
      have hmb : m ≤ 131072 := by
        rw [hm]
        exact Nat.le_trans (Nat.div_le_div (Nat.mul_le_mul_left 64 h2) hlt (by decide)) (by decide)
      have hmi : ((64 * (l : Int)).tdiv (b : Int)) = (m : Int) := by
        rw [hm, show (64 * (l : Int)) = ((64 * l : Nat) : Int) by omega]; exact Int.ofNat_tdiv ..
      have hmi2 : ((64 * (l : Int)) / (b : Int)) = (m : Int) := by
        rw [hm]; simp
      obtain ⟨K, hK⟩ : ∃ K, K = kOf (2 * (m + 2)) := ⟨_, rfl⟩
      have hK2 : 2 ≤ K := by rw [hK, hm]; exact kOf_two
      have hK19 : K ≤ 19 := by rw [hK]; exact kOf_le (by omega) (by omega)
      have HKI := Lib.hid (fun k => kOf_iff (M := 2 * (m + 2)) (by omega) k)
      have HF : Hid (fit l b = fitB K b) := Lib.hid (by unfold fit; rw [hK, hm])
      rw [← hK] at HKI
      clear hK hm
      go_wp2_with fail
      go_loop [6] (fun kv => ∃ k : Nat, k ≤ K ∧ kv = .int .i64 k) (fun kv => K - (intOf kv).toNat)
      case atStart => exact ⟨0, Nat.zero_le _, rfl⟩
      case round =>
        obtain ⟨k, hk, rfl⟩ := hrel
        obtain ⟨pw, hpw⟩ : ∃ pw : Nat, pw = 2 ^ k := ⟨_, rfl⟩
        have hpwb : pw ≤ 524288 := by
          rw [hpw]
          have h2 : (2 : Nat) ^ k ≤ 2 ^ 19 := Nat.pow_le_pow_right (by decide) (by omega)
          have h3 : (2 : Nat) ^ 19 = 524288 := by decide
          omega
        have hsl : IntKind.i64.wrap (2 ^ k) = (pw : Int) := by
          rw [show ((2 : Int) ^ k) = ((2 ^ k : Nat) : Int) by simp, ← hpw, IntKind.wrap_i64]; omega
        have hsl1 : wrap64 ((2 : Int) ^ k) = (pw : Int) := by
          rw [show ((2 : Int) ^ k) = ((2 ^ k : Nat) : Int) by simp, ← hpw]; unfold wrap64; omega
        have hki := HKI.out k
        rw [← hpw] at hki
        have hgd : ∀ t : Bool, (decide (k < K) = t) → decide ((pw : Int) < 2 * ((m : Int) + 2)) = t := by
          clear hsl hsl1 hpw hmi hmi2
          intro t ht
          rw [← ht]
          exact decide_eq_decide.2 (by rw [← hki]; omega)
        by_cases hlk : k < K
        · have hg := hgd true (decide_eq_true hlk)
          clear hpw hki hgd
          go_wp2_with fail
          go_round
          case rel => exact ⟨k + 1, hlk, by go_num⟩
          case measure => simp [intOf]; omega
        · obtain rfl : k = K := by omega
          have hg := hgd false (decide_eq_false hlk)
          have HPW := Lib.hid hpw
          clear hpw hki hgd hpwb
          go_wp2_with fail
          refine (HL.out b _ hlt hb2).mono ?_
          rintro e w1 ⟨rfl, rfl⟩
          go_wp2_with fail
          refine (HR.out k b _ hK2 hlt hb2).mono ?_
          rintro e w1 ⟨s, T, rfl, hor, hbl⟩
          have HB2 := Lib.hid (HB.out.trans (hbl.mono HB.out.size))
          clear hbl
          by_cases h14 : 14 < k
          · obtain ⟨rfl, rfl⟩ := hor.1 h14
            have HN := Lib.hid (show wid l (b - 1) = R by rw [← HW.out, wid_no hlt (by rw [HF.out]; exact fitB_high hlt h14)])
            clear hor
            go_wp2
            go_round
            case rel => exact ⟨b - 1, by omega, by omega, by go_num, HN, HB2.out⟩
            case measure => simp [intOf]; omega
          · obtain ⟨rfl, hq⟩ := hor.2 h14
            unfold quarterB at hq
            cases hf : fitB k b
            · rw [hf] at hq
              have HN := Lib.hid (show wid l (b - 1) = R by rw [← HW.out, wid_no hlt (by rw [HF.out]; exact hf)])
              clear hor hf
              go_wp2
              go_round
              case rel => exact ⟨b - 1, by omega, by omega, by go_num, HN, HB2.out⟩
              case measure => simp [intOf]; omega
            · rw [hf] at hq
              have HN := Lib.hid (show R = b by rw [← HW.out, wid_yes hlt (by rw [HF.out]; exact hf)])
              clear hor hf
              go_wp2
              go_ret2
              exact ⟨by rw [HE.out, HN.out, if_neg (by omega)]; rfl, HB2.out⟩
    · obtain rfl : b = 1 := by omega
      have HN := Lib.hid (show R = 0 by rw [← HW.out]; rfl)
      go_wp2
      go_ret2
      exact ⟨by rw [HE.out, HN.out]; rfl, HB.out⟩
theorem width_any (L : Int) (w : World) : Calls Try.prog 25 #[.int .i64 L] w fun e w' => e = .returned (.tuple #[.int .i64 (widV L), .int .i64 (widE L)]) ∧ Below w.heap.size w w' := by
  by_cases h1 : 1 ≤ L
  · by_cases h2 : L ≤ 4096
    · obtain ⟨l, rfl⟩ : ∃ l : Nat, L = l := ⟨L.toNat, by omega⟩
      have h := cwidth_yes l w (by omega) (by omega)
      unfold widV widE
      rw [if_neg (by omega), if_neg (by omega), Int.toNat_natCast]
      exact h
    · have hv : widV L = 0 := by unfold widV; rw [if_pos (by omega)]
      have he : widE L = 2 := by unfold widE; rw [if_pos (by omega)]
      rw [hv, he]
      clear hv he
      have hd : decide (L < 1) = false := decide_eq_false (by omega)
      have hd2 : decide (4096 < L) = true := decide_eq_true (by omega)
      go_enter Try.func25, Try.ntmps25
      go_wp2
      go_ret2
      exact ⟨rfl, Below.refl _ _⟩
  · have hv : widV L = 0 := by unfold widV; rw [if_pos (by omega)]
    have he : widE L = 2 := by unfold widE; rw [if_pos (by omega)]
    rw [hv, he]
    clear hv he
    have hd : decide (L < 1) = true := decide_eq_true (by omega)
    go_enter Try.func25, Try.ntmps25
    go_wp2
    go_ret2
    exact ⟨rfl, Below.refl _ _⟩
end Go.Proofs.Ytclnmheplecknaa

namespace Go.Proofs.Ytclnmheplecknaa
open Go.RowKit
theorem rring_size {k b s : Nat} {T : Int} (hk : 2 ≤ k) (hk14 : k ≤ 14) (hb1 : 2 ≤ b) (hb2 : b ≤ 30) (h : RingR (k : Int) (gS b) (gS b) s T) (w : World) : T = 0 ∧ quarterB s = fitB k b := by
  have h1 := ring_any (k : Int) (gS b) (gS b) w (gS_lt hb1 hb2) (gS_lt hb1 hb2)
  obtain ⟨c1, c2, c3, c4, c5, c6⟩ := tab_chain ⟨k - 2, by omega⟩ ⟨b - 2, by omega⟩
  simp only [show k - 2 + 2 = k by omega, show b - 2 + 2 = b by omega] at c1 c2 c3 c4 c5 c6
  have hm := may_size k hb1 hb2
  rw [if_neg (by omega)] at hm
  have hq : RingQ (k : Int) (gS b) (gS b) (gD k b) 0 := by
    refine ⟨fun h => absurd hm h, fun _ => ⟨gC k b, gD k b, ⟨gB k b, ⟨gA k, ⟨rC k, ?_, ?_⟩, ?_⟩, ?_⟩, ?_, .inr ⟨c5, rfl, rfl⟩⟩⟩
    · rw [Int.toNat_natCast]; exact (rfl : rC k = rC k)
    · rw [z3_0, Int.toNat_natCast, c1]; exact (rfl : gA k = gA k)
    · rw [z3_1, c2]; exact (rfl : gB k b = gB k b)
    · rw [z3_2, c3]; exact (rfl : gC k b = gC k b)
    · rw [c4]; exact (rfl : gD k b = gD k b)
  obtain ⟨e1, e2⟩ := ring_eq (gS_lt hb1 hb2) (gS_lt hb1 hb2) hq h
  exact ⟨e2.symm, by rw [← e1, c6]⟩
set_option maxRecDepth 400000 in
set_option maxHeartbeats 4000000 in
theorem rfits_any (l b : Nat) (w : World) (h1 : 1 ≤ l) (h2 : l ≤ 4096) (hlt : 2 ≤ b) (hb2 : b ≤ 30) : Calls Try.prog 56 #[.int .i64 l, .int .i64 b] w fun e w' => e = .returned (.bool (fit l b)) ∧ Below w.heap.size w w' := by
  have HL := Lib.hid (fun w => ldexp_size b w hlt hb2)
  have HR : Hid (∀ (k : Nat) (w : World), 2 ≤ k → k ≤ 14 → Calls Try.prog 97 #[.int .i64 k, .float .f64 (gS b), .float .f64 (gS b)] w fun e w' => ∃ s T, e = .returned (.tuple #[.float .f64 s, .int .i64 T]) ∧ (T = 0 ∧ quarterB s = fitB k b) ∧ Below w.heap.size w w') := Lib.hid (fun k w hk hk14 => by
    refine (rring_any k (gS b) (gS b) w (gS_lt hlt hb2) (gS_lt hlt hb2)).mono ?_
    rintro e w' ⟨s, T, he, q1, q2, hbl⟩
    exact ⟨s, T, he, rring_size hk hk14 hlt hb2 ⟨q1, q2⟩ w, hbl⟩)
  obtain ⟨F, hF⟩ : ∃ F, F = fit l b := ⟨_, rfl⟩
  rw [← hF]
  obtain ⟨m, hm⟩ : ∃ m, m = 64 * l / b := ⟨_, rfl⟩
  have hmb : m ≤ 131072 := by
    rw [hm]
    exact Nat.le_trans (Nat.div_le_div (Nat.mul_le_mul_left 64 h2) hlt (by decide)) (by decide)
  have hmi : ((64 * (l : Int)).tdiv (b : Int)) = (m : Int) := by
    rw [hm, show (64 * (l : Int)) = ((64 * l : Nat) : Int) by omega]; exact Int.ofNat_tdiv ..
  have hmi2 : ((64 * (l : Int)) / (b : Int)) = (m : Int) := by
    rw [hm]; simp
  obtain ⟨K, hK⟩ : ∃ K, K = kOf (2 * (m + 2)) := ⟨_, rfl⟩
  have hK2 : 2 ≤ K := by rw [hK, hm]; exact kOf_two
  have hK19 : K ≤ 19 := by rw [hK]; exact kOf_le (by omega) (by omega)
  have HKI := Lib.hid (fun k => kOf_iff (M := 2 * (m + 2)) (by omega) k)
  have HF : Hid (F = fitB K b) := Lib.hid (by rw [hF]; unfold fit; rw [hK, hm])
  rw [← hK] at HKI
  clear hK hm hF
  go_enter Try.func56, Try.ntmps56
  go_wp2_with fail
  go_loop [6] (fun kv => ∃ k : Nat, k ≤ K ∧ k ≤ 15 ∧ kv = .int .i64 k) (fun kv => 15 - (intOf kv).toNat)
  case atStart => exact ⟨0, Nat.zero_le _, by decide, rfl⟩
  case round =>
    obtain ⟨k, hk, hk15, rfl⟩ := hrel
    obtain ⟨pw, hpw⟩ : ∃ pw : Nat, pw = 2 ^ k := ⟨_, rfl⟩
    have hpwb : pw ≤ 524288 := by
      rw [hpw]
      have h2 : (2 : Nat) ^ k ≤ 2 ^ 19 := Nat.pow_le_pow_right (by decide) (by omega)
      have h3 : (2 : Nat) ^ 19 = 524288 := by decide
      omega
    have hsl : IntKind.i64.wrap (2 ^ k) = (pw : Int) := by
      rw [show ((2 : Int) ^ k) = ((2 ^ k : Nat) : Int) by simp, ← hpw, IntKind.wrap_i64]; omega
    have hsl1 : wrap64 ((2 : Int) ^ k) = (pw : Int) := by
      rw [show ((2 : Int) ^ k) = ((2 ^ k : Nat) : Int) by simp, ← hpw]; unfold wrap64; omega
    have hcw2 : IntKind.u64.wrap (k : Int) = (k : Int) := by rw [IntKind.wrap_u64]; omega
    have hki := HKI.out k
    rw [← hpw] at hki
    have hgd : ∀ t : Bool, (decide (k < K) = !t) → decide (2 * ((m : Int) + 2) ≤ (pw : Int)) = t := by
      clear hsl hsl1 hpw hmi hmi2
      intro t ht
      cases t
      · exact decide_eq_false (by have := of_decide_eq_true ht; omega)
      · exact decide_eq_true (by have := of_decide_eq_false ht; omega)
    by_cases h14 : k ≤ 14
    · by_cases hlk : k < K
      · have hg := hgd false (by simpa using hlk)
        clear hpw hki hgd
        go_wp2_with fail
        go_round
        case rel => exact ⟨k + 1, hlk, by omega, by go_num⟩
        case measure => simp [intOf]; omega
      · obtain rfl : k = K := by omega
        have hg := hgd true (by simp)
        clear hpw hki hgd hpwb
        go_wp2_with fail
        refine (HL.out _).mono ?_
        rintro e w1 ⟨rfl, rfl⟩
        go_wp2_with fail
        refine (HR.out k _ hK2 h14).mono ?_
        rintro e w1 ⟨s, T, rfl, ⟨rfl, hq⟩, hbl⟩
        have HB2 := Lib.hid hbl
        clear hbl
        rw [← HF.out] at hq
        unfold quarterB at hq
        cases F
        · go_wp2
          go_ret
          exact ⟨rfl, HB2.out⟩
        · go_wp2
          go_ret
          exact ⟨rfl, HB2.out⟩
    · have HN := Lib.hid (show F = false by rw [HF.out]; exact fitB_high hlt (by omega))
      clear hpw hki hgd hpwb
      go_wp2
      go_ret
      exact ⟨by rw [HN.out]; rfl, Below.refl _ _⟩
set_option maxRecDepth 400000 in
set_option maxHeartbeats 4000000 in
theorem rwidth_yes (l : Nat) (w : World) (h1 : 1 ≤ l) (h2 : l ≤ 4096) : Calls Try.prog 29 #[.int .i64 l] w fun e w' => e = .returned (.tuple #[.int .i64 (wid l 30), .int .i64 (if wid l 30 = 0 then 3 else 0)]) ∧ Below w.heap.size w w' := by
  have HFI := Lib.hid (fun (b : Nat) w (hb1 : 2 ≤ b) (hb2 : b ≤ 30) => rfits_any l b w h1 h2 hb1 hb2)
  obtain ⟨R, hR⟩ : ∃ R, R = wid l 30 := ⟨_, rfl⟩
  rw [← hR]
  have HR0 := Lib.hid hR
  obtain ⟨E, hE⟩ : ∃ E : Int, E = if R = 0 then 3 else 0 := ⟨_, rfl⟩
  rw [← hE]
  have HE := Lib.hid hE
  clear hR hE
  go_enter Try.func29, Try.ntmps29
  go_wp2_with fail
  go_loopw [4] (fun t wr => ∃ b : Nat, 1 ≤ b ∧ b ≤ 30 ∧ t = .int .i64 b ∧ Hid (wid l b = R) ∧ Below w.heap.size w wr) (fun t _ => (intOf t).toNat)
  case atStart => exact ⟨30, by decide, by decide, rfl, Lib.hid HR0.out.symm, Below.refl _ _⟩
  case round =>
    obtain ⟨b, hb1, hb2, rfl, HW, hbl⟩ := hrel
    have HB := Lib.hid hbl
    clear hbl
    by_cases hlt : 2 ≤ b
    · go_wp2_with fail
      refine (HFI.out b _ hlt hb2).mono ?_
      rintro e w1 ⟨rfl, hbl⟩
      have HB2 := Lib.hid (HB.out.trans (hbl.mono HB.out.size))
      clear hbl
      cases hf : fit l b
      · have HN := Lib.hid (show wid l (b - 1) = R by rw [← HW.out, wid_no hlt hf])
        clear hf
        go_wp2
        go_round
        case rel => exact ⟨b - 1, by omega, by omega, by go_num, HN, HB2.out⟩
        case measure => simp [intOf]; omega
      · have HN := Lib.hid (show R = b by rw [← HW.out, wid_yes hlt hf])
        clear hf
        go_wp2
        go_ret2
        exact ⟨by rw [HE.out, HN.out, if_neg (by omega)]; rfl, HB2.out⟩
    · obtain rfl : b = 1 := by omega
      have HN := Lib.hid (show R = 0 by rw [← HW.out]; rfl)
      go_wp2
      go_ret2
      exact ⟨by rw [HE.out, HN.out]; rfl, HB.out⟩
theorem rwidth_any (L : Int) (w : World) : Calls Try.prog 29 #[.int .i64 L] w fun e w' => e = .returned (.tuple #[.int .i64 (widV L), .int .i64 (widE L)]) ∧ Below w.heap.size w w' := by
  by_cases h1 : 1 ≤ L
  · by_cases h2 : L ≤ 4096
    · obtain ⟨l, rfl⟩ : ∃ l : Nat, L = l := ⟨L.toNat, by omega⟩
      have h := rwidth_yes l w (by omega) (by omega)
      unfold widV widE
      rw [if_neg (by omega), if_neg (by omega), Int.toNat_natCast]
      exact h
    · have hv : widV L = 0 := by unfold widV; rw [if_pos (by omega)]
      have he : widE L = 2 := by unfold widE; rw [if_pos (by omega)]
      rw [hv, he]
      clear hv he
      have hd : decide (L < 1) = false := decide_eq_false (by omega)
      have hd2 : decide (4096 < L) = true := decide_eq_true (by omega)
      go_enter Try.func29, Try.ntmps29
      go_wp2
      go_ret2
      exact ⟨rfl, Below.refl _ _⟩
  · have hv : widV L = 0 := by unfold widV; rw [if_pos (by omega)]
    have he : widE L = 2 := by unfold widE; rw [if_pos (by omega)]
    rw [hv, he]
    clear hv he
    have hd : decide (L < 1) = true := decide_eq_true (by omega)
    go_enter Try.func29, Try.ntmps29
    go_wp2
    go_ret2
    exact ⟨rfl, Below.refl _ _⟩
/-! ### the plain law of widths -/
theorem tabN_anti {k k' : Nat} (h2 : 2 ≤ k) (h : k ≤ k') : tabN k' ≤ tabN k := by
  by_cases h15 : k' < 15
  · have ht : ∀ a b : Fin 15, 2 ≤ a.val → a.val ≤ b.val → tabN b.val ≤ tabN a.val := by decide
    exact ht ⟨k, by omega⟩ ⟨k', h15⟩ h2 h
  · have : tabN k' = 0 := by unfold tabN; rw [List.getD_eq_getElem?_getD, List.getElem?_eq_none (by simp; omega)]; rfl
    omega
theorem kOf_mono {M M' : Nat} (h2 : 2 ≤ M) (h : M ≤ M') : kOf M ≤ kOf M' := by
  rcases Nat.lt_or_ge (kOf M') (kOf M) with hc | hc
  · have h1 := (kOf_iff h2 (kOf M')).2 hc
    have h3 := (kOf_iff (M := M') (by omega) (kOf M')).1 (by omega)
    omega
  · exact hc
theorem fit_anti {n n' b : Nat} (h : n ≤ n') (hf : fit n' b = true) : fit n b = true := by
  unfold fit fitB at hf ⊢
  have h1 : 64 * n / b ≤ 64 * n' / b := Nat.div_le_div_right (Nat.mul_le_mul_left 64 h)
  have h2 : tabN (kOf (2 * (64 * n' / b + 2))) ≤ tabN (kOf (2 * (64 * n / b + 2))) := by
    refine tabN_anti kOf_two (kOf_mono ?_ ?_)
    · obtain ⟨m, hm⟩ : ∃ m, m = 64 * n / b := ⟨_, rfl⟩
      rw [← hm]; omega
    · exact Nat.mul_le_mul_left 2 (Nat.add_le_add_right h1 2)
  have h3 := of_decide_eq_true hf
  exact decide_eq_true (Nat.le_trans h3 h2)
theorem wid_anti {n n' : Nat} (h : n ≤ n') : ∀ b : Nat, wid n' b ≤ wid n b
  | 0 => Nat.le_refl _
  | 1 => Nat.le_refl _
  | b + 2 => by
    have ih := wid_anti h (b + 1)
    have hle : ∀ m c, wid m c ≤ c := fun m c => by
      induction c with
      | zero => exact Nat.le_refl _
      | succ c ihc =>
        cases c with
        | zero => exact Nat.zero_le _
        | succ c => unfold wid; split <;> omega
    cases hf : fit n' (b + 2)
    · rw [wid_no (by omega) hf]
      cases hg : fit n (b + 2)
      · rw [wid_no (b := b + 2) (by omega) hg]; exact ih
      · rw [wid_yes (b := b + 2) (by omega) hg]
        have := hle n' (b + 1)
        simp only [Nat.add_sub_cancel, show b + 2 - 1 = b + 1 by omega]
        omega
    · rw [wid_yes (by omega) hf, wid_yes (by omega) (fit_anti h hf)]
      exact Nat.le_refl _
theorem wid_at : wid 1 30 = 20 ∧ wid 1535 30 = 12 ∧ wid 1536 30 = 0 := by decide +kernel
theorem wid_law (n : Nat) (h1 : 1 ≤ n) : (1535 < n → wid n 30 = 0) ∧ (n ≤ 1535 → 12 ≤ wid n 30 ∧ wid n 30 ≤ 20) ∧ wid (n + 1) 30 ≤ wid n 30 := by
  obtain ⟨e1, e2, e3⟩ := wid_at
  refine ⟨fun h => ?_, fun h => ⟨?_, ?_⟩, wid_anti (Nat.le_succ n) 30⟩
  · have := wid_anti (show 1536 ≤ n by omega) 30; omega
  · have := wid_anti h 30; omega
  · have := wid_anti h1 30; omega
end Go.Proofs.Ytclnmheplecknaa

namespace Go.Proofs.Ytclnmheplecknaa
open Go.RowKit
theorem U_none (w : World) : U w none 0 0 [] := ⟨rfl, Nat.le_refl _, fun _ => rfl, fun k x hk => by simp at hk⟩
/-- The size of digits put together, its limbs; what is told. -/
def mgN (b : Nat) (l : List Int) : Nat := max (upN b l) (dnN b l) - min (upN b l) (dnN b l)
def mgL (b : Nat) (l : List Int) : List Int := Nt.dg 18446744073709551616 (mgN b l)
def wE (b : Int) (l : List Int) : Int := if 2 ≤ b ∧ b ≤ 30 then (if (mgL b.toNat l).length ≤ 4096 then 0 else 3) else 2
def wS (b : Int) (l : List Int) : Bool := if wE b l = 0 then decide (upN b.toNat l < dnN b.toNat l) else false
def wL (b : Int) (l : List Int) : List Int := if wE b l = 0 then mgL b.toNat l else []
def WPost (b : Int) (l : List Int) (w : World) (e : Ending) (w' : World) : Prop :=
  ∃ A c, e = .returned (.tuple #[.agg #[.bool (wS b l), .slice A (wL b l).length c], .int .i64 (wE b l)]) ∧ U w' A (wL b l).length c (wL b l) ∧ Below w.heap.size w w'
theorem WPost.of {b : Nat} {l : List Int} {w w' : World} {e : Ending} (hb1 : 2 ≤ b) (hb2 : b ≤ 30) (h : WholePost b l w e w') : WPost (b : Int) l w e w' := by
  obtain ⟨v, E, rfl, hb, h⟩ := h
  unfold WPost
  have hif : wE (b : Int) l = if (mgL b l).length ≤ 4096 then 0 else 3 := by
    unfold wE
    rw [if_pos (by omega), Int.toNat_natCast]
  rcases h with ⟨rfl, ⟨A, c, rfl, hu⟩, hlen⟩ | ⟨rfl, rfl, hlen⟩
  · have hlen' : (mgL b l).length ≤ 4096 := hlen
    rw [if_pos hlen'] at hif
    have hs : wS (b : Int) l = decide (upN b l < dnN b l) := by unfold wS; rw [if_pos hif, Int.toNat_natCast]
    have hL : wL (b : Int) l = mgL b l := by unfold wL; rw [if_pos hif, Int.toNat_natCast]
    rw [hif, hs, hL]
    exact ⟨A, c, rfl, hu, hb⟩
  · have hlen' : ¬ (mgL b l).length ≤ 4096 := Nat.not_le.2 hlen
    rw [if_neg hlen'] at hif
    have hs : wS (b : Int) l = false := by unfold wS; rw [if_neg (by rw [hif]; decide)]
    have hL : wL (b : Int) l = [] := by unfold wL; rw [if_neg (by rw [hif]; decide)]
    rw [hif, hs, hL]
    exact ⟨none, 0, rfl, U_none _, hb⟩
theorem WPost.no {b : Int} {l : List Int} {w w' : World} {e : Ending} (hb : ¬ (2 ≤ b ∧ b ≤ 30)) (h : e = .returned (.tuple #[.agg #[.bool false, .slice none 0 0], .int .i64 2]) ∧ Below w.heap.size w w') : WPost b l w e w' := by
  unfold WPost
  have hif : wE b l = 2 := by unfold wE; rw [if_neg hb]
  have hs : wS b l = false := by unfold wS; rw [if_neg (by rw [hif]; decide)]
  have hL : wL b l = [] := by unfold wL; rw [if_neg (by rw [hif]; decide)]
  rw [hif, hs, hL]
  exact ⟨none, 0, h.1, U_none _, h.2⟩
set_option maxRecDepth 100000 in
theorem cwhole_no (v : Value) (b : Int) (w : World) (hb : ¬ (2 ≤ b ∧ b ≤ 30)) :
    Calls Try.prog 18 #[v, .int .i64 b] w fun e w' => e = .returned (.tuple #[.agg #[.bool false, .slice none 0 0], .int .i64 2]) ∧ Below w.heap.size w w' := by
  have hm := fun w => cmay_any b w
  rw [decide_eq_false hb] at hm
  have HM := Lib.hid hm
  have HB := Lib.hid (((Below.refl w.heap.size w).alloc (Nat.le_refl _) (.cells #[.bool false, .slice none 0 0] 24)))
  have hst := int_store (w1 := w.alloc (.cells #[.bool false, .slice none 0 0] 24)) (g := w.heap.size) (b0 := false) (A0 := none) (n0 := 0) (c0 := 0) (by simp) (by simp) (.bool false) (.slice none 0 0)
  have HST := Lib.hid hst
  clear hm hst
  go_enter Try.func18, Try.ntmps18
  go_wp2_with fail
  refine (HM.out _).mono ?_
  rintro e w1 ⟨rfl, rfl⟩
  go_wp2
  first
    | (refine bodyPost_ret (v := .tuple #[.agg #[.bool false, .slice none 0 0], .int .i64 2]) (by simp [results, Try.results18, go_sem]) rfl ⟨rfl, HB.out⟩)
    | (refine bodyPost_ret (v := .tuple #[.agg #[.bool false, .slice none 0 0], .int .i64 2]) (by simp [results, Try.results18, go_sem, HST.out.2.2.1, HST.out.2.2.2]) rfl ⟨rfl, HST.out.2.1 _ _ (Nat.le_refl _) HB.out⟩)
set_option maxRecDepth 100000 in
theorem rwhole_no (v : Value) (b : Int) (w : World) (hb : ¬ (2 ≤ b ∧ b ≤ 30)) :
    Calls Try.prog 19 #[v, .int .i64 b] w fun e w' => e = .returned (.tuple #[.agg #[.bool false, .slice none 0 0], .int .i64 2]) ∧ Below w.heap.size w w' := by
  have hm := fun w => rmay14_any b w
  rw [decide_eq_false hb] at hm
  have HM := Lib.hid hm
  have HB := Lib.hid (((Below.refl w.heap.size w).alloc (Nat.le_refl _) (.cells #[.bool false, .slice none 0 0] 24)))
  have hst := int_store (w1 := w.alloc (.cells #[.bool false, .slice none 0 0] 24)) (g := w.heap.size) (b0 := false) (A0 := none) (n0 := 0) (c0 := 0) (by simp) (by simp) (.bool false) (.slice none 0 0)
  have HST := Lib.hid hst
  clear hm hst
  go_enter Try.func19, Try.ntmps19
  go_wp2_with fail
  refine (HM.out _).mono ?_
  rintro e w1 ⟨rfl, rfl⟩
  go_wp2
  first
    | (refine bodyPost_ret (v := .tuple #[.agg #[.bool false, .slice none 0 0], .int .i64 2]) (by simp [results, Try.results19, go_sem]) rfl ⟨rfl, HB.out⟩)
    | (refine bodyPost_ret (v := .tuple #[.agg #[.bool false, .slice none 0 0], .int .i64 2]) (by simp [results, Try.results19, go_sem, HST.out.2.2.1, HST.out.2.2.2]) rfl ⟨rfl, HST.out.2.1 _ _ (Nat.le_refl _) HB.out⟩)
theorem cwhole_any (A : Option Addr) (len c : Nat) (b : Int) (l : List Int) (w : World) (hu : UL w A len c l) (hl : L64 l) (hlen : len ≤ 1000000) :
    Calls Try.prog 18 #[.slice A len c, .int .i64 b] w (WPost b l w) := by
  by_cases hb : 2 ≤ b ∧ b ≤ 30
  · obtain ⟨n, rfl⟩ : ∃ n : Nat, b = n := ⟨b.toNat, by omega⟩
    exact (cwhole_yes A len c n l w hu hl hlen (by omega) (by omega)).mono fun e w' h => WPost.of (by omega) (by omega) h
  · exact (cwhole_no _ b w hb).mono fun e w' h => WPost.no hb h
theorem rwhole_any (A : Option Addr) (len c : Nat) (b : Int) (l : List Int) (w : World) (hu : UL w A len c l) (hl : L64 l) (hlen : len ≤ 1000000) :
    Calls Try.prog 19 #[.slice A len c, .int .i64 b] w (WPost b l w) := by
  by_cases hb : 2 ≤ b ∧ b ≤ 30
  · obtain ⟨n, rfl⟩ : ∃ n : Nat, b = n := ⟨b.toNat, by omega⟩
    exact (rwhole_yes A len c n l w hu hl hlen (by omega) (by omega)).mono fun e w' h => WPost.of (by omega) (by omega) h
  · exact (rwhole_no _ b w hb).mono fun e w' h => WPost.no hb h
/-! ### digits -/
def dE (s : Bool) (mag : List Int) (b : Int) : Int := if rightB s mag = true ∧ 2 ≤ b ∧ b ≤ 30 then 0 else 2
def dT (s : Bool) (mag : List Int) (b : Int) : List Int := if rightB s mag = true ∧ 2 ≤ b ∧ b ≤ 30 then digT s (Nt.val 18446744073709551616 mag) b.toNat mag.length else []
def DPost (s : Bool) (mag : List Int) (b : Int) (w : World) (e : Ending) (w' : World) : Prop := ∃ v, e = .returned (.tuple #[v, .int .i64 (dE s mag b)]) ∧ w'.ownsRow w.heap.size 2 1 v (dT s mag b).length ((dT s mag b).map (Value.int .i64)) ∧ Below w.heap.size w w'
theorem DPost.no {s : Bool} {mag : List Int} {b : Int} {w w' : World} {e : Ending} (hno : ¬ (rightB s mag = true ∧ 2 ≤ b ∧ b ≤ 30)) (h : e = .returned (.tuple #[.slice none 0 0, .int .i64 2]) ∧ Below w.heap.size w w') : DPost s mag b w e w' := by
  unfold DPost dE dT
  rw [if_neg hno, if_neg hno]
  exact ⟨_, h.1, ⟨by simp, .inl ⟨rfl, rfl⟩⟩, h.2⟩
theorem DPost.of {s : Bool} {mag : List Int} {b m : Nat} {w w' : World} {e : Ending} (hm : mag.length = m) (hr : rightB s mag = true) (hb1 : 2 ≤ b) (hb2 : b ≤ 30) (h : DigPost (digT s (Nt.val 18446744073709551616 mag) b m) w e w') : DPost s mag b w e w' := by
  unfold DPost dE dT
  have hc : rightB s mag = true ∧ 2 ≤ (b : Int) ∧ (b : Int) ≤ 30 := ⟨hr, by omega, by omega⟩
  rw [if_pos hc, if_pos hc, Int.toNat_natCast, hm]
  exact h
theorem digits_any (s : Bool) (A : Option Addr) (m c : Nat) (mag : List Int) (b : Int) (w : World) (hu : U w A m c mag) (hd : Nt.Dig 18446744073709551616 mag) (hm : m ≤ 1000000) :
    Calls Try.prog 13 #[.agg #[.bool s, .slice A m c], .int .i64 b] w (DPost s mag b w) := by
  by_cases hc : rightB s mag = true ∧ 2 ≤ b ∧ b ≤ 30
  · obtain ⟨n, rfl⟩ : ∃ n : Nat, b = n := ⟨b.toNat, by omega⟩
    exact (digits_yes s A m c n mag w hu hd hc.1 (by omega) (by omega) hm).mono fun e w' h => DPost.of hu.1 hc.1 (by omega) (by omega) h
  · exact (digits_no s A m c mag b w hu (by omega) (by
      cases hr : rightB s mag
      · exact .inl rfl
      · exact .inr fun h => hc ⟨hr, h⟩)).mono fun e w' h => DPost.no hc h
theorem rdigits_any (s : Bool) (A : Option Addr) (m c : Nat) (mag : List Int) (b : Int) (w : World) (hu : U w A m c mag) (hd : Nt.Dig 18446744073709551616 mag) (hm : m ≤ 1000000) :
    Calls Try.prog 14 #[.agg #[.bool s, .slice A m c], .int .i64 b] w (DPost s mag b w) := by
  by_cases hc : rightB s mag = true ∧ 2 ≤ b ∧ b ≤ 30
  · obtain ⟨n, rfl⟩ : ∃ n : Nat, b = n := ⟨b.toNat, by omega⟩
    exact (rdigits_yes s A m c n mag w hu hd hc.1 (by omega) (by omega) hm).mono fun e w' h => DPost.of hu.1 hc.1 (by omega) (by omega) h
  · exact (rdigits_no s A m c mag b w hu (by omega) (by
      cases hr : rightB s mag
      · exact .inl rfl
      · exact .inr fun h => hc ⟨hr, h⟩)).mono fun e w' h => DPost.no hc h
/-! ### the closed examples -/
theorem aw1 : dT true [129] 8 = [127, -1] ∧ dE true [129] 8 = 0 := by decide +kernel
theorem aw2 : wL 2 [3, 3, 3] = [63] ∧ wS 2 [3, 3, 3] = false ∧ wE 2 [3, 3, 3] = 0 := by decide +kernel
theorem aw3 : widV 1535 = 12 ∧ widE 1535 = 0 := by decide +kernel
end Go.Proofs.Ytclnmheplecknaa

namespace Go.Proofs.Ytclnmheplecknaa
open Go.RowKit
theorem UL_new (w : World) (l : List Int) (t : TypeId) : UL (w.alloc (.cells (l.map (Value.int .i64)).toArray t)) (some ⟨w.heap.size, 0, none⟩) l.length l.length l :=
  ⟨rfl, Nat.le_refl _, (fun h => by cases h), fun k x hk => ⟨_, rfl, by simp, by
    rw [cell_new]
    simp [hk]⟩⟩
theorem small_of {s : Bool} {m : Int} (l : List Int) (hl : l = [m]) {P : Value → Prop} {A : Option Addr} {w : World} (h : U w A 1 1 [m]) : U w A l.length 1 l := by subst hl; exact h
set_option maxRecDepth 400000 in
set_option maxHeartbeats 4000000 in
theorem awake14_any (w : World) : Calls Try.prog 11 #[] w fun e w' => e = .returned (.bool true) ∧ Below w.heap.size w w' := by
  have HSM := Lib.hid (fun s m w => small_any s m w)
  have HD : Hid (∀ (A : Option Addr) (w : World), U w A 1 1 [129] → Calls Try.prog 13 #[.agg #[.bool true, .slice A 1 1], .int .i64 8] w fun e w' => ∃ A' c', e = .returned (.tuple #[.slice A' 2 c', .int .i64 0]) ∧ UL w' A' 2 c' [127, -1] ∧ Below w.heap.size w w') := Lib.hid (fun A w hu => by
    refine (digits_any true A 1 1 [129] 8 w hu (fun x hx => by simp at hx; subst hx; decide) (by decide)).mono ?_
    rintro e w' ⟨v, rfl, hown, hb⟩
    rw [aw1.1] at hown
    rw [aw1.2]
    obtain ⟨A', c', rfl, hu⟩ := UL.of_own hown
    exact ⟨A', c', rfl, hu, hb⟩)
  have HW : Hid (∀ (w : World), Calls Try.prog 18 #[.slice (some ⟨w.heap.size, 0, none⟩) 3 3, .int .i64 2] (w.alloc (.cells #[.int .i64 3, .int .i64 3, .int .i64 3] 2)) fun e w' => ∃ A' c', e = .returned (.tuple #[.agg #[.bool false, .slice A' 1 c'], .int .i64 0]) ∧ U w' A' 1 c' [63] ∧ Below w.heap.size w w') := Lib.hid (fun w => by
    refine (cwhole_any (some ⟨w.heap.size, 0, none⟩) 3 3 2 [3, 3, 3] (w.alloc (.cells #[.int .i64 3, .int .i64 3, .int .i64 3] 2)) (UL_new w [3, 3, 3] 2) (fun x hx => by simp at hx; subst hx; decide) (by decide)).mono ?_
    rintro e w' ⟨A', c', rfl, hu, hb⟩
    rw [aw2.1] at hu
    rw [aw2.1, aw2.2.1, aw2.2.2]
    exact ⟨A', c', rfl, hu, ((Below.refl w.heap.size w).alloc (Nat.le_refl _) _).trans (hb.mono (by simp))⟩)
  have HWD : Hid (∀ (w : World), Calls Try.prog 25 #[.int .i64 1535] w fun e w' => e = .returned (.tuple #[.int .i64 12, .int .i64 0]) ∧ Below w.heap.size w w') := Lib.hid (fun w => by
    have h := width_any 1535 w
    rw [aw3.1, aw3.2] at h
    exact h)
  have HSL : Hid (∀ (A : Option Addr) (c : Nat) (w : World), UL w A 2 c [127, -1] → Calls Try.prog 15 #[.slice A 2 c, .slice (some ⟨w.heap.size, 0, none⟩) 2 2] (w.alloc (.cells #[.int .i64 127, .int .i64 (-1)] 2)) fun e w' => e = .returned (.bool true) ∧ Below w.heap.size w w') := Lib.hid (fun A c w hu => by
    refine (same_longs A 2 c _ 2 [127, -1] _ (by decide) (hu.below ((Below.refl w.heap.size w).alloc (Nat.le_refl _) _)) (UL_new w [127, -1] 2)).mono ?_
    rintro e w' ⟨rfl, hb⟩
    exact ⟨rfl, ((Below.refl w.heap.size w).alloc (Nat.le_refl _) _).trans (hb.mono (by simp))⟩)
  have HSI : Hid (∀ (A A' : Option Addr) (c : Nat) (w : World), U w A 1 c [63] → U w A' 1 1 [63] → Calls Try.prog 20 #[.agg #[.bool false, .slice A 1 c], .agg #[.bool false, .slice A' 1 1]] w fun e w' => e = .returned (.bool true) ∧ Below w.heap.size w w') := Lib.hid (fun A A' c w hu hu' => same_int false A 1 c A' 1 [63] w (by decide) hu hu')
  go_enter Try.func11, Try.ntmps11
  go_wp2_with fail
  refine (HSM.out _ _ _).mono ?_
  rintro e w1 ⟨A1, rfl, hu1, hb⟩
  have HB1 := Lib.hid hb
  clear hb
  go_wp2_with fail
  refine (HD.out _ _ hu1).mono ?_
  rintro e w2 ⟨A2, c2, rfl, hu2, hb⟩
  have HB2 := Lib.hid (HB1.out.trans (hb.mono HB1.out.size))
  have HU2 := Lib.hid hu2
  clear hb hu1 hu2
  go_wp2_with fail
  refine (HW.out _).mono ?_
  rintro e w3 ⟨A3, c3, rfl, hu3, hb⟩
  have HB3 := Lib.hid (HB2.out.trans (hb.mono HB2.out.size))
  have HU3 := Lib.hid hu3
  have HU23 := Lib.hid (HU2.out.below hb)
  clear hb hu3
  go_wp2_with fail
  have hba := (Below.refl w3.heap.size w3).alloc (Nat.le_refl _) (.cells #[.bool false, .slice A3 1 c3] 24)
  have HBA := Lib.hid hba
  refine (HWD.out _).mono ?_
  rintro e w4 ⟨rfl, hb⟩
  have d0 : w4.cell? ⟨w3.heap.size, 0, none⟩ = some (.bool false) := (hb.cell (p := ⟨w3.heap.size, 0, none⟩) (by simp)).trans (by simp)
  have d1 : w4.cell? ⟨w3.heap.size, 1, none⟩ = some (.slice A3 1 c3) := (hb.cell (p := ⟨w3.heap.size, 1, none⟩) (by simp)).trans (by simp)
  have HB43 := Lib.hid (HBA.out.trans (hb.mono HBA.out.size))
  have HU24 := Lib.hid (HU23.out.below HB43.out)
  have HU34 := Lib.hid (HU3.out.below HB43.out)
  have HB4 := Lib.hid (HB3.out.trans (HB43.out.mono HB3.out.size))
  have hlt34 : w3.heap.size < w4.heap.size := by have := hb.size; simp at this; omega
  clear hb hba
  go_wp2_with fail
  obtain ⟨g3, hg3⟩ : ∃ g3, g3 = w3.heap.size := ⟨_, rfl⟩
  rw [← hg3] at d0 d1 hlt34 ⊢
  have hT : ∀ x x', (x.cell? ⟨g3, 0, none⟩ = some (.bool false) ∧ x.cell? ⟨g3, 1, none⟩ = some (.slice A3 1 c3)) ∧ Hid (UL x A2 2 c2 [127, -1] ∧ U x A3 1 c3 [63] ∧ Below w.heap.size w x ∧ g3 < x.heap.size) → Below x.heap.size x x' →
      (x'.cell? ⟨g3, 0, none⟩ = some (.bool false) ∧ x'.cell? ⟨g3, 1, none⟩ = some (.slice A3 1 c3)) ∧ Hid (UL x' A2 2 c2 [127, -1] ∧ U x' A3 1 c3 [63] ∧ Below w.heap.size w x' ∧ g3 < x'.heap.size) := by
    rintro x x' ⟨⟨h1, h2⟩, h⟩ hb
    obtain ⟨h3, h4, h5, h6⟩ := h.out
    exact ⟨⟨(hb.cell (p := ⟨g3, 0, none⟩) h6).trans h1, (hb.cell (p := ⟨g3, 1, none⟩) h6).trans h2⟩, Lib.hid ⟨h3.below hb, h4.below hb, h5.trans (hb.mono h5.size), Nat.lt_of_lt_of_le h6 hb.size⟩⟩
  have hS0 := hT w4 w4.drew ⟨⟨d0, d1⟩, Lib.hid ⟨HU24.out, HU34.out, HB4.out, hlt34⟩⟩ (Below.refl _ _).drew
  have HS0 := Lib.hid hS0
  have HSA := Lib.hid (fun o => hT w4.drew (w4.drew.alloc o) hS0 ((Below.refl _ _).alloc (Nat.le_refl _) o))
  have HC1 : Hid (Calls Try.prog 15 #[.slice A2 2 c2, .slice (some ⟨w4.heap.size, 0, none⟩) 2 2] (w4.drew.alloc (.cells #[.int .i64 127, .int .i64 (-1)] 2)) fun e w' => e = .returned (.bool true) ∧ ((w'.cell? ⟨g3, 0, none⟩ = some (.bool false) ∧ w'.cell? ⟨g3, 1, none⟩ = some (.slice A3 1 c3)) ∧ Hid (UL w' A2 2 c2 [127, -1] ∧ U w' A3 1 c3 [63] ∧ Below w.heap.size w w' ∧ g3 < w'.heap.size))) := Lib.hid (by
    refine (HSL.out A2 c2 w4.drew hS0.2.out.1).mono ?_
    rintro e w' ⟨rfl, hb⟩
    exact ⟨rfl, hT _ _ hS0 hb⟩)
  have HC2 : Hid (∀ x, ((x.cell? ⟨g3, 0, none⟩ = some (.bool false) ∧ x.cell? ⟨g3, 1, none⟩ = some (.slice A3 1 c3)) ∧ Hid (UL x A2 2 c2 [127, -1] ∧ U x A3 1 c3 [63] ∧ Below w.heap.size w x ∧ g3 < x.heap.size)) → Calls Try.prog 33 #[.bool false, .int .u64 63] x fun e w' => ∃ A6, e = .returned (.agg #[.bool false, .slice A6 1 1]) ∧ Hid (U w' A6 1 1 [63]) ∧ ((w'.cell? ⟨g3, 0, none⟩ = some (.bool false) ∧ w'.cell? ⟨g3, 1, none⟩ = some (.slice A3 1 c3)) ∧ Hid (UL w' A2 2 c2 [127, -1] ∧ U w' A3 1 c3 [63] ∧ Below w.heap.size w w' ∧ g3 < w'.heap.size))) := Lib.hid (fun x hx => by
    refine (HSM.out false 63 x).mono ?_
    rintro e w' ⟨A6, rfl, hu, hb⟩
    exact ⟨A6, rfl, Lib.hid hu, hT _ _ hx hb⟩)
  have HC3 : Hid (∀ x A6, ((x.cell? ⟨g3, 0, none⟩ = some (.bool false) ∧ x.cell? ⟨g3, 1, none⟩ = some (.slice A3 1 c3)) ∧ Hid (UL x A2 2 c2 [127, -1] ∧ U x A3 1 c3 [63] ∧ Below w.heap.size w x ∧ g3 < x.heap.size)) → Hid (U x A6 1 1 [63]) → Calls Try.prog 20 #[.agg #[.bool false, .slice A3 1 c3], .agg #[.bool false, .slice A6 1 1]] x fun e w' => e = .returned (.bool true) ∧ ((w'.cell? ⟨g3, 0, none⟩ = some (.bool false) ∧ w'.cell? ⟨g3, 1, none⟩ = some (.slice A3 1 c3)) ∧ Hid (UL w' A2 2 c2 [127, -1] ∧ U w' A3 1 c3 [63] ∧ Below w.heap.size w w' ∧ g3 < w'.heap.size))) := Lib.hid (fun x A6 hx hu => by
    refine (HSI.out A3 A6 c3 x hx.2.out.2.1 hu.out).mono ?_
    rintro e w' ⟨rfl, hb⟩
    exact ⟨rfl, hT _ _ hx hb⟩)
  clear hT hS0 HSL HSM HSI HD HW HWD HU24 HU34 HB4 HB43 HBA HU23 HU3 HU2 HB1 HB2 HB3 hg3
  go_region_held3 (fun x => (x.cell? ⟨g3, 0, none⟩ = some (.bool false) ∧ x.cell? ⟨g3, 1, none⟩ = some (.slice A3 1 c3)) ∧ Hid (UL x A2 2 c2 [127, -1] ∧ U x A3 1 c3 [63] ∧ Below w.heap.size w x ∧ g3 < x.heap.size)) ((first | assumption | exact HS0.out | exact HSA.out _)) (first
    | (go_at_call 15; refine HC1.out.mono ?_; rintro e w5 ⟨rfl, hS⟩)
    | (go_at_call 33; refine (HC2.out _ ?_).mono ?_; (assumption); rintro e w6 ⟨A6, rfl, hu6, hS6⟩)
    | (go_at_call 20; refine (HC3.out _ _ ?_ ?_).mono ?_; (assumption); (assumption); rintro e w7 ⟨rfl, hS7⟩))
  have HB9 := Lib.hid hS7.2.out.2.2.1
  go_wp2
  go_ret
  exact ⟨rfl, HB9.out⟩
end Go.Proofs.Ytclnmheplecknaa

namespace Go.Proofs.Ytclnmheplecknaa
open Go.RowKit
theorem wf_i64 {n : Int} (h : (Lit.int .i64 n).wf = true) : -9223372036854775808 ≤ n ∧ n ≤ 9223372036854775807 := by
  simp [Lit.wf, IntKind.min, IntKind.max, IntKind.signed, IntKind.bits] at h
  omega
set_option maxRecDepth 100000 in
theorem cutWidths_walk (a : Int) (wa : (Lit.int .i64 a).wf = true) (w : World) : Calls Try.prog 9 #[.int .i64 a] w fun e w' => e = .returned (.bool true) ∧ Below w.heap.size w w' := by
  have HA := Lib.hid (fun w => awake14_any w)
  have HW := Lib.hid (fun w => width_any a w)
  have HR := Lib.hid (fun w => rwidth_any a w)
  generalize widV a = V at *
  generalize widE a = E at *
  have h1 : (V == V) = true := by simp
  have h2 : (E == E) = true := by simp
  go_enter Try.func9, Try.ntmps9
  go_wp2_with fail
  refine (HA.out _).mono ?_
  rintro e w1 ⟨rfl, hb⟩
  have HB1 := Lib.hid hb
  clear hb
  go_wp2_with fail
  refine (HW.out _).mono ?_
  rintro e w2 ⟨rfl, hb⟩
  have HB2 := Lib.hid (HB1.out.trans (hb.mono HB1.out.size))
  clear hb
  go_wp2_with fail
  refine (HR.out _).mono ?_
  rintro e w3 ⟨rfl, hb⟩
  have HB3 := Lib.hid (HB2.out.trans (hb.mono HB2.out.size))
  clear hb
  go_wp2
  go_ret
  exact ⟨rfl, HB3.out⟩
theorem wid_narrow (n : Nat) (h1 : 1 ≤ n) (h2 : n ≤ 4095) : ∃ a b e f : Int, widV n = a ∧ widE n = e ∧ widV (n + 1) = b ∧ widE (n + 1) = f ∧
    ((1535 < n ∧ e = 3 ∧ a = 0 ∧ f = 3 ∧ b = 0) ∨ (n ≤ 1535 ∧ e = 0 ∧ 12 ≤ a ∧ a ≤ 20 ∧ (n = 1535 ∨ (n ≠ 1535 ∧ f = 0 ∧ b ≤ a)))) := by
  have g1 := wid_law n h1
  have g2 := wid_law (n + 1) (by omega)
  have v1 : widV (n : Int) = (wid n 30 : Nat) := by unfold widV; rw [if_neg (by omega), Int.toNat_natCast]
  have e1 : widE (n : Int) = if wid n 30 = 0 then 3 else 0 := by unfold widE; rw [if_neg (by omega), Int.toNat_natCast]
  have v2 : widV ((n : Int) + 1) = (wid (n + 1) 30 : Nat) := by unfold widV; rw [if_neg (by omega), show ((n : Int) + 1) = ((n + 1 : Nat) : Int) by omega, Int.toNat_natCast]
  have e2 : widE ((n : Int) + 1) = if wid (n + 1) 30 = 0 then 3 else 0 := by unfold widE; rw [if_neg (by omega), show ((n : Int) + 1) = ((n + 1 : Nat) : Int) by omega, Int.toNat_natCast]
  refine ⟨_, _, _, _, rfl, rfl, rfl, rfl, ?_⟩
  rw [v1, e1, v2, e2]
  by_cases h : 1535 < n
  · have t1 := g1.1 h
    have t2 := g2.1 (by omega)
    rw [t1, t2]
    exact .inl ⟨h, rfl, rfl, rfl, rfl⟩
  · obtain ⟨t1, t2⟩ := g1.2.1 (by omega)
    refine .inr ⟨by omega, if_neg (by omega), by omega, by omega, ?_⟩
    by_cases he : n = 1535
    · exact .inl he
    · obtain ⟨t3, t4⟩ := g2.2.1 (by omega)
      have t5 := g1.2.2
      exact .inr ⟨he, if_neg (by omega), by omega⟩
set_option maxRecDepth 100000 in
set_option maxHeartbeats 4000000 in
theorem cutNarrow_walk (a : Int) (wa : (Lit.int .i64 a).wf = true) (w : World) : Calls Try.prog 7 #[.int .i64 a] w fun e w' => e = .returned (.bool true) ∧ Below w.heap.size w w' := by
  have hwf := wf_i64 wa
  have HA := Lib.hid (fun w => awake14_any w)
  have HP := Lib.hid (fun w => pick_any a 4095 w (by decide) (by decide) hwf.1 hwf.2)
  have HW := Lib.hid (fun b w => width_any b w)
  have HN := Lib.hid wid_narrow
  clear hwf wa
  go_enter Try.func7, Try.ntmps7
  go_wp2_with fail
  refine (HA.out _).mono ?_
  rintro e w1 ⟨rfl, hb⟩
  have HB1 := Lib.hid hb
  clear hb
  go_wp2_with fail
  refine (HP.out _).mono ?_
  rintro e w' ⟨k, rfl, hk, rfl⟩
  obtain ⟨n, hn⟩ : ∃ n : Nat, n = 1 + k := ⟨_, rfl⟩
  have hnk : (1 : Int) + (k : Int) = (n : Int) := by omega
  have hn1 : 1 ≤ n := by omega
  have hn2 : n ≤ 4095 := by omega
  obtain ⟨a1, b1, e1, f1, q1, q2, q3, q4, hor⟩ := HN.out n hn1 hn2
  have HW1 := Lib.hid (fun w => HW.out (n : Int) w)
  have HW2 := Lib.hid (fun w => HW.out ((n : Int) + 1) w)
  rw [q1, q2] at HW1
  rw [q3, q4] at HW2
  clear q1 q2 q3 q4 hn hk
  go_wp2_with fail
  refine (HW1.out _).mono ?_
  rintro e w2 ⟨rfl, hb⟩
  have HB2 := Lib.hid (HB1.out.trans (hb.mono HB1.out.size))
  clear hb
  go_wp2_with fail
  refine (HW2.out _).mono ?_
  rintro e w3 ⟨rfl, hb⟩
  have HB3 := Lib.hid (HB2.out.trans (hb.mono HB2.out.size))
  clear hb
  rcases hor with ⟨h1, rfl, rfl, rfl, rfl⟩ | ⟨h1, rfl, h2, h3, rfl | ⟨h4, rfl, h5⟩⟩
  · go_wp2
    go_ret
    exact ⟨rfl, HB3.out⟩
  · go_wp2
    go_ret
    exact ⟨rfl, HB3.out⟩
  · have hne : ((n : Int) == 1535) = false := by simp; omega
    go_wp2
    go_ret
    exact ⟨rfl, HB3.out⟩
end Go.Proofs.Ytclnmheplecknaa

namespace Go.Proofs.Ytclnmheplecknaa
open Go.RowKit Go.WideShapes Go.ChangeShapes
section
variable {H : Type} {enc : TypeId × Value → H} {P : Program}
theorem post_of_below {f : Func} {s : ChangeSpec} {apart fresh handsOn again : Bool} {W W' : World} {args : Array Value} {v : Value} {ds gs : List (DataW H)} {before pa pv : List MemPlace}
    (hW : DataW.Whole enc P f.params.toList s.vars apart W args.toList ds gs before)
    (hres : ∀ (b : Nat) (sp : Nat → Bool) (hd : Bool), DataW.TrodAll enc P W' b sp hd f.resultTypes.toList (v.resultList f.resultTypes.size) (s.fn H (ds ++ gs)).results [])
    (hargs : ∀ sp : Nat → Bool, (∀ p ∈ before, sp p.block = true) → DataW.TrodAll enc P W' 0 sp true f.params.toList args.toList (s.fn H (ds ++ gs)).args pa)
    (hvars : ∀ sp : Nat → Bool, (∀ p ∈ before, sp p.block = true) → DataW.TrodVars enc P W' sp s.vars (s.fn H (ds ++ gs)).vars pv)
    (hps : before = pa ++ pv) (hb : Below W.heap.size W W')
    (hok : ∀ (j : Nat) (t : TypeId) (r : Value), f.resultTypes[j]? = some t → (v.resultList f.resultTypes.size)[j]? = some r → Value.okWide P W' .any 0 t r) :
    s.post enc P f apart fresh handsOn again W args v W' := by
  have hlt : ∀ p ∈ before, p.block < W.heap.size := fun p hp => hW.lt p hp
  have hold : ∀ p ∈ before, (fun b => decide (b < W.heap.size)) p.block = true := fun p hp => by simpa using hlt p hp
  refine ⟨ds, gs, before, [], pa, pv, hW, hres _ _ _, hargs _ hold, hvars _ hold, World.keptBut_mono (fun p hp => ⟨hp, ?_⟩) (hb.frame (· ∈ before)), fun _ => ?_⟩
  · rw [hps, List.mem_append] at hp
    exact Or.inr hp
  · obtain ⟨_, _, _, _, _, hz, hn⟩ := hW
    refine ⟨hok, _, _, ([] ++ pa) ++ pv, ⟨[] ++ pa, pv, trodAll_append (hargs _ (fun _ _ => rfl)) (hres _ _ _), hvars _ (fun _ _ => rfl), rfl, ?_, ?_⟩, ?_⟩
    · intro b off hp
      have hin : MemPlace.cell b off ∈ before := by rw [hps]; simpa using hp
      rw [hb.frozen (hlt _ hin)]
      exact hz b off hin
    · intro ha
      have := hn ha
      rw [hps] at this
      simpa using this
    · intro p hp _
      rw [hps]
      simpa using hp
end
end Go.Proofs.Ytclnmheplecknaa

namespace Go.Proofs.Ytclnmheplecknaa
open Go.ChangeShapes Go.WideShapes Go.ChangeAt Go.RowKit
namespace cutWidths
theorem own : ownKnob Try.prog.godebug = none := by kernel_rfl
set_option maxRecDepth 100000 in
theorem lifted (os : Os) (started : os.Started) (H : Type) (enc : TypeId × Value → H) :
    ReturnsInHanded {} Try.checked os 9 .any (Rows.cutWidthsSpec.pre6 enc Try.prog Try.f9 Rows.cutWidthsRow.domain false) (Rows.cutWidthsSpec.post enc Try.prog Try.f9 false true false false) := by
  refine returnsInHanded_of_change (C := Try.checked) own started (by kernel_rfl) Try.func9
    (ChangeSpec.witness6 (enc := enc) (C := Try.checked) false ⟨#[], #[.int .i64 0], []⟩ 8 (by kernel_rfl) (by kernel_rfl) (by kernel_rfl) (by kernel_rfl)) ?_
  intro W base args ds gs before hval0 hW hcnd _
  have hval : ∀ (j : Nat) t v, Try.f9.params[j]? = some t → args[j]? = some v → Value.okWide Try.prog W .any base t v := hval0
  have hW' := hW
  obtain ⟨p, q, hA0, hV, rfl, hfz, hnd⟩ := hW
  have hA : DataW.TrodAll enc Try.prog W 0 (fun _ => true) true Try.f9.params.toList args.toList ds p := hA0
  rw [Try.params9] at hA hval
  obtain ⟨v0, vs0, d0, ds0, p0, q0, hargs, rfl, rfl, h0, r0⟩ := trodAll_cons hA
  obtain ⟨rfl, rfl, rfl⟩ := trodAll_nil r0
  obtain rfl : args = #[v0] := by cases args; simp_all
  obtain ⟨rfl, rfl⟩ := trodVars_none hV
  obtain ⟨a0, rfl, rfl, rfl, w0⟩ := open_int Try.underlying3 (hval 0 3 v0 rfl rfl) h0
  clear hA0 hval0
  simp only [List.append_nil] at hW'
  refine (cutWidths_walk a0 w0 W).mono fun e W' ⟨he, hg⟩ => ?_
  subst he
  exact ⟨_, rfl, post_of_below (pa := []) (pv := []) hW' (fun _ _ _ => (trodAll_cons_mk (shut_bool Try.underlying4 _) trodAll_mk0)) (fun sp _ => (trodAll_cons_mk (shut_int Try.underlying3 w0) trodAll_mk0)) (fun _ _ => rfl) rfl
    hg (ok_one (by kernel_rfl) rfl (okWide_bool_mk Try.underlying4 _))⟩
theorem over : Rows.cutWidthsRow.holds Try.pinned (OpenSpec.ofChange Rows.cutWidthsSpec) :=
  OpenClaim.holds_of_wide 9 Try.f9 rfl rfl rfl rfl rfl rfl rfl ⟨rfl, rfl, rfl, rfl, rfl⟩ rfl rfl rfl rfl rfl (by kernel_rfl) Try.func9 (by kernel_rfl)
    (of_decide_eq_true (by kernel_rfl)) (by unfold Func.isWrapper; first | (rw [if_pos (by decide +kernel)]; kernel_rfl) | (rw [if_neg (by decide +kernel)]; exact ⟨rfl, rfl⟩))
    (fun os started H enc _ => lifted os started H enc)
theorem proved : Rows.CutWidthsSaid :=
  over
end cutWidths
theorem cutWidths_holds : Rows.CutWidthsSaid := cutWidths.proved
#print axioms cutWidths_holds
end Go.Proofs.Ytclnmheplecknaa

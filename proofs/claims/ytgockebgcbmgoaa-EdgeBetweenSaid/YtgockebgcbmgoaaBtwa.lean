/-
  Walk: a float against an exact answer.
-/
import Derived.Test.YtgockebgcbmgoaaRefe
set_option linter.unusedVariables false
set_option linter.unusedSimpArgs false
namespace Go.Proofs.Ytgockebgcbmgoaa
open Go.RowKit
/-- Three numbers' cells. -/
def Tri (w0 : World) (g : Nat) (s0 : Bool) (A0 : Option Addr) (n0 c0 : Nat) (e0 : Int) (s1 : Bool) (A1 : Option Addr) (n1 c1 : Nat) (e1 : Int) (s2 : Bool) (A2 : Option Addr) (n2 c2 : Nat) (e2 : Int) (w : World) : Prop :=
  (w.cell? ⟨g, 0, none⟩ = some (.bool s0) ∧ w.cell? ⟨g, 1, none⟩ = some (.slice A0 n0 c0) ∧ w.cell? ⟨g, 2, none⟩ = some (.int .i64 e0)) ∧
  (w.cell? ⟨g + 1, 0, none⟩ = some (.bool s1) ∧ w.cell? ⟨g + 1, 1, none⟩ = some (.slice A1 n1 c1) ∧ w.cell? ⟨g + 1, 2, none⟩ = some (.int .i64 e1)) ∧
  (w.cell? ⟨g + 1 + 1, 0, none⟩ = some (.bool s2) ∧ w.cell? ⟨g + 1 + 1, 1, none⟩ = some (.slice A2 n2 c2) ∧ w.cell? ⟨g + 1 + 1, 2, none⟩ = some (.int .i64 e2)) ∧ Below w0.heap.size w0 w ∧ (g < w.heap.size ∧ g + 1 < w.heap.size ∧ g + 1 + 1 < w.heap.size)
section
variable {w0 : World} {g : Nat} {s0 : Bool} {A0 : Option Addr} {n0 c0 : Nat} {e0 : Int} {s1 : Bool} {A1 : Option Addr} {n1 c1 : Nat} {e1 : Int} {s2 : Bool} {A2 : Option Addr} {n2 c2 : Nat} {e2 : Int} {w : World}
theorem Tri.go (h : Tri w0 g s0 A0 n0 c0 e0 s1 A1 n1 c1 e1 s2 A2 n2 c2 e2 w) {w' : World} (hb : Below w.heap.size w w') : Tri w0 g s0 A0 n0 c0 e0 s1 A1 n1 c1 e1 s2 A2 n2 c2 e2 w' := by
  obtain ⟨h1, h2, h3, h4, ⟨h5, h6, h7⟩⟩ := h
  exact ⟨Cells3.below h1 h5 hb, Cells3.below h2 h6 hb, Cells3.below h3 h7 hb, h4.trans (hb.mono h4.size), ⟨Nat.lt_of_lt_of_le h5 hb.size, Nat.lt_of_lt_of_le h6 hb.size, Nat.lt_of_lt_of_le h7 hb.size⟩⟩
theorem Tri.drew (h : Tri w0 g s0 A0 n0 c0 e0 s1 A1 n1 c1 e1 s2 A2 n2 c2 e2 w) : Tri w0 g s0 A0 n0 c0 e0 s1 A1 n1 c1 e1 s2 A2 n2 c2 e2 w.drew := h.go (Below.refl _ _).drew
end
theorem Tri.start (w : World) (s0 : Bool) (A0 : Option Addr) (n0 c0 : Nat) (e0 : Int) (s1 : Bool) (A1 : Option Addr) (n1 c1 : Nat) (e1 : Int) (s2 : Bool) (A2 : Option Addr) (n2 c2 : Nat) (e2 : Int) (t : TypeId) :
    Tri w w.heap.size s0 A0 n0 c0 e0 s1 A1 n1 c1 e1 s2 A2 n2 c2 e2 (((w.alloc (.cells #[.bool s0, .slice A0 n0 c0, .int .i64 e0] t)).alloc (.cells #[.bool s1, .slice A1 n1 c1, .int .i64 e1] t)).alloc (.cells #[.bool s2, .slice A2 n2 c2, .int .i64 e2] t)) := by
  obtain ⟨p1, p2, p3, p4, p5⟩ := Pair.start w s0 A0 n0 c0 e0 s1 A1 n1 c1 e1 t
  have z1 : ((w.alloc (.cells #[.bool s0, .slice A0 n0 c0, .int .i64 e0] t)).alloc (.cells #[.bool s1, .slice A1 n1 c1, .int .i64 e1] t)).heap.size = w.heap.size + 1 + 1 := by simp
  generalize (w.alloc (.cells #[.bool s0, .slice A0 n0 c0, .int .i64 e0] t)).alloc (.cells #[.bool s1, .slice A1 n1 c1, .int .i64 e1] t) = W1 at *
  have z2 : (W1.alloc (.cells #[.bool s2, .slice A2 n2 c2, .int .i64 e2] t)).heap.size = w.heap.size + 1 + 1 + 1 := by simp [z1]
  generalize h2 : W1.alloc (.cells #[.bool s2, .slice A2 n2 c2, .int .i64 e2] t) = W2 at *
  obtain ⟨b0, b1, b2, hb⟩ := new_cells W1 W2 (.bool s2) (.slice A2 n2 c2) (.int .i64 e2) t (by rw [h2]; exact Below.refl _ _)
  rw [z1] at b0 b1 b2
  have k1 : Cells3 W2 w.heap.size s0 A0 n0 c0 e0 := Cells3.below p1 p4 hb
  have k2 : Cells3 W2 (w.heap.size + 1) s1 A1 n1 c1 e1 := Cells3.below p2 p5 hb
  exact ⟨k1, k2, ⟨b0, b1, b2⟩, p3.trans (hb.mono p3.size), ⟨by omega, by omega, by omega⟩⟩
set_option maxRecDepth 400000 in
set_option maxHeartbeats 8000000 in
theorem ag_plus (a b t : Nat) (w : World) (s0 s1 s2 s4 : Bool) (N0 N1 N2 N4 : Nat) (e0 e1 e2 e4 res : Int)
    (hfa : ∀ x, Calls Try.prog 59 #[.float .f64 a] x fun e w' => ∃ v, e = .returned v ∧ NumV w' v s0 N0 e0 ∧ Below x.heap.size x w')
    (hfb : ∀ x, Calls Try.prog 59 #[.float .f64 b] x fun e w' => ∃ v, e = .returned v ∧ NumV w' v s1 N1 e1 ∧ Below x.heap.size x w')
    (hft : ∀ x, Calls Try.prog 59 #[.float .f64 t] x fun e w' => ∃ v, e = .returned v ∧ NumV w' v s2 N2 e2 ∧ Below x.heap.size x w')
    (h1 : ∀ x u v, NumV x u s0 N0 e0 → NumV x v s1 N1 e1 → Calls Try.prog 58 #[u, v] x fun r w' => ∃ v', r = .returned v' ∧ NumV w' v' s4 N4 e4 ∧ Below x.heap.size x w')
    (h2 : ∀ x u v, NumV x u s2 N2 e2 → NumV x v s4 N4 e4 → Calls Try.prog 61 #[u, v] x fun r w' => r = .returned (.int .i64 res) ∧ Below x.heap.size x w') :
    Calls Try.prog 37 #[.int .i64 0, .float .f64 a, .float .f64 b, .float .f64 t] w fun r w' => r = .returned (.int .i64 res) ∧ Below w.heap.size w w' := by
  have HA := Lib.hid hfa
  have HB := Lib.hid hfb
  have HT := Lib.hid hft
  have H1 := Lib.hid h1
  have H2 := Lib.hid h2
  clear hfa hfb hft h1 h2
  go_enter Try.func37, Try.ntmps37
  go_wp2_with fail
  refine (HA.out _).mono ?_
  rintro e w1 ⟨va, rfl, hva, hb1⟩
  have HVA := Lib.hid hva
  have HB1 := Lib.hid hb1
  clear hva hb1
  go_wp2_with fail
  refine (HB.out _).mono ?_
  rintro e w2 ⟨vb, rfl, hvb, hb2⟩
  have HVB := Lib.hid hvb
  have HVA2 := Lib.hid (HVA.out.below hb2)
  have HB2 := Lib.hid (HB1.out.trans (hb2.mono HB1.out.size))
  clear hvb hb2 HVA HB1
  go_wp2_with fail
  refine (HT.out _).mono ?_
  rintro e w3 ⟨vt, rfl, hvt, hb3⟩
  have HVT := Lib.hid hvt
  have HVB3 := Lib.hid (HVB.out.below hb3)
  have HVA3 := Lib.hid (HVA2.out.below hb3)
  have HB3 := Lib.hid (HB2.out.trans (hb3.mono HB2.out.size))
  clear hvt hb3 HVB HVA2 HB2 HA HB HT
  have hva := HVA3.out
  have hvb := HVB3.out
  have hvt := HVT.out
  obtain ⟨A0, c0, rfl, hu0⟩ := hva
  obtain ⟨A1, c1, rfl, hu1⟩ := hvb
  obtain ⟨A2, c2, rfl, hu2⟩ := hvt
  clear hu0 hu1 hu2
  generalize (Nt.dg 18446744073709551616 N0).length = n0 at *
  generalize (Nt.dg 18446744073709551616 N1).length = n1 at *
  generalize (Nt.dg 18446744073709551616 N2).length = n2 at *
  obtain ⟨l4, hl4⟩ : ∃ l4, l4 = Nt.dg 18446744073709551616 N4 := ⟨_, rfl⟩
  obtain ⟨n4, hn4⟩ : ∃ n4, n4 = l4.length := ⟨_, rfl⟩
  have HL4 := Lib.hid hl4.symm
  have HN4 := Lib.hid hn4.symm
  clear hl4 hn4
  have HC1 : Hid (∀ x, Tri w3 w3.heap.size s0 A0 n0 c0 e0 s1 A1 n1 c1 e1 s2 A2 n2 c2 e2 x → Calls Try.prog 58 #[.agg #[.bool s0, .slice A0 n0 c0, .int .i64 e0], .agg #[.bool s1, .slice A1 n1 c1, .int .i64 e1]] x fun r w' => ∃ A4 c4, r = .returned (.agg #[.bool s4, .slice A4 n4 c4, .int .i64 e4]) ∧ U w' A4 n4 c4 l4 ∧ Tri w3 w3.heap.size s0 A0 n0 c0 e0 s1 A1 n1 c1 e1 s2 A2 n2 c2 e2 w') :=
    Lib.hid (fun x hx => (H1.out x _ _ (HVA3.out.below hx.2.2.2.1) (HVB3.out.below hx.2.2.2.1)).mono fun r w' ⟨v4, k1, ⟨A4, c4, k2, k3⟩, k4⟩ => ⟨A4, c4, by rw [k1, k2, HL4.out, HN4.out], by rw [HL4.out, HN4.out] at k3; exact k3, hx.go k4⟩)
  have HC2 : Hid (∀ x A4 c4, Tri w3 w3.heap.size s0 A0 n0 c0 e0 s1 A1 n1 c1 e1 s2 A2 n2 c2 e2 x → U x A4 n4 c4 l4 → Calls Try.prog 61 #[.agg #[.bool s2, .slice A2 n2 c2, .int .i64 e2], .agg #[.bool s4, .slice A4 n4 c4, .int .i64 e4]] x fun r w' => r = .returned (.int .i64 res) ∧ Tri w3 w3.heap.size s0 A0 n0 c0 e0 s1 A1 n1 c1 e1 s2 A2 n2 c2 e2 w') :=
    Lib.hid (fun x A4 c4 hx hu => (H2.out x _ _ (HVT.out.below hx.2.2.2.1) ⟨A4, c4, by rw [HL4.out, HN4.out], by rw [HL4.out, HN4.out]; exact hu⟩).mono fun r w' ⟨k1, k2⟩ => ⟨k1, hx.go k2⟩)
  clear HVA3 HVB3 HVT H1 H2
  have hst := Tri.start w3 s0 A0 n0 c0 e0 s1 A1 n1 c1 e1 s2 A2 n2 c2 e2 61
  go_wp2_with fail
  generalize ((w3.alloc (.cells #[.bool s0, .slice A0 n0 c0, .int .i64 e0] 61)).alloc (.cells #[.bool s1, .slice A1 n1 c1, .int .i64 e1] 61)).alloc (.cells #[.bool s2, .slice A2 n2 c2, .int .i64 e2] 61) = W at *
  have HS0 := Lib.hid hst.drew
  obtain ⟨⟨p1, p2, p3⟩, ⟨p4, p5, p6⟩, ⟨p7, p8, p9⟩, _, ⟨q1, q2, q3⟩⟩ := hst
  go_region_held3 (fun x => (x.cell? ⟨w3.heap.size, 0, none⟩ = some (.bool s0) ∧ x.cell? ⟨w3.heap.size, 1, none⟩ = some (.slice A0 n0 c0) ∧ x.cell? ⟨w3.heap.size, 2, none⟩ = some (.int .i64 e0)) ∧ (x.cell? ⟨w3.heap.size + 1, 0, none⟩ = some (.bool s1) ∧ x.cell? ⟨w3.heap.size + 1, 1, none⟩ = some (.slice A1 n1 c1) ∧ x.cell? ⟨w3.heap.size + 1, 2, none⟩ = some (.int .i64 e1)) ∧ (x.cell? ⟨w3.heap.size + 1 + 1, 0, none⟩ = some (.bool s2) ∧ x.cell? ⟨w3.heap.size + 1 + 1, 1, none⟩ = some (.slice A2 n2 c2) ∧ x.cell? ⟨w3.heap.size + 1 + 1, 2, none⟩ = some (.int .i64 e2)) ∧ Below w3.heap.size w3 x ∧ (w3.heap.size < x.heap.size ∧ w3.heap.size + 1 < x.heap.size ∧ w3.heap.size + 1 + 1 < x.heap.size)) ((first | assumption | exact HS0.out)) (first | (go_at_call 58; refine (HC1.out _ ?_).mono ?_; (assumption); rintro r w' ⟨A4, c4, rfl, hu4, hS⟩) | (go_at_call 61; refine (HC2.out _ _ _ ?_ ?_).mono ?_; (assumption); (assumption); rintro r w' ⟨rfl, hS5⟩))
  have OUT := Lib.hid (HB3.out.trans (hS5.2.2.2.1.mono HB3.out.size))
  clear hS5 hu4 HC1 HC2 HS0 p1 p2 p3 p4 p5 p6 p7 p8 p9 q1 q2 q3
  go_wp2
  go_ret
  exact ⟨rfl, OUT.out⟩
set_option maxRecDepth 400000 in
set_option maxHeartbeats 8000000 in
theorem ag_less (a b t : Nat) (w : World) (s0 s1 s2 s4 : Bool) (N0 N1 N2 N4 : Nat) (e0 e1 e2 e4 res : Int)
    (hfa : ∀ x, Calls Try.prog 59 #[.float .f64 a] x fun e w' => ∃ v, e = .returned v ∧ NumV w' v s0 N0 e0 ∧ Below x.heap.size x w')
    (hfb : ∀ x, Calls Try.prog 59 #[.float .f64 b] x fun e w' => ∃ v, e = .returned v ∧ NumV w' v s1 N1 e1 ∧ Below x.heap.size x w')
    (hft : ∀ x, Calls Try.prog 59 #[.float .f64 t] x fun e w' => ∃ v, e = .returned v ∧ NumV w' v s2 N2 e2 ∧ Below x.heap.size x w')
    (h1 : ∀ x u v, NumV x u s0 N0 e0 → NumV x v s1 N1 e1 → Calls Try.prog 62 #[u, v] x fun r w' => ∃ v', r = .returned v' ∧ NumV w' v' s4 N4 e4 ∧ Below x.heap.size x w')
    (h2 : ∀ x u v, NumV x u s2 N2 e2 → NumV x v s4 N4 e4 → Calls Try.prog 61 #[u, v] x fun r w' => r = .returned (.int .i64 res) ∧ Below x.heap.size x w') :
    Calls Try.prog 37 #[.int .i64 1, .float .f64 a, .float .f64 b, .float .f64 t] w fun r w' => r = .returned (.int .i64 res) ∧ Below w.heap.size w w' := by
  have HA := Lib.hid hfa
  have HB := Lib.hid hfb
  have HT := Lib.hid hft
  have H1 := Lib.hid h1
  have H2 := Lib.hid h2
  clear hfa hfb hft h1 h2
  go_enter Try.func37, Try.ntmps37
  go_wp2_with fail
  refine (HA.out _).mono ?_
  rintro e w1 ⟨va, rfl, hva, hb1⟩
  have HVA := Lib.hid hva
  have HB1 := Lib.hid hb1
  clear hva hb1
  go_wp2_with fail
  refine (HB.out _).mono ?_
  rintro e w2 ⟨vb, rfl, hvb, hb2⟩
  have HVB := Lib.hid hvb
  have HVA2 := Lib.hid (HVA.out.below hb2)
  have HB2 := Lib.hid (HB1.out.trans (hb2.mono HB1.out.size))
  clear hvb hb2 HVA HB1
  go_wp2_with fail
  refine (HT.out _).mono ?_
  rintro e w3 ⟨vt, rfl, hvt, hb3⟩
  have HVT := Lib.hid hvt
  have HVB3 := Lib.hid (HVB.out.below hb3)
  have HVA3 := Lib.hid (HVA2.out.below hb3)
  have HB3 := Lib.hid (HB2.out.trans (hb3.mono HB2.out.size))
  clear hvt hb3 HVB HVA2 HB2 HA HB HT
  have hva := HVA3.out
  have hvb := HVB3.out
  have hvt := HVT.out
  obtain ⟨A0, c0, rfl, hu0⟩ := hva
  obtain ⟨A1, c1, rfl, hu1⟩ := hvb
  obtain ⟨A2, c2, rfl, hu2⟩ := hvt
  clear hu0 hu1 hu2
  generalize (Nt.dg 18446744073709551616 N0).length = n0 at *
  generalize (Nt.dg 18446744073709551616 N1).length = n1 at *
  generalize (Nt.dg 18446744073709551616 N2).length = n2 at *
  obtain ⟨l4, hl4⟩ : ∃ l4, l4 = Nt.dg 18446744073709551616 N4 := ⟨_, rfl⟩
  obtain ⟨n4, hn4⟩ : ∃ n4, n4 = l4.length := ⟨_, rfl⟩
  have HL4 := Lib.hid hl4.symm
  have HN4 := Lib.hid hn4.symm
  clear hl4 hn4
  have HC1 : Hid (∀ x, Tri w3 w3.heap.size s0 A0 n0 c0 e0 s1 A1 n1 c1 e1 s2 A2 n2 c2 e2 x → Calls Try.prog 62 #[.agg #[.bool s0, .slice A0 n0 c0, .int .i64 e0], .agg #[.bool s1, .slice A1 n1 c1, .int .i64 e1]] x fun r w' => ∃ A4 c4, r = .returned (.agg #[.bool s4, .slice A4 n4 c4, .int .i64 e4]) ∧ U w' A4 n4 c4 l4 ∧ Tri w3 w3.heap.size s0 A0 n0 c0 e0 s1 A1 n1 c1 e1 s2 A2 n2 c2 e2 w') :=
    Lib.hid (fun x hx => (H1.out x _ _ (HVA3.out.below hx.2.2.2.1) (HVB3.out.below hx.2.2.2.1)).mono fun r w' ⟨v4, k1, ⟨A4, c4, k2, k3⟩, k4⟩ => ⟨A4, c4, by rw [k1, k2, HL4.out, HN4.out], by rw [HL4.out, HN4.out] at k3; exact k3, hx.go k4⟩)
  have HC2 : Hid (∀ x A4 c4, Tri w3 w3.heap.size s0 A0 n0 c0 e0 s1 A1 n1 c1 e1 s2 A2 n2 c2 e2 x → U x A4 n4 c4 l4 → Calls Try.prog 61 #[.agg #[.bool s2, .slice A2 n2 c2, .int .i64 e2], .agg #[.bool s4, .slice A4 n4 c4, .int .i64 e4]] x fun r w' => r = .returned (.int .i64 res) ∧ Tri w3 w3.heap.size s0 A0 n0 c0 e0 s1 A1 n1 c1 e1 s2 A2 n2 c2 e2 w') :=
    Lib.hid (fun x A4 c4 hx hu => (H2.out x _ _ (HVT.out.below hx.2.2.2.1) ⟨A4, c4, by rw [HL4.out, HN4.out], by rw [HL4.out, HN4.out]; exact hu⟩).mono fun r w' ⟨k1, k2⟩ => ⟨k1, hx.go k2⟩)
  clear HVA3 HVB3 HVT H1 H2
  have hst := Tri.start w3 s0 A0 n0 c0 e0 s1 A1 n1 c1 e1 s2 A2 n2 c2 e2 61
  go_wp2_with fail
  generalize ((w3.alloc (.cells #[.bool s0, .slice A0 n0 c0, .int .i64 e0] 61)).alloc (.cells #[.bool s1, .slice A1 n1 c1, .int .i64 e1] 61)).alloc (.cells #[.bool s2, .slice A2 n2 c2, .int .i64 e2] 61) = W at *
  have HS0 := Lib.hid hst.drew
  obtain ⟨⟨p1, p2, p3⟩, ⟨p4, p5, p6⟩, ⟨p7, p8, p9⟩, _, ⟨q1, q2, q3⟩⟩ := hst
  go_region_held3 (fun x => (x.cell? ⟨w3.heap.size, 0, none⟩ = some (.bool s0) ∧ x.cell? ⟨w3.heap.size, 1, none⟩ = some (.slice A0 n0 c0) ∧ x.cell? ⟨w3.heap.size, 2, none⟩ = some (.int .i64 e0)) ∧ (x.cell? ⟨w3.heap.size + 1, 0, none⟩ = some (.bool s1) ∧ x.cell? ⟨w3.heap.size + 1, 1, none⟩ = some (.slice A1 n1 c1) ∧ x.cell? ⟨w3.heap.size + 1, 2, none⟩ = some (.int .i64 e1)) ∧ (x.cell? ⟨w3.heap.size + 1 + 1, 0, none⟩ = some (.bool s2) ∧ x.cell? ⟨w3.heap.size + 1 + 1, 1, none⟩ = some (.slice A2 n2 c2) ∧ x.cell? ⟨w3.heap.size + 1 + 1, 2, none⟩ = some (.int .i64 e2)) ∧ Below w3.heap.size w3 x ∧ (w3.heap.size < x.heap.size ∧ w3.heap.size + 1 < x.heap.size ∧ w3.heap.size + 1 + 1 < x.heap.size)) ((first | assumption | exact HS0.out)) (first | (go_at_call 62; refine (HC1.out _ ?_).mono ?_; (assumption); rintro r w' ⟨A4, c4, rfl, hu4, hS⟩) | (go_at_call 61; refine (HC2.out _ _ _ ?_ ?_).mono ?_; (assumption); (assumption); rintro r w' ⟨rfl, hS5⟩))
  have OUT := Lib.hid (HB3.out.trans (hS5.2.2.2.1.mono HB3.out.size))
  clear hS5 hu4 HC1 HC2 HS0 p1 p2 p3 p4 p5 p6 p7 p8 p9 q1 q2 q3
  go_wp2
  go_ret
  exact ⟨rfl, OUT.out⟩
set_option maxRecDepth 400000 in
set_option maxHeartbeats 8000000 in
theorem ag_times (a b t : Nat) (w : World) (s0 s1 s2 s4 : Bool) (N0 N1 N2 N4 : Nat) (e0 e1 e2 e4 res : Int)
    (hfa : ∀ x, Calls Try.prog 59 #[.float .f64 a] x fun e w' => ∃ v, e = .returned v ∧ NumV w' v s0 N0 e0 ∧ Below x.heap.size x w')
    (hfb : ∀ x, Calls Try.prog 59 #[.float .f64 b] x fun e w' => ∃ v, e = .returned v ∧ NumV w' v s1 N1 e1 ∧ Below x.heap.size x w')
    (hft : ∀ x, Calls Try.prog 59 #[.float .f64 t] x fun e w' => ∃ v, e = .returned v ∧ NumV w' v s2 N2 e2 ∧ Below x.heap.size x w')
    (h1 : ∀ x u v, NumV x u s0 N0 e0 → NumV x v s1 N1 e1 → Calls Try.prog 60 #[u, v] x fun r w' => ∃ v', r = .returned v' ∧ NumV w' v' s4 N4 e4 ∧ Below x.heap.size x w')
    (h2 : ∀ x u v, NumV x u s2 N2 e2 → NumV x v s4 N4 e4 → Calls Try.prog 61 #[u, v] x fun r w' => r = .returned (.int .i64 res) ∧ Below x.heap.size x w') :
    Calls Try.prog 37 #[.int .i64 2, .float .f64 a, .float .f64 b, .float .f64 t] w fun r w' => r = .returned (.int .i64 res) ∧ Below w.heap.size w w' := by
  have HA := Lib.hid hfa
  have HB := Lib.hid hfb
  have HT := Lib.hid hft
  have H1 := Lib.hid h1
  have H2 := Lib.hid h2
  clear hfa hfb hft h1 h2
  go_enter Try.func37, Try.ntmps37
  go_wp2_with fail
  refine (HA.out _).mono ?_
  rintro e w1 ⟨va, rfl, hva, hb1⟩
  have HVA := Lib.hid hva
  have HB1 := Lib.hid hb1
  clear hva hb1
  go_wp2_with fail
  refine (HB.out _).mono ?_
  rintro e w2 ⟨vb, rfl, hvb, hb2⟩
  have HVB := Lib.hid hvb
  have HVA2 := Lib.hid (HVA.out.below hb2)
  have HB2 := Lib.hid (HB1.out.trans (hb2.mono HB1.out.size))
  clear hvb hb2 HVA HB1
  go_wp2_with fail
  refine (HT.out _).mono ?_
  rintro e w3 ⟨vt, rfl, hvt, hb3⟩
  have HVT := Lib.hid hvt
  have HVB3 := Lib.hid (HVB.out.below hb3)
  have HVA3 := Lib.hid (HVA2.out.below hb3)
  have HB3 := Lib.hid (HB2.out.trans (hb3.mono HB2.out.size))
  clear hvt hb3 HVB HVA2 HB2 HA HB HT
  have hva := HVA3.out
  have hvb := HVB3.out
  have hvt := HVT.out
  obtain ⟨A0, c0, rfl, hu0⟩ := hva
  obtain ⟨A1, c1, rfl, hu1⟩ := hvb
  obtain ⟨A2, c2, rfl, hu2⟩ := hvt
  clear hu0 hu1 hu2
  generalize (Nt.dg 18446744073709551616 N0).length = n0 at *
  generalize (Nt.dg 18446744073709551616 N1).length = n1 at *
  generalize (Nt.dg 18446744073709551616 N2).length = n2 at *
  obtain ⟨l4, hl4⟩ : ∃ l4, l4 = Nt.dg 18446744073709551616 N4 := ⟨_, rfl⟩
  obtain ⟨n4, hn4⟩ : ∃ n4, n4 = l4.length := ⟨_, rfl⟩
  have HL4 := Lib.hid hl4.symm
  have HN4 := Lib.hid hn4.symm
  clear hl4 hn4
  have HC1 : Hid (∀ x, Tri w3 w3.heap.size s0 A0 n0 c0 e0 s1 A1 n1 c1 e1 s2 A2 n2 c2 e2 x → Calls Try.prog 60 #[.agg #[.bool s0, .slice A0 n0 c0, .int .i64 e0], .agg #[.bool s1, .slice A1 n1 c1, .int .i64 e1]] x fun r w' => ∃ A4 c4, r = .returned (.agg #[.bool s4, .slice A4 n4 c4, .int .i64 e4]) ∧ U w' A4 n4 c4 l4 ∧ Tri w3 w3.heap.size s0 A0 n0 c0 e0 s1 A1 n1 c1 e1 s2 A2 n2 c2 e2 w') :=
    Lib.hid (fun x hx => (H1.out x _ _ (HVA3.out.below hx.2.2.2.1) (HVB3.out.below hx.2.2.2.1)).mono fun r w' ⟨v4, k1, ⟨A4, c4, k2, k3⟩, k4⟩ => ⟨A4, c4, by rw [k1, k2, HL4.out, HN4.out], by rw [HL4.out, HN4.out] at k3; exact k3, hx.go k4⟩)
  have HC2 : Hid (∀ x A4 c4, Tri w3 w3.heap.size s0 A0 n0 c0 e0 s1 A1 n1 c1 e1 s2 A2 n2 c2 e2 x → U x A4 n4 c4 l4 → Calls Try.prog 61 #[.agg #[.bool s2, .slice A2 n2 c2, .int .i64 e2], .agg #[.bool s4, .slice A4 n4 c4, .int .i64 e4]] x fun r w' => r = .returned (.int .i64 res) ∧ Tri w3 w3.heap.size s0 A0 n0 c0 e0 s1 A1 n1 c1 e1 s2 A2 n2 c2 e2 w') :=
    Lib.hid (fun x A4 c4 hx hu => (H2.out x _ _ (HVT.out.below hx.2.2.2.1) ⟨A4, c4, by rw [HL4.out, HN4.out], by rw [HL4.out, HN4.out]; exact hu⟩).mono fun r w' ⟨k1, k2⟩ => ⟨k1, hx.go k2⟩)
  clear HVA3 HVB3 HVT H1 H2
  have hst := Tri.start w3 s0 A0 n0 c0 e0 s1 A1 n1 c1 e1 s2 A2 n2 c2 e2 61
  go_wp2_with fail
  generalize ((w3.alloc (.cells #[.bool s0, .slice A0 n0 c0, .int .i64 e0] 61)).alloc (.cells #[.bool s1, .slice A1 n1 c1, .int .i64 e1] 61)).alloc (.cells #[.bool s2, .slice A2 n2 c2, .int .i64 e2] 61) = W at *
  have HS0 := Lib.hid hst.drew
  obtain ⟨⟨p1, p2, p3⟩, ⟨p4, p5, p6⟩, ⟨p7, p8, p9⟩, _, ⟨q1, q2, q3⟩⟩ := hst
  go_region_held3 (fun x => (x.cell? ⟨w3.heap.size, 0, none⟩ = some (.bool s0) ∧ x.cell? ⟨w3.heap.size, 1, none⟩ = some (.slice A0 n0 c0) ∧ x.cell? ⟨w3.heap.size, 2, none⟩ = some (.int .i64 e0)) ∧ (x.cell? ⟨w3.heap.size + 1, 0, none⟩ = some (.bool s1) ∧ x.cell? ⟨w3.heap.size + 1, 1, none⟩ = some (.slice A1 n1 c1) ∧ x.cell? ⟨w3.heap.size + 1, 2, none⟩ = some (.int .i64 e1)) ∧ (x.cell? ⟨w3.heap.size + 1 + 1, 0, none⟩ = some (.bool s2) ∧ x.cell? ⟨w3.heap.size + 1 + 1, 1, none⟩ = some (.slice A2 n2 c2) ∧ x.cell? ⟨w3.heap.size + 1 + 1, 2, none⟩ = some (.int .i64 e2)) ∧ Below w3.heap.size w3 x ∧ (w3.heap.size < x.heap.size ∧ w3.heap.size + 1 < x.heap.size ∧ w3.heap.size + 1 + 1 < x.heap.size)) ((first | assumption | exact HS0.out)) (first | (go_at_call 60; refine (HC1.out _ ?_).mono ?_; (assumption); rintro r w' ⟨A4, c4, rfl, hu4, hS⟩) | (go_at_call 61; refine (HC2.out _ _ _ ?_ ?_).mono ?_; (assumption); (assumption); rintro r w' ⟨rfl, hS5⟩))
  have OUT := Lib.hid (HB3.out.trans (hS5.2.2.2.1.mono HB3.out.size))
  clear hS5 hu4 HC1 HC2 HS0 p1 p2 p3 p4 p5 p6 p7 p8 p9 q1 q2 q3
  go_wp2
  go_ret
  exact ⟨rfl, OUT.out⟩
set_option maxRecDepth 400000 in
set_option maxHeartbeats 8000000 in
theorem ag_quon (a b t : Nat) (w : World) (s0 s1 s2 s4 : Bool) (N0 N1 N2 N4 : Nat) (e0 e1 e2 e4 res : Int) (o1 : FloatKind.f64.format.order b 0 = some .lt)
    (hfa : ∀ x, Calls Try.prog 59 #[.float .f64 a] x fun e w' => ∃ v, e = .returned v ∧ NumV w' v s0 N0 e0 ∧ Below x.heap.size x w')
    (hfb : ∀ x, Calls Try.prog 59 #[.float .f64 b] x fun e w' => ∃ v, e = .returned v ∧ NumV w' v s1 N1 e1 ∧ Below x.heap.size x w')
    (hft : ∀ x, Calls Try.prog 59 #[.float .f64 t] x fun e w' => ∃ v, e = .returned v ∧ NumV w' v s2 N2 e2 ∧ Below x.heap.size x w')
    (h1 : ∀ x u v, NumV x u s2 N2 e2 → NumV x v s1 N1 e1 → Calls Try.prog 60 #[u, v] x fun r w' => ∃ v', r = .returned v' ∧ NumV w' v' s4 N4 e4 ∧ Below x.heap.size x w')
    (h2 : ∀ x u v, NumV x u s0 N0 e0 → NumV x v s4 N4 e4 → Calls Try.prog 61 #[u, v] x fun r w' => r = .returned (.int .i64 res) ∧ Below x.heap.size x w') :
    Calls Try.prog 37 #[.int .i64 3, .float .f64 a, .float .f64 b, .float .f64 t] w fun r w' => r = .returned (.int .i64 res) ∧ Below w.heap.size w w' := by
  have HA := Lib.hid hfa
  have HB := Lib.hid hfb
  have HT := Lib.hid hft
  have H1 := Lib.hid h1
  have H2 := Lib.hid h2
  clear hfa hfb hft h1 h2
  go_enter Try.func37, Try.ntmps37
  go_wp2_with fail
  refine (HA.out _).mono ?_
  rintro e w1 ⟨va, rfl, hva, hb1⟩
  have HVA := Lib.hid hva
  have HB1 := Lib.hid hb1
  clear hva hb1
  go_wp2_with fail
  refine (HB.out _).mono ?_
  rintro e w2 ⟨vb, rfl, hvb, hb2⟩
  have HVB := Lib.hid hvb
  have HVA2 := Lib.hid (HVA.out.below hb2)
  have HB2 := Lib.hid (HB1.out.trans (hb2.mono HB1.out.size))
  clear hvb hb2 HVA HB1
  go_wp2_with fail
  refine (HT.out _).mono ?_
  rintro e w3 ⟨vt, rfl, hvt, hb3⟩
  have HVT := Lib.hid hvt
  have HVB3 := Lib.hid (HVB.out.below hb3)
  have HVA3 := Lib.hid (HVA2.out.below hb3)
  have HB3 := Lib.hid (HB2.out.trans (hb3.mono HB2.out.size))
  clear hvt hb3 HVB HVA2 HB2 HA HB HT
  have hva := HVA3.out
  have hvb := HVB3.out
  have hvt := HVT.out
  obtain ⟨A0, c0, rfl, hu0⟩ := hva
  obtain ⟨A1, c1, rfl, hu1⟩ := hvb
  obtain ⟨A2, c2, rfl, hu2⟩ := hvt
  clear hu0 hu1 hu2
  generalize (Nt.dg 18446744073709551616 N0).length = n0 at *
  generalize (Nt.dg 18446744073709551616 N1).length = n1 at *
  generalize (Nt.dg 18446744073709551616 N2).length = n2 at *
  obtain ⟨l4, hl4⟩ : ∃ l4, l4 = Nt.dg 18446744073709551616 N4 := ⟨_, rfl⟩
  obtain ⟨n4, hn4⟩ : ∃ n4, n4 = l4.length := ⟨_, rfl⟩
  have HL4 := Lib.hid hl4.symm
  have HN4 := Lib.hid hn4.symm
  clear hl4 hn4
  have HC1 : Hid (∀ x, Tri w3 w3.heap.size s0 A0 n0 c0 e0 s1 A1 n1 c1 e1 s2 A2 n2 c2 e2 x → Calls Try.prog 60 #[.agg #[.bool s2, .slice A2 n2 c2, .int .i64 e2], .agg #[.bool s1, .slice A1 n1 c1, .int .i64 e1]] x fun r w' => ∃ A4 c4, r = .returned (.agg #[.bool s4, .slice A4 n4 c4, .int .i64 e4]) ∧ U w' A4 n4 c4 l4 ∧ Tri w3 w3.heap.size s0 A0 n0 c0 e0 s1 A1 n1 c1 e1 s2 A2 n2 c2 e2 w') :=
    Lib.hid (fun x hx => (H1.out x _ _ (HVT.out.below hx.2.2.2.1) (HVB3.out.below hx.2.2.2.1)).mono fun r w' ⟨v4, k1, ⟨A4, c4, k2, k3⟩, k4⟩ => ⟨A4, c4, by rw [k1, k2, HL4.out, HN4.out], by rw [HL4.out, HN4.out] at k3; exact k3, hx.go k4⟩)
  have HC2 : Hid (∀ x A4 c4, Tri w3 w3.heap.size s0 A0 n0 c0 e0 s1 A1 n1 c1 e1 s2 A2 n2 c2 e2 x → U x A4 n4 c4 l4 → Calls Try.prog 61 #[.agg #[.bool s0, .slice A0 n0 c0, .int .i64 e0], .agg #[.bool s4, .slice A4 n4 c4, .int .i64 e4]] x fun r w' => r = .returned (.int .i64 res) ∧ Tri w3 w3.heap.size s0 A0 n0 c0 e0 s1 A1 n1 c1 e1 s2 A2 n2 c2 e2 w') :=
    Lib.hid (fun x A4 c4 hx hu => (H2.out x _ _ (HVA3.out.below hx.2.2.2.1) ⟨A4, c4, by rw [HL4.out, HN4.out], by rw [HL4.out, HN4.out]; exact hu⟩).mono fun r w' ⟨k1, k2⟩ => ⟨k1, hx.go k2⟩)
  clear HVA3 HVB3 HVT H1 H2
  have hst := Tri.start w3 s0 A0 n0 c0 e0 s1 A1 n1 c1 e1 s2 A2 n2 c2 e2 61
  go_wp2_with fail
  generalize ((w3.alloc (.cells #[.bool s0, .slice A0 n0 c0, .int .i64 e0] 61)).alloc (.cells #[.bool s1, .slice A1 n1 c1, .int .i64 e1] 61)).alloc (.cells #[.bool s2, .slice A2 n2 c2, .int .i64 e2] 61) = W at *
  have HS0 := Lib.hid hst.drew
  obtain ⟨⟨p1, p2, p3⟩, ⟨p4, p5, p6⟩, ⟨p7, p8, p9⟩, _, ⟨q1, q2, q3⟩⟩ := hst
  go_region_held3 (fun x => (x.cell? ⟨w3.heap.size, 0, none⟩ = some (.bool s0) ∧ x.cell? ⟨w3.heap.size, 1, none⟩ = some (.slice A0 n0 c0) ∧ x.cell? ⟨w3.heap.size, 2, none⟩ = some (.int .i64 e0)) ∧ (x.cell? ⟨w3.heap.size + 1, 0, none⟩ = some (.bool s1) ∧ x.cell? ⟨w3.heap.size + 1, 1, none⟩ = some (.slice A1 n1 c1) ∧ x.cell? ⟨w3.heap.size + 1, 2, none⟩ = some (.int .i64 e1)) ∧ (x.cell? ⟨w3.heap.size + 1 + 1, 0, none⟩ = some (.bool s2) ∧ x.cell? ⟨w3.heap.size + 1 + 1, 1, none⟩ = some (.slice A2 n2 c2) ∧ x.cell? ⟨w3.heap.size + 1 + 1, 2, none⟩ = some (.int .i64 e2)) ∧ Below w3.heap.size w3 x ∧ (w3.heap.size < x.heap.size ∧ w3.heap.size + 1 < x.heap.size ∧ w3.heap.size + 1 + 1 < x.heap.size)) ((first | assumption | exact HS0.out)) (first | (go_at_call 60; refine (HC1.out _ ?_).mono ?_; (assumption); rintro r w' ⟨A4, c4, rfl, hu4, hS⟩) | (go_at_call 61; refine (HC2.out _ _ _ ?_ ?_).mono ?_; (assumption); (assumption); rintro r w' ⟨rfl, hS5⟩))
  have OUT := Lib.hid (HB3.out.trans (hS5.2.2.2.1.mono HB3.out.size))
  clear hS5 hu4 HC1 HC2 HS0 p1 p2 p3 p4 p5 p6 p7 p8 p9 q1 q2 q3
  go_wp2
  go_ret
  exact ⟨rfl, OUT.out⟩
set_option maxRecDepth 400000 in
set_option maxHeartbeats 8000000 in
theorem ag_quop (a b t : Nat) (w : World) (s0 s1 s2 s4 : Bool) (N0 N1 N2 N4 : Nat) (e0 e1 e2 e4 res : Int) (o1 : (FloatKind.f64.format.order b 0 == some .lt) = false)
    (hfa : ∀ x, Calls Try.prog 59 #[.float .f64 a] x fun e w' => ∃ v, e = .returned v ∧ NumV w' v s0 N0 e0 ∧ Below x.heap.size x w')
    (hfb : ∀ x, Calls Try.prog 59 #[.float .f64 b] x fun e w' => ∃ v, e = .returned v ∧ NumV w' v s1 N1 e1 ∧ Below x.heap.size x w')
    (hft : ∀ x, Calls Try.prog 59 #[.float .f64 t] x fun e w' => ∃ v, e = .returned v ∧ NumV w' v s2 N2 e2 ∧ Below x.heap.size x w')
    (h1 : ∀ x u v, NumV x u s2 N2 e2 → NumV x v s1 N1 e1 → Calls Try.prog 60 #[u, v] x fun r w' => ∃ v', r = .returned v' ∧ NumV w' v' s4 N4 e4 ∧ Below x.heap.size x w')
    (h2 : ∀ x u v, NumV x u s4 N4 e4 → NumV x v s0 N0 e0 → Calls Try.prog 61 #[u, v] x fun r w' => r = .returned (.int .i64 res) ∧ Below x.heap.size x w') :
    Calls Try.prog 37 #[.int .i64 3, .float .f64 a, .float .f64 b, .float .f64 t] w fun r w' => r = .returned (.int .i64 res) ∧ Below w.heap.size w w' := by
  have HA := Lib.hid hfa
  have HB := Lib.hid hfb
  have HT := Lib.hid hft
  have H1 := Lib.hid h1
  have H2 := Lib.hid h2
  clear hfa hfb hft h1 h2
  go_enter Try.func37, Try.ntmps37
  go_wp2_with fail
  refine (HA.out _).mono ?_
  rintro e w1 ⟨va, rfl, hva, hb1⟩
  have HVA := Lib.hid hva
  have HB1 := Lib.hid hb1
  clear hva hb1
  go_wp2_with fail
  refine (HB.out _).mono ?_
  rintro e w2 ⟨vb, rfl, hvb, hb2⟩
  have HVB := Lib.hid hvb
  have HVA2 := Lib.hid (HVA.out.below hb2)
  have HB2 := Lib.hid (HB1.out.trans (hb2.mono HB1.out.size))
  clear hvb hb2 HVA HB1
  go_wp2_with fail
  refine (HT.out _).mono ?_
  rintro e w3 ⟨vt, rfl, hvt, hb3⟩
  have HVT := Lib.hid hvt
  have HVB3 := Lib.hid (HVB.out.below hb3)
  have HVA3 := Lib.hid (HVA2.out.below hb3)
  have HB3 := Lib.hid (HB2.out.trans (hb3.mono HB2.out.size))
  clear hvt hb3 HVB HVA2 HB2 HA HB HT
  have hva := HVA3.out
  have hvb := HVB3.out
  have hvt := HVT.out
  obtain ⟨A0, c0, rfl, hu0⟩ := hva
  obtain ⟨A1, c1, rfl, hu1⟩ := hvb
  obtain ⟨A2, c2, rfl, hu2⟩ := hvt
  clear hu0 hu1 hu2
  generalize (Nt.dg 18446744073709551616 N0).length = n0 at *
  generalize (Nt.dg 18446744073709551616 N1).length = n1 at *
  generalize (Nt.dg 18446744073709551616 N2).length = n2 at *
  obtain ⟨l4, hl4⟩ : ∃ l4, l4 = Nt.dg 18446744073709551616 N4 := ⟨_, rfl⟩
  obtain ⟨n4, hn4⟩ : ∃ n4, n4 = l4.length := ⟨_, rfl⟩
  have HL4 := Lib.hid hl4.symm
  have HN4 := Lib.hid hn4.symm
  clear hl4 hn4
  have HC1 : Hid (∀ x, Tri w3 w3.heap.size s0 A0 n0 c0 e0 s1 A1 n1 c1 e1 s2 A2 n2 c2 e2 x → Calls Try.prog 60 #[.agg #[.bool s2, .slice A2 n2 c2, .int .i64 e2], .agg #[.bool s1, .slice A1 n1 c1, .int .i64 e1]] x fun r w' => ∃ A4 c4, r = .returned (.agg #[.bool s4, .slice A4 n4 c4, .int .i64 e4]) ∧ U w' A4 n4 c4 l4 ∧ Tri w3 w3.heap.size s0 A0 n0 c0 e0 s1 A1 n1 c1 e1 s2 A2 n2 c2 e2 w') :=
    Lib.hid (fun x hx => (H1.out x _ _ (HVT.out.below hx.2.2.2.1) (HVB3.out.below hx.2.2.2.1)).mono fun r w' ⟨v4, k1, ⟨A4, c4, k2, k3⟩, k4⟩ => ⟨A4, c4, by rw [k1, k2, HL4.out, HN4.out], by rw [HL4.out, HN4.out] at k3; exact k3, hx.go k4⟩)
  have HC2 : Hid (∀ x A4 c4, Tri w3 w3.heap.size s0 A0 n0 c0 e0 s1 A1 n1 c1 e1 s2 A2 n2 c2 e2 x → U x A4 n4 c4 l4 → Calls Try.prog 61 #[.agg #[.bool s4, .slice A4 n4 c4, .int .i64 e4], .agg #[.bool s0, .slice A0 n0 c0, .int .i64 e0]] x fun r w' => r = .returned (.int .i64 res) ∧ Tri w3 w3.heap.size s0 A0 n0 c0 e0 s1 A1 n1 c1 e1 s2 A2 n2 c2 e2 w') :=
    Lib.hid (fun x A4 c4 hx hu => (H2.out x _ _ ⟨A4, c4, by rw [HL4.out, HN4.out], by rw [HL4.out, HN4.out]; exact hu⟩ (HVA3.out.below hx.2.2.2.1)).mono fun r w' ⟨k1, k2⟩ => ⟨k1, hx.go k2⟩)
  clear HVA3 HVB3 HVT H1 H2
  have hst := Tri.start w3 s0 A0 n0 c0 e0 s1 A1 n1 c1 e1 s2 A2 n2 c2 e2 61
  go_wp2_with fail
  generalize ((w3.alloc (.cells #[.bool s0, .slice A0 n0 c0, .int .i64 e0] 61)).alloc (.cells #[.bool s1, .slice A1 n1 c1, .int .i64 e1] 61)).alloc (.cells #[.bool s2, .slice A2 n2 c2, .int .i64 e2] 61) = W at *
  have HS0 := Lib.hid hst.drew
  obtain ⟨⟨p1, p2, p3⟩, ⟨p4, p5, p6⟩, ⟨p7, p8, p9⟩, _, ⟨q1, q2, q3⟩⟩ := hst
  go_region_held3 (fun x => (x.cell? ⟨w3.heap.size, 0, none⟩ = some (.bool s0) ∧ x.cell? ⟨w3.heap.size, 1, none⟩ = some (.slice A0 n0 c0) ∧ x.cell? ⟨w3.heap.size, 2, none⟩ = some (.int .i64 e0)) ∧ (x.cell? ⟨w3.heap.size + 1, 0, none⟩ = some (.bool s1) ∧ x.cell? ⟨w3.heap.size + 1, 1, none⟩ = some (.slice A1 n1 c1) ∧ x.cell? ⟨w3.heap.size + 1, 2, none⟩ = some (.int .i64 e1)) ∧ (x.cell? ⟨w3.heap.size + 1 + 1, 0, none⟩ = some (.bool s2) ∧ x.cell? ⟨w3.heap.size + 1 + 1, 1, none⟩ = some (.slice A2 n2 c2) ∧ x.cell? ⟨w3.heap.size + 1 + 1, 2, none⟩ = some (.int .i64 e2)) ∧ Below w3.heap.size w3 x ∧ (w3.heap.size < x.heap.size ∧ w3.heap.size + 1 < x.heap.size ∧ w3.heap.size + 1 + 1 < x.heap.size)) ((first | assumption | exact HS0.out)) (first | (go_at_call 60; refine (HC1.out _ ?_).mono ?_; (assumption); rintro r w' ⟨A4, c4, rfl, hu4, hS⟩) | (go_at_call 61; refine (HC2.out _ _ _ ?_ ?_).mono ?_; (assumption); (assumption); rintro r w' ⟨rfl, hS5⟩))
  have OUT := Lib.hid (HB3.out.trans (hS5.2.2.2.1.mono HB3.out.size))
  clear hS5 hu4 HC1 HC2 HS0 p1 p2 p3 p4 p5 p6 p7 p8 p9 q1 q2 q3
  go_wp2
  go_ret
  exact ⟨rfl, OUT.out⟩
set_option maxRecDepth 400000 in
set_option maxHeartbeats 8000000 in
theorem ag_root (a b t : Nat) (w : World) (s0 s1 s2 s4 : Bool) (N0 N1 N2 N4 : Nat) (e0 e1 e2 e4 res : Int) (o1 : (FloatKind.f64.format.order t 0 == some .lt) = false)
    (hfa : ∀ x, Calls Try.prog 59 #[.float .f64 a] x fun e w' => ∃ v, e = .returned v ∧ NumV w' v s0 N0 e0 ∧ Below x.heap.size x w')
    (hfb : ∀ x, Calls Try.prog 59 #[.float .f64 b] x fun e w' => ∃ v, e = .returned v ∧ NumV w' v s1 N1 e1 ∧ Below x.heap.size x w')
    (hft : ∀ x, Calls Try.prog 59 #[.float .f64 t] x fun e w' => ∃ v, e = .returned v ∧ NumV w' v s2 N2 e2 ∧ Below x.heap.size x w')
    (h1 : ∀ x u v, NumV x u s2 N2 e2 → NumV x v s2 N2 e2 → Calls Try.prog 60 #[u, v] x fun r w' => ∃ v', r = .returned v' ∧ NumV w' v' s4 N4 e4 ∧ Below x.heap.size x w')
    (h2 : ∀ x u v, NumV x u s4 N4 e4 → NumV x v s0 N0 e0 → Calls Try.prog 61 #[u, v] x fun r w' => r = .returned (.int .i64 res) ∧ Below x.heap.size x w') :
    Calls Try.prog 37 #[.int .i64 4, .float .f64 a, .float .f64 b, .float .f64 t] w fun r w' => r = .returned (.int .i64 res) ∧ Below w.heap.size w w' := by
  have HA := Lib.hid hfa
  have HB := Lib.hid hfb
  have HT := Lib.hid hft
  have H1 := Lib.hid h1
  have H2 := Lib.hid h2
  clear hfa hfb hft h1 h2
  go_enter Try.func37, Try.ntmps37
  go_wp2_with fail
  refine (HA.out _).mono ?_
  rintro e w1 ⟨va, rfl, hva, hb1⟩
  have HVA := Lib.hid hva
  have HB1 := Lib.hid hb1
  clear hva hb1
  go_wp2_with fail
  refine (HB.out _).mono ?_
  rintro e w2 ⟨vb, rfl, hvb, hb2⟩
  have HVB := Lib.hid hvb
  have HVA2 := Lib.hid (HVA.out.below hb2)
  have HB2 := Lib.hid (HB1.out.trans (hb2.mono HB1.out.size))
  clear hvb hb2 HVA HB1
  go_wp2_with fail
  refine (HT.out _).mono ?_
  rintro e w3 ⟨vt, rfl, hvt, hb3⟩
  have HVT := Lib.hid hvt
  have HVB3 := Lib.hid (HVB.out.below hb3)
  have HVA3 := Lib.hid (HVA2.out.below hb3)
  have HB3 := Lib.hid (HB2.out.trans (hb3.mono HB2.out.size))
  clear hvt hb3 HVB HVA2 HB2 HA HB HT
  have hva := HVA3.out
  have hvb := HVB3.out
  have hvt := HVT.out
  obtain ⟨A0, c0, rfl, hu0⟩ := hva
  obtain ⟨A1, c1, rfl, hu1⟩ := hvb
  obtain ⟨A2, c2, rfl, hu2⟩ := hvt
  clear hu0 hu1 hu2
  generalize (Nt.dg 18446744073709551616 N0).length = n0 at *
  generalize (Nt.dg 18446744073709551616 N1).length = n1 at *
  generalize (Nt.dg 18446744073709551616 N2).length = n2 at *
  obtain ⟨l4, hl4⟩ : ∃ l4, l4 = Nt.dg 18446744073709551616 N4 := ⟨_, rfl⟩
  obtain ⟨n4, hn4⟩ : ∃ n4, n4 = l4.length := ⟨_, rfl⟩
  have HL4 := Lib.hid hl4.symm
  have HN4 := Lib.hid hn4.symm
  clear hl4 hn4
  have HC1 : Hid (∀ x, Tri w3 w3.heap.size s0 A0 n0 c0 e0 s1 A1 n1 c1 e1 s2 A2 n2 c2 e2 x → Calls Try.prog 60 #[.agg #[.bool s2, .slice A2 n2 c2, .int .i64 e2], .agg #[.bool s2, .slice A2 n2 c2, .int .i64 e2]] x fun r w' => ∃ A4 c4, r = .returned (.agg #[.bool s4, .slice A4 n4 c4, .int .i64 e4]) ∧ U w' A4 n4 c4 l4 ∧ Tri w3 w3.heap.size s0 A0 n0 c0 e0 s1 A1 n1 c1 e1 s2 A2 n2 c2 e2 w') :=
    Lib.hid (fun x hx => (H1.out x _ _ (HVT.out.below hx.2.2.2.1) (HVT.out.below hx.2.2.2.1)).mono fun r w' ⟨v4, k1, ⟨A4, c4, k2, k3⟩, k4⟩ => ⟨A4, c4, by rw [k1, k2, HL4.out, HN4.out], by rw [HL4.out, HN4.out] at k3; exact k3, hx.go k4⟩)
  have HC2 : Hid (∀ x A4 c4, Tri w3 w3.heap.size s0 A0 n0 c0 e0 s1 A1 n1 c1 e1 s2 A2 n2 c2 e2 x → U x A4 n4 c4 l4 → Calls Try.prog 61 #[.agg #[.bool s4, .slice A4 n4 c4, .int .i64 e4], .agg #[.bool s0, .slice A0 n0 c0, .int .i64 e0]] x fun r w' => r = .returned (.int .i64 res) ∧ Tri w3 w3.heap.size s0 A0 n0 c0 e0 s1 A1 n1 c1 e1 s2 A2 n2 c2 e2 w') :=
    Lib.hid (fun x A4 c4 hx hu => (H2.out x _ _ ⟨A4, c4, by rw [HL4.out, HN4.out], by rw [HL4.out, HN4.out]; exact hu⟩ (HVA3.out.below hx.2.2.2.1)).mono fun r w' ⟨k1, k2⟩ => ⟨k1, hx.go k2⟩)
  clear HVA3 HVB3 HVT H1 H2
  have hst := Tri.start w3 s0 A0 n0 c0 e0 s1 A1 n1 c1 e1 s2 A2 n2 c2 e2 61
  go_wp2_with fail
  generalize ((w3.alloc (.cells #[.bool s0, .slice A0 n0 c0, .int .i64 e0] 61)).alloc (.cells #[.bool s1, .slice A1 n1 c1, .int .i64 e1] 61)).alloc (.cells #[.bool s2, .slice A2 n2 c2, .int .i64 e2] 61) = W at *
  have HS0 := Lib.hid hst.drew
  obtain ⟨⟨p1, p2, p3⟩, ⟨p4, p5, p6⟩, ⟨p7, p8, p9⟩, _, ⟨q1, q2, q3⟩⟩ := hst
  go_region_held3 (fun x => (x.cell? ⟨w3.heap.size, 0, none⟩ = some (.bool s0) ∧ x.cell? ⟨w3.heap.size, 1, none⟩ = some (.slice A0 n0 c0) ∧ x.cell? ⟨w3.heap.size, 2, none⟩ = some (.int .i64 e0)) ∧ (x.cell? ⟨w3.heap.size + 1, 0, none⟩ = some (.bool s1) ∧ x.cell? ⟨w3.heap.size + 1, 1, none⟩ = some (.slice A1 n1 c1) ∧ x.cell? ⟨w3.heap.size + 1, 2, none⟩ = some (.int .i64 e1)) ∧ (x.cell? ⟨w3.heap.size + 1 + 1, 0, none⟩ = some (.bool s2) ∧ x.cell? ⟨w3.heap.size + 1 + 1, 1, none⟩ = some (.slice A2 n2 c2) ∧ x.cell? ⟨w3.heap.size + 1 + 1, 2, none⟩ = some (.int .i64 e2)) ∧ Below w3.heap.size w3 x ∧ (w3.heap.size < x.heap.size ∧ w3.heap.size + 1 < x.heap.size ∧ w3.heap.size + 1 + 1 < x.heap.size)) ((first | assumption | exact HS0.out)) (first | (go_at_call 60; refine (HC1.out _ ?_).mono ?_; (assumption); rintro r w' ⟨A4, c4, rfl, hu4, hS⟩) | (go_at_call 61; refine (HC2.out _ _ _ ?_ ?_).mono ?_; (assumption); (assumption); rintro r w' ⟨rfl, hS5⟩))
  have OUT := Lib.hid (HB3.out.trans (hS5.2.2.2.1.mono HB3.out.size))
  clear hS5 hu4 HC1 HC2 HS0 p1 p2 p3 p4 p5 p6 p7 p8 p9 q1 q2 q3
  go_wp2
  go_ret
  exact ⟨rfl, OUT.out⟩
set_option maxRecDepth 400000 in
set_option maxHeartbeats 8000000 in
theorem ag_neg (a b t : Nat) (w : World) (s0 s1 s2 : Bool) (N0 N1 N2 : Nat) (e0 e1 e2 : Int) (o1 : FloatKind.f64.format.order t 0 = some .lt)
    (hfa : ∀ x, Calls Try.prog 59 #[.float .f64 a] x fun e w' => ∃ v, e = .returned v ∧ NumV w' v s0 N0 e0 ∧ Below x.heap.size x w')
    (hfb : ∀ x, Calls Try.prog 59 #[.float .f64 b] x fun e w' => ∃ v, e = .returned v ∧ NumV w' v s1 N1 e1 ∧ Below x.heap.size x w')
    (hft : ∀ x, Calls Try.prog 59 #[.float .f64 t] x fun e w' => ∃ v, e = .returned v ∧ NumV w' v s2 N2 e2 ∧ Below x.heap.size x w') :
    Calls Try.prog 37 #[.int .i64 4, .float .f64 a, .float .f64 b, .float .f64 t] w fun r w' => r = .returned (.int .i64 (-1)) ∧ Below w.heap.size w w' := by
  have HA := Lib.hid hfa
  have HB := Lib.hid hfb
  have HT := Lib.hid hft
  clear hfa hfb hft
  go_enter Try.func37, Try.ntmps37
  go_wp2_with fail
  refine (HA.out _).mono ?_
  rintro e w1 ⟨va, rfl, hva, hb1⟩
  have HVA := Lib.hid hva
  have HB1 := Lib.hid hb1
  clear hva hb1
  go_wp2_with fail
  refine (HB.out _).mono ?_
  rintro e w2 ⟨vb, rfl, hvb, hb2⟩
  have HVB := Lib.hid hvb
  have HVA2 := Lib.hid (HVA.out.below hb2)
  have HB2 := Lib.hid (HB1.out.trans (hb2.mono HB1.out.size))
  clear hvb hb2 HVA HB1
  go_wp2_with fail
  refine (HT.out _).mono ?_
  rintro e w3 ⟨vt, rfl, hvt, hb3⟩
  have HVT := Lib.hid hvt
  have HVB3 := Lib.hid (HVB.out.below hb3)
  have HVA3 := Lib.hid (HVA2.out.below hb3)
  have HB3 := Lib.hid (HB2.out.trans (hb3.mono HB2.out.size))
  clear hvt hb3 HVB HVA2 HB2 HA HB HT
  have hva := HVA3.out
  have hvb := HVB3.out
  have hvt := HVT.out
  obtain ⟨A0, c0, rfl, hu0⟩ := hva
  obtain ⟨A1, c1, rfl, hu1⟩ := hvb
  obtain ⟨A2, c2, rfl, hu2⟩ := hvt
  clear hu0 hu1 hu2
  generalize (Nt.dg 18446744073709551616 N0).length = n0 at *
  generalize (Nt.dg 18446744073709551616 N1).length = n1 at *
  generalize (Nt.dg 18446744073709551616 N2).length = n2 at *
  have hst := Tri.start w3 s0 A0 n0 c0 e0 s1 A1 n1 c1 e1 s2 A2 n2 c2 e2 61
  have OUT := Lib.hid (HB3.out.trans (hst.2.2.2.1.mono HB3.out.size))
  clear hst HVA3 HVB3 HVT
  go_wp2
  go_ret
  exact ⟨rfl, OUT.out⟩
end Go.Proofs.Ytgockebgcbmgoaa

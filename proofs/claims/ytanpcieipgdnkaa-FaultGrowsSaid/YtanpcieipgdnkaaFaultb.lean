/-
  Walks: fault's Turn and Ring.
-/
import Derived.Test.YtanpcieipgdnkaaFaulta
set_option linter.unusedVariables false
set_option linter.unusedSimpArgs false
namespace Go.Proofs.Ytanpcieipgdnkaa
open Go.RowKit

/-! ### the factors of the orders -/
def tA (k : Nat) : Nat := (Ieee.double.mul 4620693217682128896 (floatOfInt .f64 (k : Int))).getD 0
def tB (k : Nat) : Nat := (Ieee.double.mul (tA k) 4368491638549381120).getD 0
def tC (k : Nat) : Nat := if k = 0 then 0 else Fl.scl (tB k) k
def rN (k : Nat) : Nat := Fl.scl 4607182418800017408 k
def rA (k : Nat) : Nat := (Ieee.double.mul 4625196817309499392 (floatOfInt .f64 ((k : Int) + 1))).getD 0
def rB (k : Nat) : Nat := (Ieee.double.mul (rA k) 4368491638549381120).getD 0
def rC (k : Nat) : Nat := (Ieee.double.mul (rB k) (rN k)).getD 0
def rS (k : Nat) : Nat := Fl.sqrtF (rN k) true
theorem fac_t : ∀ k : Fin 15, Ieee.double.mul 4620693217682128896 (floatOfInt .f64 (k.val : Int)) = some (tA k.val) ∧ Ieee.double.mul (tA k.val) 4368491638549381120 = some (tB k.val) ∧ tB k.val < 2 * Fl.W ∧ Fl.rg (tB k.val) < Fl.I ∧ (k.val = 0 → tB k.val = 0) ∧ (k.val ≠ 0 → 0 < Fl.rg (tB k.val)) := by decide +kernel
theorem fac_r : ∀ k : Fin 15, Ieee.double.mul 4625196817309499392 (floatOfInt .f64 ((k.val : Int) + 1)) = some (rA k.val) ∧ Ieee.double.mul (rA k.val) 4368491638549381120 = some (rB k.val) ∧ Ieee.double.mul (rB k.val) (rN k.val) = some (rC k.val) ∧ rN k.val < 2 * Fl.W ∧ Fl.rg (rN k.val) < Fl.I ∧ 0 < Fl.rg (rN k.val) ∧ Fl.sg (rN k.val) = false ∧ rC k.val < 2 * Fl.W ∧ rS k.val < 2 * Fl.W := by decide +kernel
theorem fac_c : ∀ k : Fin 15, tC k.val < 2 * Fl.W ∧ Fl.rg (tC k.val) < Fl.I ∧ Fl.sg (tC k.val) = false := by decide +kernel
theorem cell_row (w : World) (cs : Array Value) (t : TypeId) (i : Nat) : (w.alloc (.cells cs t)).cell? ((⟨w.heap.size, 0, none⟩ : Addr).add i) = cs[i]? := by
  have h : (w.alloc (.cells cs t)).heap[w.heap.size]? = some (.cells cs t (0, 0)) := heap_alloc_new w _
  have e : (⟨w.heap.size, 0, none⟩ : Addr).add i = ⟨w.heap.size, i, none⟩ := by unfold Addr.add; split <;> simp_all
  rw [e]
  exact cell_of_row _ _ _ _ _ _ h
theorem fl_cells1 (w : World) (x : Nat) (t : TypeId) : FlsAt (w.alloc (.cells #[.float .f64 x] t)) (some ⟨w.heap.size, 0, none⟩) 1 (fun _ => x) := fun k hk => by
  obtain rfl : k = 0 := by omega
  exact ⟨_, rfl, by rw [cell_row]; rfl⟩
def z2 (a b : Nat) (k : Nat) : Nat := if k = 0 then a else b
def z3 (s a b : Nat) (k : Nat) : Nat := if k = 0 then s else if k = 1 then a else b
theorem fl_cells2 (w : World) (a b : Nat) (t : TypeId) : FlsAt (w.alloc (.cells #[.float .f64 a, .float .f64 b] t)) (some ⟨w.heap.size, 0, none⟩) 2 (z2 a b) := fun k hk => by
  refine ⟨_, rfl, ?_⟩
  rw [cell_row]
  rcases (show k = 0 ∨ k = 1 by omega) with rfl | rfl <;> rfl
theorem fl_cells3 (w : World) (s a b : Nat) (t : TypeId) : FlsAt (w.alloc (.cells #[.float .f64 s, .float .f64 a, .float .f64 b] t)) (some ⟨w.heap.size, 0, none⟩) 3 (z3 s a b) := fun k hk => by
  refine ⟨_, rfl, ?_⟩
  rw [cell_row]
  rcases (show k = 0 ∨ k = 1 ∨ k = 2 by omega) with rfl | rfl | rfl <;> rfl
theorem Dr.below2 {w w' : World} (h : Dr w w') (B : Nat) : Below B w w' := by
  obtain ⟨n, rfl⟩ := h
  exact ⟨rfl, rfl, rfl, Nat.le_refl _, fun _ _ => rfl⟩
/-- What Turn tells. -/
def TurnPost (order : Int) (x : Nat) (w : World) (e : Ending) (w' : World) : Prop :=
  ∃ s, e = .returned (.tuple #[.float .f64 s, .int .i64 (mayV order 1 (fun _ => x))]) ∧ (mayV order 1 (fun _ => x) ≠ 0 → s = 0) ∧ (mayV order 1 (fun _ => x) = 0 → ∃ u, Fl.Is (Fl.mulS (tC order.toNat) x true) u ∧ Fl.Is (Fl.addS u 103582791429521408 true) s) ∧ Below w.heap.size w w'
theorem may_order {order : Int} {n : Nat} {z : Nat → Nat} (h : mayV order n z = 0) : 0 ≤ order ∧ order ≤ 14 := by
  unfold mayV at h
  split at h
  · simp at h
  · omega
set_option maxRecDepth 100000 in
set_option maxHeartbeats 4000000 in
theorem turn_any (order : Int) (x : Nat) (w : World) (hx : x < 2 * Fl.W) :
    Calls Try.prog 9 #[.int .i64 order, .float .f64 x] w (TurnPost order x w) := by
  have hm := fun c => may_any order (some ⟨w.heap.size, 0, none⟩) 1 c (fun _ => x) (w.alloc (.cells #[.float .f64 x] 22)) (by decide) (fun _ => hx) (fl_cells1 w x _)
  have HB1 := Lib.hid ((Below.refl w.heap.size w).alloc (Nat.le_refl _) (.cells #[.float .f64 x] 22))
  obtain ⟨M, hM⟩ : ∃ M, M = mayV order 1 (fun _ => x) := ⟨_, rfl⟩
  unfold TurnPost
  rw [← hM] at hm ⊢
  have HM := Lib.hid hm
  have HMM := Lib.hid hM
  clear hm hM
  by_cases h0 : M = 0
  · subst h0
    obtain ⟨o1, o2⟩ := may_order HMM.out.symm
    obtain ⟨k, rfl⟩ : ∃ k : Nat, order = k := ⟨order.toNat, by omega⟩
    have hk : k ≤ 14 := by omega
    obtain ⟨f1, f2, f3, f4, f5, f6⟩ := fac_t ⟨k, by omega⟩
    obtain ⟨g1, g2, g3⟩ := fac_c ⟨k, by omega⟩
    have r1 := fun w => run_float_arith (P := Try.prog) w .mul 22 .f64 4620693217682128896 (floatOfInt .f64 (k : Int)) _ f1
    have r2 := fun w => run_float_arith (P := Try.prog) w .mul 22 .f64 (tA k) 4368491638549381120 _ f2
    have HL : Hid (∀ w, Calls Try.prog 23 #[.float .f64 (tB k), .int .i64 (k : Int)] w fun e w' => e = .returned (.float .f64 (tC k)) ∧ w = w') := Lib.hid (fun w => by
      unfold tC
      by_cases hz : k = 0
      · subst hz
        rw [if_pos rfl, f5 rfl]
        exact ldexp_zero 0 _ w (by decide)
      · rw [if_neg hz]
        exact ldexp_fin (tB k) k w f3 (f6 hz) f4 (by omega) (by omega))
    have HP := Lib.hid (fun (w1 : World) c => product_any (tC k) (some ⟨w1.heap.size, 0, none⟩) 1 c (fun _ => x) (w1.alloc (.cells #[.float .f64 x] 22)) (by decide) g1 (fun _ => hx) (fl_cells1 w1 x _))
    clear f1 f2 f3 f4 f5 f6 g1 g2 g3
    go_enter Try.func9, Try.ntmps9
    go_wp2_with fail
    refine (HM.out _).mono ?_
    rintro e w1 ⟨rfl, rfl⟩
    go_wp2_with fail
    refine (HL.out _).mono ?_
    rintro e w1 ⟨rfl, rfl⟩
    clear HM
    generalize w.alloc (.cells #[.float .f64 x] 22) = W at HB1 ⊢
    go_wp2_with fail
    refine (HP.out W _).mono ?_
    rintro e w2 ⟨u, s, ⟨u0, hu0, hu1⟩, hs, rfl, hd⟩
    have HU : Hid (Fl.Is (Fl.mulS (tC k) x true) u) := Lib.hid (by have e0 : u0 = tC k := hu0; rw [← e0]; exact hu1)
    have HS := Lib.hid hs
    have HB2 := Lib.hid ((HB1.out.alloc HB1.out.size _).trans (hd.below2 _))
    clear hu0 hu1 hs hd
    go_wp2
    go_ret2
    exact ⟨s, rfl, fun h => absurd rfl h, fun _ => ⟨u, HU.out, HS.out⟩, HB2.out⟩
  · have hne : (M == 0) = false := by simpa using h0
    have hne2 : (M != 0) = true := by simpa using h0
    have H0 := Lib.hid h0
    clear h0
    go_enter Try.func9, Try.ntmps9
    go_wp2_with fail
    refine (HM.out _).mono ?_
    rintro e w1 ⟨rfl, rfl⟩
    go_wp2
    go_ret2
    exact ⟨0, rfl, fun _ => rfl, fun h => absurd h H0.out, HB1.out⟩
/-- What Ring tells. -/
def RingPost (order : Int) (a b : Nat) (w : World) (e : Ending) (w' : World) : Prop :=
  ∃ s T, e = .returned (.tuple #[.float .f64 s, .int .i64 T]) ∧ (mayV order 2 (z2 a b) ≠ 0 → T = mayV order 2 (z2 a b) ∧ s = 0) ∧
    (mayV order 2 (z2 a b) = 0 → ∃ u r, ProdIs (rC order.toNat) (z3 (rS order.toNat) a b) 3 u ∧ Fl.Is (Fl.addS u 103582791429521408 true) r ∧ ((Fl.rg r = Fl.I ∧ T = 6 ∧ s = 0) ∨ (Fl.rg r ≠ Fl.I ∧ T = 0 ∧ s = r))) ∧ Below w.heap.size w w'
theorem Is_add_lt2 {a b s : Nat} {up : Bool} (ha : a < 2 * Fl.W) (hb : b < 2 * Fl.W) (h : Fl.Is (Fl.addS a b up) s) : s < 2 * Fl.W := by
  cases ho : Fl.addS a b up with
  | none => rw [ho] at h; exact h.2
  | some r =>
    rw [ho] at h
    have : s = r := h
    subst this
    unfold Fl.addS at ho
    split at ho
    · have hs : Fl.addF a b up = s := Option.some.inj ho
      rw [← hs]
      unfold Fl.addF
      split
      · unfold Fl.greatW; split
        · exact nearS_lt a b
        · exact Fl.wd_lt _ _ (by decide)
      · split
        · split
          · exact ha
          · split <;> decide
        · unfold Fl.sideW; split
          · exact Fl.next_lt _ _ (nearS_lt a b)
          · exact nearS_lt a b
    · exact Fl.add_lt ho
set_option maxRecDepth 100000 in
set_option maxHeartbeats 4000000 in
theorem ring_any (order : Int) (a b : Nat) (w : World) (ha : a < 2 * Fl.W) (hb : b < 2 * Fl.W) :
    Calls Try.prog 11 #[.int .i64 order, .float .f64 a, .float .f64 b] w (RingPost order a b w) := by
  have hz2 : ∀ k, z2 a b k < 2 * Fl.W := fun k => by unfold z2; split <;> assumption
  have hm := fun c => may_any order (some ⟨w.heap.size, 0, none⟩) 2 c (z2 a b) (w.alloc (.cells #[.float .f64 a, .float .f64 b] 22)) (by decide) hz2 (fl_cells2 w a b _)
  have HB1 := Lib.hid ((Below.refl w.heap.size w).alloc (Nat.le_refl _) (.cells #[.float .f64 a, .float .f64 b] 22))
  obtain ⟨M, hM⟩ : ∃ M, M = mayV order 2 (z2 a b) := ⟨_, rfl⟩
  unfold RingPost
  rw [← hM] at hm ⊢
  have HM := Lib.hid hm
  have HMM := Lib.hid hM
  clear hm hM
  by_cases h0 : M = 0
  · subst h0
    obtain ⟨o1, o2⟩ := may_order HMM.out.symm
    obtain ⟨k, rfl⟩ : ∃ k : Nat, order = k := ⟨order.toNat, by omega⟩
    have hk : k ≤ 14 := by omega
    obtain ⟨f1, f2, f3, f4, f5, f6, f7, f8, f9⟩ := fac_r ⟨k, by omega⟩
    have r1 := fun w => run_float_arith (P := Try.prog) w .mul 22 .f64 4625196817309499392 (floatOfInt .f64 ((k : Int) + 1)) _ f1
    have r2 := fun w => run_float_arith (P := Try.prog) w .mul 22 .f64 (rA k) 4368491638549381120 _ f2
    have r3 := fun w => run_float_arith (P := Try.prog) w .mul 22 .f64 (rB k) (rN k) _ f3
    have HL : Hid (∀ w, Calls Try.prog 23 #[.float .f64 4607182418800017408, .int .i64 (k : Int)] w fun e w' => e = .returned (.float .f64 (rN k)) ∧ w = w') := Lib.hid (fun w => ldexp_fin 4607182418800017408 k w (by decide) (by decide) (by decide) (by omega) (by omega))
    have HSQ : Hid (∀ w, Calls Try.prog 30 #[.float .f64 (rN k), .bool true] w fun e w' => e = .returned (.float .f64 (rS k)) ∧ Dr w w') := Lib.hid (fun w => sqrt_fine (rN k) true w f4 f5 f6 f7)
    have hz3 : ∀ j, z3 (rS k) a b j < 2 * Fl.W := fun j => by unfold z3; split; exact f9; split <;> assumption
    have HP := Lib.hid (fun (w1 : World) c => product_any (rC k) (some ⟨w1.heap.size, 0, none⟩) 3 c (z3 (rS k) a b) (w1.alloc (.cells #[.float .f64 (rS k), .float .f64 a, .float .f64 b] 22)) (by decide) f8 hz3 (fl_cells3 w1 (rS k) a b _))
    have HPL := Lib.hid (fun u r (hu : ProdIs (rC k) (z3 (rS k) a b) 3 u) (hr : Fl.Is (Fl.addS u 103582791429521408 true) r) => (show r < 2 * Fl.W from Is_add_lt2 (ProdIs_lt f8 hz3 hu) (by decide) hr))
    clear f1 f2 f3 f4 f5 f6 f7 f8 f9 hz3 hz2
    go_enter Try.func11, Try.ntmps11
    go_wp2_with fail
    refine (HM.out _).mono ?_
    rintro e w1 ⟨rfl, rfl⟩
    go_wp2_with fail
    refine (HL.out _).mono ?_
    rintro e w1 ⟨rfl, rfl⟩
    go_wp2_with fail
    refine (HSQ.out _).mono ?_
    rintro e w2 ⟨rfl, hd⟩
    have HB2 := Lib.hid (HB1.out.trans (hd.below2 _))
    clear hd
    go_wp2_with fail
    refine (HP.out w2 _).mono ?_
    rintro e w3 ⟨u, s, hu, hs, rfl, hd⟩
    have hsl := HPL.out u s hu hs
    have HU := Lib.hid hu
    have HS := Lib.hid hs
    have HB3 := Lib.hid ((HB2.out.alloc HB2.out.size (.cells #[.float .f64 (rS k), .float .f64 a, .float .f64 b] 22)).trans (hd.below2 _))
    clear hu hs hd
    go_wp2_with fail
    refine (isinf_any s _ hsl).mono ?_
    rintro e w4 ⟨rfl, rfl⟩
    by_cases hI : Fl.rg s = Fl.I
    · have hdI : decide (Fl.rg s = Fl.I) = true := decide_eq_true hI
      have HI := Lib.hid hI
      rw [hdI]
      clear hI hdI
      go_wp2
      go_ret2
      exact ⟨0, 6, rfl, fun h => absurd rfl h, fun _ => ⟨u, s, HU.out, HS.out, .inl ⟨HI.out, rfl, rfl⟩⟩, HB3.out⟩
    · have hdI : decide (Fl.rg s = Fl.I) = false := decide_eq_false hI
      have HI := Lib.hid hI
      rw [hdI]
      clear hI hdI
      go_wp2
      go_ret2
      exact ⟨s, 0, rfl, fun h => absurd rfl h, fun _ => ⟨u, s, HU.out, HS.out, .inr ⟨HI.out, rfl, rfl⟩⟩, HB3.out⟩
  · have hne : (M == 0) = false := by simpa using h0
    have hne2 : (M != 0) = true := by simpa using h0
    have H0 := Lib.hid h0
    clear h0
    go_enter Try.func11, Try.ntmps11
    go_wp2_with fail
    refine (HM.out _).mono ?_
    rintro e w1 ⟨rfl, rfl⟩
    go_wp2
    go_ret2
    exact ⟨0, M, rfl, fun _ => ⟨rfl, rfl⟩, fun h => absurd h H0.out, HB1.out⟩
end Go.Proofs.Ytanpcieipgdnkaa

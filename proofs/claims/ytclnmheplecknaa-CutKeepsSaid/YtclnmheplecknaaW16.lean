/-
  rosetteref09's up: the least float that is not below a number.
  rosetteref09's up: the least float that is not below a number.
  Walk of rosetteref09's up where Nearest tells infinity.
  Walk of rosetteref09's up.
  Walks: what the laws of fault use: Pick, tame, is, Nextafter, Roots, awake.
  Plain facts: bounds upward grow with what they are of, and of twice as much are at most twice as great.
  Walks: fault's Turn and Ring.
  Walks: fault's may and product.
-/
import Derived.Test.YtclnmheplecknaaW15
import Derived.LoopTactic
import Derived.Below
import Derived.Deep.RegionWith
set_option linter.unusedVariables false
set_option linter.unusedSimpArgs false
namespace Go.Proofs.Ytclnmheplecknaa
open Go.RowKit

/-- Is a size none? Is it too great? -/
def badB (x : Nat) : Bool := decide (Fl.I ≤ Fl.rg x) || (Fl.sg x && decide (0 < Fl.rg x))
def overB (x : Nat) : Bool := !Fl.sg x && decide (8660422083433463808 < Fl.rg x)
def mayV (order : Int) (n : Nat) (z : Nat → Nat) : Int :=
  if order < 0 ∨ 14 < order then 2 else if ((List.range n).any fun k => badB (z k)) = true then 5 else if ((List.range n).any fun k => overB (z k)) = true then 6 else 0
def FlsAt (w : World) (A : Option Addr) (n : Nat) (z : Nat → Nat) : Prop := ∀ k, k < n → ∃ ad, A = some ad ∧ w.cell? (ad.add k) = some (.float .f64 (z k))
theorem any_yes {n k : Nat} {p : Nat → Bool} (hk : k < n) (h : p k = true) : ((List.range n).any p) = true := by
  rw [List.any_eq_true]; exact ⟨k, List.mem_range.2 hk, h⟩
theorem any_no {n : Nat} {p : Nat → Bool} (h : ∀ k, k < n → p k = false) : ((List.range n).any p) = false := by
  rw [List.any_eq_false]; intro k hk; rw [h k (List.mem_range.1 hk)]; simp
theorem isnan_yes (x : Nat) (w : World) (h : Fl.I < Fl.rg x) : Calls Try.prog 108 #[.float .f64 x] w fun e w' => e = .returned (.bool true) ∧ w = w' := by
  have h1 := Fl.cmp_nan x x h
  go_enter Try.func108, Try.ntmps108
  go_wp2
  go_ret
  exact ⟨rfl, rfl⟩
theorem over_ord (x : Nat) (h : badB x = false) : (FloatKind.f64.format.order x 8660422083433463808 == some .gt) = overB x := by
  unfold badB at h
  simp only [Bool.or_eq_false_iff, decide_eq_false_iff_not, Nat.not_le, Bool.and_eq_false_iff, Nat.not_lt] at h
  obtain ⟨h1, h2⟩ := h
  have e : FloatKind.f64.format.order x 8660422083433463808 = some (compare (Fl.key x) (Fl.key 8660422083433463808)) := Fl.order_key _ _ (Nat.le_of_lt h1) (by decide)
  have k : Fl.key 8660422083433463808 = 8660422083433463808 := by decide
  rw [e, k, Fl.compare_int]
  unfold overB Fl.key
  cases hs : Fl.sg x
  · simp only [Bool.false_eq_true, if_false, Bool.not_false, Bool.true_and]
    by_cases h3 : 8660422083433463808 < Fl.rg x
    · rw [if_neg (by omega), if_neg (by omega), decide_eq_true h3]; rfl
    · rw [decide_eq_false h3]
      by_cases h4 : (Fl.rg x : Int) < 8660422083433463808
      · rw [if_pos h4]; rfl
      · rw [if_neg h4, if_pos (by omega)]; rfl
  · simp only [if_true, Bool.not_true, Bool.false_and]
    rw [if_pos (by omega)]; rfl
set_option maxRecDepth 100000 in
set_option maxHeartbeats 2000000 in
theorem may_any (order : Int) (A : Option Addr) (n c : Nat) (z : Nat → Nat) (w : World) (hn : n ≤ 100) (hz : ∀ k, z k < 2 * Fl.W) (hr : FlsAt w A n z) :
    Calls Try.prog 79 #[.int .i64 order, .slice A n c] w fun e w' => e = .returned (.int .i64 (mayV order n z)) ∧ w = w' := by
  obtain ⟨T, hT⟩ : ∃ T, T = mayV order n z := ⟨_, rfl⟩
  rw [← hT]
  unfold mayV at hT
  have HR := Lib.hid hr
  clear hr
  by_cases h0 : order < 0
  · rw [if_pos (.inl h0)] at hT
    subst hT
    go_enter Try.func79, Try.ntmps79
    go_wp2
    go_ret
    exact ⟨rfl, rfl⟩
  · by_cases h14 : 14 < order
    · rw [if_pos (.inr h14)] at hT
      subst hT
      go_enter Try.func79, Try.ntmps79
      go_wp2
      go_ret
      exact ⟨rfl, rfl⟩
    · rw [if_neg (by omega)] at hT
      have HT := Lib.hid hT
      have HZ := Lib.hid hz
      clear hT hz
      go_enter Try.func79, Try.ntmps79
      go_wp2_with fail
      go_loop [17] (fun t => ∃ k : Nat, k ≤ n ∧ t = .int .i64 k ∧ Hid (∀ j, j < k → badB (z j) = false)) (fun t => n - (intOf t).toNat)
      case atStart => exact ⟨0, Nat.zero_le _, rfl, Lib.hid (fun j hj => absurd hj (Nat.not_lt_zero j))⟩
      case round =>
        obtain ⟨k, hk, rfl, hgood⟩ := hrel
        by_cases hlt : k < n
        · obtain ⟨ad, rfl, hc⟩ := HR.out k hlt
          have hzk := HZ.out k
          have hbad : badB (z k) = true → T = 5 := fun h => by rw [HT.out, if_pos (any_yes hlt h)]
          have HBAD := Lib.hid hbad
          clear hbad
          have HG : Hid (badB (z k) = false → ∀ j, j < k + 1 → badB (z j) = false) := Lib.hid (fun h j hj => by
            rcases Nat.lt_or_ge j k with h1 | h1
            · exact hgood.out j h1
            · rw [show j = k by omega]; exact h)
          generalize z k = x at *
          rcases Nat.lt_trichotomy Fl.I (Fl.rg x) with h1 | h1 | h1
          · have HA := Lib.hid (HBAD.out (by unfold badB; rw [decide_eq_true (by omega)]; rfl))
            go_wp2_with fail
            refine (isnan_yes x _ h1).mono ?_
            rintro e w' ⟨rfl, rfl⟩
            go_wp2
            go_ret
            exact ⟨by rw [HA.out]; rfl, rfl⟩
          · have HA := Lib.hid (HBAD.out (by unfold badB; rw [decide_eq_true (by omega)]; rfl))
            have hI : decide (Fl.rg x = Fl.I) = true := decide_eq_true h1.symm
            go_wp2_with fail
            refine (isnan_no x _ (by omega)).mono ?_
            rintro e w' ⟨rfl, rfl⟩
            go_wp2_with fail
            refine (isinf_any x _ hzk).mono ?_
            rintro e w' ⟨rfl, rfl⟩
            rw [hI]
            go_wp2
            go_ret
            exact ⟨by rw [HA.out]; rfl, rfl⟩
          · have hI : decide (Fl.rg x = Fl.I) = false := decide_eq_false (by omega)
            by_cases hneg : Fl.sg x = true ∧ 0 < Fl.rg x
            · have HA := Lib.hid (HBAD.out (by unfold badB; rw [hneg.1, decide_eq_true hneg.2]; simp))
              have ho := Fl.cmp0_lt x hneg.2 (Nat.le_of_lt h1) hneg.1
              clear hneg
              go_wp2_with fail
              refine (isnan_no x _ (by omega)).mono ?_
              rintro e w' ⟨rfl, rfl⟩
              go_wp2_with fail
              refine (isinf_any x _ hzk).mono ?_
              rintro e w' ⟨rfl, rfl⟩
              rw [hI]
              go_wp2
              go_ret
              exact ⟨by rw [HA.out]; rfl, rfl⟩
            · have hb : badB x = false := by
                unfold badB
                rw [decide_eq_false (by omega)]
                cases hs : Fl.sg x
                · rfl
                · rw [decide_eq_false (fun h => hneg ⟨hs, h⟩)]; rfl
              have HB := Lib.hid (HG.out hb)
              have ho : (FloatKind.f64.format.order x 0 == some .lt) = false := by
                by_cases hz0 : Fl.rg x = 0
                · rw [Fl.cmp0_eq x hz0]; rfl
                · rw [Fl.cmp0_gt x (by omega) (Nat.le_of_lt h1) (by
                    cases hs : Fl.sg x
                    · rfl
                    · exact absurd ⟨hs, by omega⟩ hneg)]; rfl
              clear hneg hb
              go_wp2_with fail
              refine (isnan_no x _ (by omega)).mono ?_
              rintro e w' ⟨rfl, rfl⟩
              go_wp2_with fail
              refine (isinf_any x _ hzk).mono ?_
              rintro e w' ⟨rfl, rfl⟩
              rw [hI]
              go_wp2
              go_round
              case rel => exact ⟨k + 1, hlt, by go_num, HB⟩
              case measure => simp [intOf]; omega
        · have hkn : k = n := by omega
          subst hkn
          have HT2 : Hid (T = if ((List.range k).any fun k => overB (z k)) = true then 6 else 0) := Lib.hid (by rw [HT.out, any_no hgood.out]; rfl)
          have HGOOD := hgood
          clear hgood
          go_wp2_with fail
          go_loop [34] (fun t => ∃ j : Nat, j ≤ k ∧ t = .int .i64 j ∧ Hid (∀ i, i < j → overB (z i) = false)) (fun t => k - (intOf t).toNat)
          case atStart => exact ⟨0, Nat.zero_le _, rfl, Lib.hid (fun j hj => absurd hj (Nat.not_lt_zero j))⟩
          case round =>
            obtain ⟨j, hj, rfl, hgood⟩ := hrel
            by_cases hlt2 : j < k
            · obtain ⟨ad, rfl, hc⟩ := HR.out j hlt2
              have ho := over_ord (z j) (HGOOD.out j hlt2)
              have HBAD : Hid (overB (z j) = true → T = 6) := Lib.hid (fun h => by rw [HT2.out, if_pos (any_yes hlt2 h)])
              have HG : Hid (overB (z j) = false → ∀ i, i < j + 1 → overB (z i) = false) := Lib.hid (fun h i hi => by
                rcases Nat.lt_or_ge i j with h1 | h1
                · exact hgood.out i h1
                · rw [show i = j by omega]; exact h)
              cases hov : overB (z j)
              · rw [hov] at ho
                have HB := Lib.hid (HG.out hov)
                clear hov
                go_wp2
                go_round
                case rel => exact ⟨j + 1, hlt2, by go_num, HB⟩
                case measure => simp [intOf]; omega
              · rw [hov] at ho
                have HA := Lib.hid (HBAD.out hov)
                clear hov
                go_wp2
                go_ret
                exact ⟨by rw [HA.out]; rfl, rfl⟩
            · have hjk : j = k := by omega
              subst hjk
              have HA : Hid (T = 0) := Lib.hid (by rw [HT2.out, any_no hgood.out]; rfl)
              clear hgood
              go_wp2
              go_ret
              exact ⟨by rw [HA.out]; rfl, rfl⟩
/-- Products upward, from x on: what they may be (each NaN is any). -/
def ProdIs (x : Nat) (z : Nat → Nat) : Nat → Nat → Prop
  | 0, s => s = x
  | k + 1, s => ∃ u, ProdIs x z k u ∧ Fl.Is (Fl.mulS u (z k) true) s
theorem Fl.Is_lt_mul2 {a b s : Nat} {up : Bool} (ha : a < 2 * Fl.W) (hb : b < 2 * Fl.W) (h : Fl.Is (Fl.mulS a b up) s) : s < 2 * Fl.W := by
  cases ho : Fl.mulS a b up with
  | none => rw [ho] at h; exact h.2
  | some r =>
    rw [ho] at h
    have : s = r := h
    subst this
    unfold Fl.mulS at ho
    split at ho
    · have hs : Fl.mulF a b up = s := Option.some.inj ho
      rw [← hs]
      unfold Fl.mulF
      split
      · unfold Fl.greatW; split
        · exact nearM_lt a b
        · exact Fl.wd_lt _ _ (by decide)
      · unfold Fl.sideW; split
        · exact Fl.next_lt _ _ (nearM_lt a b)
        · exact nearM_lt a b
    · exact Fl.mul_lt ho
theorem ProdIs_lt {x : Nat} {z : Nat → Nat} (hx : x < 2 * Fl.W) (hz : ∀ k, z k < 2 * Fl.W) : ∀ {n s : Nat}, ProdIs x z n s → s < 2 * Fl.W
  | 0, s, h => by have : s = x := h; subst this; exact hx
  | k + 1, s, ⟨u, h1, h2⟩ => Fl.Is_lt_mul2 (ProdIs_lt hx hz h1) (hz k) h2
/-- What product tells. -/
def ProdPost (x : Nat) (z : Nat → Nat) (n : Nat) (w : World) (e : Ending) (w' : World) : Prop := ∃ u s, ProdIs x z n u ∧ Fl.Is (Fl.addS u 103582791429521408 true) s ∧ e = .returned (.float .f64 s) ∧ Dr w w'
set_option maxRecDepth 100000 in
set_option maxHeartbeats 2000000 in
theorem fproduct_any (x : Nat) (A : Option Addr) (n c : Nat) (z : Nat → Nat) (w : World) (hn : n ≤ 100) (hx : x < 2 * Fl.W) (hz : ∀ k, z k < 2 * Fl.W) (hr : FlsAt w A n z) :
    Calls Try.prog 80 #[.float .f64 x, .slice A n c] w (ProdPost x z n w) := by
  have HR := Lib.hid hr
  have HZ := Lib.hid hz
  have hl : (103582791429521408 : Nat) < 2 * Fl.W := by decide
  have HL := Lib.hid hl
  have HX := Lib.hid hx
  clear hr hz hl hx
  go_enter Try.func80, Try.ntmps80
  go_wp2_with fail
  go_loopw [0, 9] (fun v t wr => ∃ k s : Nat, k ≤ n ∧ t = .int .i64 k ∧ v = .float .f64 s ∧ ProdIs x z k s ∧ Dr w wr) (fun _ t _ => n - (intOf t).toNat)
  case atStart => exact ⟨0, x, Nat.zero_le _, rfl, rfl, rfl, Dr.refl w⟩
  case round =>
    obtain ⟨k, s, hk, rfl, rfl, hs, hd⟩ := hrel
    have HS := Lib.hid hs
    have HD := Lib.hid hd
    have hsl := ProdIs_lt HX.out HZ.out hs
    clear hs hd
    by_cases hlt : k < n
    · have hcell : ∃ ad, A = some ad ∧ wr.cell? (ad.add k) = some (.float .f64 (z k)) := by
        obtain ⟨ad, hA, hc⟩ := HR.out k hlt
        obtain ⟨m, rfl⟩ := HD.out
        exact ⟨ad, hA, hc⟩
      obtain ⟨ad, rfl, hc⟩ := hcell
      go_wp2_with fail
      refine (mul_any s (z k) true _ hsl (HZ.out k)).mono ?_
      rintro e w1 ⟨t, rfl, ht, hdt⟩
      have HT := Lib.hid ht
      have HE := Lib.hid (HD.out.trans hdt)
      clear ht hdt
      go_wp2
      go_roundw
      case rel => exact ⟨k + 1, t, hlt, by go_num, rfl, ⟨s, HS.out, HT.out⟩, HE.out⟩
      case measure => simp [intOf]; omega
    · have hkn : k = n := by omega
      subst hkn
      go_wp2_with fail
      refine (add_any s 103582791429521408 true _ hsl HL.out).mono ?_
      rintro e w1 ⟨t, rfl, ht, hdt⟩
      have HT := Lib.hid ht
      have HE := Lib.hid (HD.out.trans hdt)
      clear ht hdt
      go_wp2
      go_ret
      exact ⟨s, t, HS.out, HT.out, rfl, HE.out⟩
end Go.Proofs.Ytclnmheplecknaa

namespace Go.Proofs.Ytclnmheplecknaa
open Go.RowKit

/-! ### the factors of the orders -/
def tA (k : Nat) : Nat := (Ieee.double.mul 4620693217682128896 (floatOfInt .f64 (k : Int))).getD 0
def tB (k : Nat) : Nat := (Ieee.double.mul (tA k) 4368491638549381120).getD 0
def tC (k : Nat) : Nat := if k = 0 then 0 else Fl.scl (tB k) k
def rN (k : Nat) : Nat := Fl.scl 4607182418800017408 k
def rA (k : Nat) : Nat := (Ieee.double.mul 4625196817309499392 (floatOfInt .f64 ((k : Int) + 1))).getD 0
def rB (k : Nat) : Nat := (Ieee.double.mul (rA k) 4368491638549381120).getD 0
def rC (k : Nat) : Nat := (Ieee.double.mul (rB k) (rN k)).getD 0
def rS (k : Nat) : Nat := Fl.sqrtF (rN k) true
theorem fac_t : ∀ k : Fin 15, Ieee.double.mul 4620693217682128896 (floatOfInt .f64 (k.val : Int)) = some (tA k.val) ∧ Ieee.double.mul (tA k.val) 4368491638549381120 = some (tB k.val) ∧ tB k.val < 2 * Fl.W ∧ Fl.rg (tB k.val) < Fl.I ∧ (k.val = 0 → tB k.val = 0) ∧ (k.val ≠ 0 → 0 < Fl.rg (tB k.val)) := by decide +kernel
theorem fac_r : ∀ k : Fin 15, Ieee.double.mul 4625196817309499392 (floatOfInt .f64 ((k.val : Int) + 1)) = some (rA k.val) ∧ Ieee.double.mul (rA k.val) 4368491638549381120 = some (rB k.val) ∧ Ieee.double.mul (rB k.val) (rN k.val) = some (rC k.val) ∧ rN k.val < 2 * Fl.W ∧ Fl.rg (rN k.val) < Fl.I ∧ 0 < Fl.rg (rN k.val) ∧ Fl.sg (rN k.val) = false ∧ rC k.val < 2 * Fl.W ∧ rS k.val < 2 * Fl.W := by decide +kernel
theorem fac_c : ∀ k : Fin 15, tC k.val < 2 * Fl.W ∧ Fl.rg (tC k.val) < Fl.I ∧ Fl.sg (tC k.val) = false := by decide +kernel
theorem cell_row (w : World) (cs : Array Value) (t : TypeId) (i : Nat) : (w.alloc (.cells cs t)).cell? ((⟨w.heap.size, 0, none⟩ : Addr).add i) = cs[i]? := by
  have h : (w.alloc (.cells cs t)).heap[w.heap.size]? = some (.cells cs t (0, 0)) := heap_alloc_new w _
  have e : (⟨w.heap.size, 0, none⟩ : Addr).add i = ⟨w.heap.size, i, none⟩ := by unfold Addr.add; split <;> simp_all
  rw [e]
  exact cell_of_row _ _ _ _ _ _ h
theorem fl_cells1 (w : World) (x : Nat) (t : TypeId) : FlsAt (w.alloc (.cells #[.float .f64 x] t)) (some ⟨w.heap.size, 0, none⟩) 1 (fun _ => x) := fun k hk => by
  obtain rfl : k = 0 := by omega
  exact ⟨_, rfl, by rw [cell_row]; rfl⟩
def z2 (a b : Nat) (k : Nat) : Nat := if k = 0 then a else b
def z3 (s a b : Nat) (k : Nat) : Nat := if k = 0 then s else if k = 1 then a else b
theorem fl_cells2 (w : World) (a b : Nat) (t : TypeId) : FlsAt (w.alloc (.cells #[.float .f64 a, .float .f64 b] t)) (some ⟨w.heap.size, 0, none⟩) 2 (z2 a b) := fun k hk => by
  refine ⟨_, rfl, ?_⟩
  rw [cell_row]
  rcases (show k = 0 ∨ k = 1 by omega) with rfl | rfl <;> rfl
theorem fl_cells3 (w : World) (s a b : Nat) (t : TypeId) : FlsAt (w.alloc (.cells #[.float .f64 s, .float .f64 a, .float .f64 b] t)) (some ⟨w.heap.size, 0, none⟩) 3 (z3 s a b) := fun k hk => by
  refine ⟨_, rfl, ?_⟩
  rw [cell_row]
  rcases (show k = 0 ∨ k = 1 ∨ k = 2 by omega) with rfl | rfl | rfl <;> rfl
theorem Dr.below2 {w w' : World} (h : Dr w w') (B : Nat) : Below B w w' := by
  obtain ⟨n, rfl⟩ := h
  exact ⟨rfl, rfl, rfl, Nat.le_refl _, fun _ _ => rfl⟩
/-- What Turn tells. -/
def TurnPost (order : Int) (x : Nat) (w : World) (e : Ending) (w' : World) : Prop :=
  ∃ s, e = .returned (.tuple #[.float .f64 s, .int .i64 (mayV order 1 (fun _ => x))]) ∧ (mayV order 1 (fun _ => x) ≠ 0 → s = 0) ∧ (mayV order 1 (fun _ => x) = 0 → ∃ u, Fl.Is (Fl.mulS (tC order.toNat) x true) u ∧ Fl.Is (Fl.addS u 103582791429521408 true) s) ∧ Below w.heap.size w w'
theorem may_order {order : Int} {n : Nat} {z : Nat → Nat} (h : mayV order n z = 0) : 0 ≤ order ∧ order ≤ 14 := by
  unfold mayV at h
  split at h
  · simp at h
  · omega
/-- What Ring tells. -/
def RingPost (order : Int) (a b : Nat) (w : World) (e : Ending) (w' : World) : Prop :=
  ∃ s T, e = .returned (.tuple #[.float .f64 s, .int .i64 T]) ∧ (mayV order 2 (z2 a b) ≠ 0 → T = mayV order 2 (z2 a b) ∧ s = 0) ∧
    (mayV order 2 (z2 a b) = 0 → ∃ u r, ProdIs (rC order.toNat) (z3 (rS order.toNat) a b) 3 u ∧ Fl.Is (Fl.addS u 103582791429521408 true) r ∧ ((Fl.rg r = Fl.I ∧ T = 6 ∧ s = 0) ∨ (Fl.rg r ≠ Fl.I ∧ T = 0 ∧ s = r))) ∧ Below w.heap.size w w'
theorem Is_add_lt2 {a b s : Nat} {up : Bool} (ha : a < 2 * Fl.W) (hb : b < 2 * Fl.W) (h : Fl.Is (Fl.addS a b up) s) : s < 2 * Fl.W := by
  cases ho : Fl.addS a b up with
  | none => rw [ho] at h; exact h.2
  | some r =>
    rw [ho] at h
    have : s = r := h
    subst this
    unfold Fl.addS at ho
    split at ho
    · have hs : Fl.addF a b up = s := Option.some.inj ho
      rw [← hs]
      unfold Fl.addF
      split
      · unfold Fl.greatW; split
        · exact nearS_lt a b
        · exact Fl.wd_lt _ _ (by decide)
      · split
        · split
          · exact ha
          · split <;> decide
        · unfold Fl.sideW; split
          · exact Fl.next_lt _ _ (nearS_lt a b)
          · exact nearS_lt a b
    · exact Fl.add_lt ho
set_option maxRecDepth 100000 in
set_option maxHeartbeats 4000000 in
theorem ring_any (order : Int) (a b : Nat) (w : World) (ha : a < 2 * Fl.W) (hb : b < 2 * Fl.W) :
    Calls Try.prog 52 #[.int .i64 order, .float .f64 a, .float .f64 b] w (RingPost order a b w) := by
  have hz2 : ∀ k, z2 a b k < 2 * Fl.W := fun k => by unfold z2; split <;> assumption
  have hm := fun c => may_any order (some ⟨w.heap.size, 0, none⟩) 2 c (z2 a b) (w.alloc (.cells #[.float .f64 a, .float .f64 b] 71)) (by decide) hz2 (fl_cells2 w a b _)
  have HB1 := Lib.hid ((Below.refl w.heap.size w).alloc (Nat.le_refl _) (.cells #[.float .f64 a, .float .f64 b] 71))
  obtain ⟨M, hM⟩ : ∃ M, M = mayV order 2 (z2 a b) := ⟨_, rfl⟩
  unfold RingPost
  rw [← hM] at hm ⊢
  have HM := Lib.hid hm
  have HMM := Lib.hid hM
  clear hm hM
  by_cases h0 : M = 0
  · subst h0
    obtain ⟨o1, o2⟩ := may_order HMM.out.symm
    obtain ⟨k, rfl⟩ : ∃ k : Nat, order = k := ⟨order.toNat, by omega⟩
    have hk : k ≤ 14 := by omega
    obtain ⟨f1, f2, f3, f4, f5, f6, f7, f8, f9⟩ := fac_r ⟨k, by omega⟩
    have r1 := fun w => run_float_arith (P := Try.prog) w .mul 71 .f64 4625196817309499392 (floatOfInt .f64 ((k : Int) + 1)) _ f1
    have r2 := fun w => run_float_arith (P := Try.prog) w .mul 71 .f64 (rA k) 4368491638549381120 _ f2
    have r3 := fun w => run_float_arith (P := Try.prog) w .mul 71 .f64 (rB k) (rN k) _ f3
    have HL : Hid (∀ w, Calls Try.prog 51 #[.float .f64 4607182418800017408, .int .i64 (k : Int)] w fun e w' => e = .returned (.float .f64 (rN k)) ∧ w = w') := Lib.hid (fun w => ldexp_fin 4607182418800017408 k w (by decide) (by decide) (by decide) (by omega) (by omega))
    have HSQ : Hid (∀ w, Calls Try.prog 81 #[.float .f64 (rN k), .bool true] w fun e w' => e = .returned (.float .f64 (rS k)) ∧ Dr w w') := Lib.hid (fun w => sqrt_fine (rN k) true w f4 f5 f6 f7)
    have hz3 : ∀ j, z3 (rS k) a b j < 2 * Fl.W := fun j => by unfold z3; split; exact f9; split <;> assumption
    have HP := Lib.hid (fun (w1 : World) c => fproduct_any (rC k) (some ⟨w1.heap.size, 0, none⟩) 3 c (z3 (rS k) a b) (w1.alloc (.cells #[.float .f64 (rS k), .float .f64 a, .float .f64 b] 71)) (by decide) f8 hz3 (fl_cells3 w1 (rS k) a b _))
    have HPL := Lib.hid (fun u r (hu : ProdIs (rC k) (z3 (rS k) a b) 3 u) (hr : Fl.Is (Fl.addS u 103582791429521408 true) r) => (show r < 2 * Fl.W from Is_add_lt2 (ProdIs_lt f8 hz3 hu) (by decide) hr))
    clear f1 f2 f3 f4 f5 f6 f7 f8 f9 hz3 hz2
    go_enter Try.func52, Try.ntmps52
    go_wp2_with fail
    refine (HM.out _).mono ?_
    rintro e w1 ⟨rfl, rfl⟩
    go_wp2_with fail
    refine (HL.out _).mono ?_
    rintro e w1 ⟨rfl, rfl⟩
    go_wp2_with fail
    refine (HSQ.out _).mono ?_
    rintro e w2 ⟨rfl, hd⟩
    have HB2 := Lib.hid (HB1.out.trans (hd.below2 _))
    clear hd
    go_wp2_with fail
    refine (HP.out w2 _).mono ?_
    rintro e w3 ⟨u, s, hu, hs, rfl, hd⟩
    have hsl := HPL.out u s hu hs
    have HU := Lib.hid hu
    have HS := Lib.hid hs
    have HB3 := Lib.hid ((HB2.out.alloc HB2.out.size (.cells #[.float .f64 (rS k), .float .f64 a, .float .f64 b] 71)).trans (hd.below2 _))
    clear hu hs hd
    go_wp2_with fail
    refine (isinf_any s _ hsl).mono ?_
    rintro e w4 ⟨rfl, rfl⟩
    by_cases hI : Fl.rg s = Fl.I
    · have hdI : decide (Fl.rg s = Fl.I) = true := decide_eq_true hI
      have HI := Lib.hid hI
      rw [hdI]
      clear hI hdI
      go_wp2
      go_ret2
      exact ⟨0, 6, rfl, fun h => absurd rfl h, fun _ => ⟨u, s, HU.out, HS.out, .inl ⟨HI.out, rfl, rfl⟩⟩, HB3.out⟩
    · have hdI : decide (Fl.rg s = Fl.I) = false := decide_eq_false hI
      have HI := Lib.hid hI
      rw [hdI]
      clear hI hdI
      go_wp2
      go_ret2
      exact ⟨s, 0, rfl, fun h => absurd rfl h, fun _ => ⟨u, s, HU.out, HS.out, .inr ⟨HI.out, rfl, rfl⟩⟩, HB3.out⟩
  · have hne : (M == 0) = false := by simpa using h0
    have hne2 : (M != 0) = true := by simpa using h0
    have H0 := Lib.hid h0
    clear h0
    go_enter Try.func52, Try.ntmps52
    go_wp2_with fail
    refine (HM.out _).mono ?_
    rintro e w1 ⟨rfl, rfl⟩
    go_wp2
    go_ret2
    exact ⟨0, M, rfl, fun _ => ⟨rfl, rfl⟩, fun h => absurd h H0.out, HB1.out⟩
end Go.Proofs.Ytclnmheplecknaa

namespace Go.Proofs.Ytclnmheplecknaa
namespace Fl
open Ieee

/-- Finite, not below 0. -/
def Pos (x : Nat) : Prop := rg x < I ∧ 0 ≤ key x
theorem vl_le {x y : Nat} : vl x ≤ vl y ↔ key x ≤ key y := by rw [vl_key, vl_key]; exact V_le_iff
theorem Pos.vl {x : Nat} (h : Pos x) : 0 ≤ vl x := by rw [vl_key, ← V_zero]; exact V_le h.2
theorem DirW.exact (k d w : Nat) (hk : k < I) (h : key w = k) (hw : rg w ≤ I) : DirW true (V k * 2 ^ d) d w := by
  refine ⟨hw, (k : Int), ?_, ?_⟩
  · unfold Dir
    rw [if_pos rfl]
    exact ⟨Int.le_refl _, Int.mul_lt_mul_of_pos_right (V_lt (by omega)) (pow_pos_int d)⟩
  · rw [h]
    unfold clamp
    rw [if_pos rfl]
    have : (0 : Int) < I := by decide
    generalize I = i at *
    omega
theorem DirW.nonneg {n : Int} {d w : Nat} (h : DirW true n d w) (hn : 0 ≤ n) : 0 ≤ key w := by
  have h0 := DirW.zero true d 0 (by decide)
  have := DirW.mono h0 h (.inr rfl) (by rw [Int.zero_mul]; exact Int.mul_nonneg hn (Int.le_of_lt (pow_pos_int d)))
  rwa [show key 0 = 0 by decide] at this
theorem DirW.grow {n m : Int} {d w x : Nat} (h1 : DirW true n d w) (h2 : DirW true m d x) (h : n ≤ m) : key w ≤ key x :=
  DirW.mono h1 h2 (.inr rfl) (Int.mul_le_mul_of_nonneg_right h (Int.le_of_lt (pow_pos_int d)))
theorem key_pos_rg {x : Nat} (h : 0 ≤ key x) : key x = rg x := by
  unfold key at *
  split
  · rename_i hs; rw [if_pos hs] at h; omega
  · rfl
theorem fin_of_le {x y : Nat} (hx : rg x ≤ I) (h : key x ≤ key y) (h0 : 0 ≤ key x) (hy : rg y < I) : rg x < I := by
  rw [key_pos_rg h0] at h
  have := (key_fin_range hy).2
  omega
/-- Twice a rung. -/
theorem dbl_rung (r : Nat) : ∃ t, rv t = 2 * rv r ∧ t ≤ r + B := by
  by_cases h : r < B
  · refine ⟨2 * r, ?_, by omega⟩
    have e1 := rv_of 0 r (by omega) (.inl rfl)
    have e2 := rv_of 0 (2 * r) (by omega) (.inl rfl)
    simp only [Nat.zero_mul, Nat.zero_add, Nat.pow_zero, Nat.mul_one] at e1 e2
    rw [e1, e2]
  · refine ⟨r + B, ?_, Nat.le_refl _⟩
    have hm := mant_lt r
    have hx := ex_mant r
    have hg : ex r = 0 ∨ B ≤ mant r := mant_ge r
    have hB : B ≤ mant r := by
      rcases hg with h0 | h0
      · rw [h0] at hx; omega
      · exact h0
    have e1 := rv_of (ex r) (mant r) (by omega) hg
    have e2 := rv_of (ex r + 1) (mant r) (by omega) (.inr hB)
    rw [← hx] at e1
    rw [show (ex r + 1) * B + mant r = r + B by rw [Nat.add_mul]; omega] at e2
    rw [e2, e1, Nat.pow_succ]
    generalize 2 ^ ex r = P
    generalize mant r = m
    grind
theorem DirW.twice {n m : Int} {d s t : Nat} (h1 : DirW true n d s) (h2 : DirW true m d t) (hn : 0 ≤ n) (hm : m ≤ 2 * n) (hs : rg s + B < I) : vl t ≤ 2 * vl s := by
  have hk0 := h1.nonneg hn
  obtain ⟨_, k, hk, hck⟩ := h1
  have hkr := key_pos_rg hk0
  have hI : 0 < I := by decide
  have hks : k = rg s := by
    unfold clamp at hck
    rw [if_pos rfl, hkr] at hck
    unfold Dir at hk
    rw [if_pos rfl] at hk
    have hV : 0 ≤ V k := by
      have := Int.le_trans hn hk.1
      rcases Int.lt_or_le (V k) 0 with h | h
      · have := Int.mul_neg_of_neg_of_pos h (pow_pos_int d); omega
      · exact h
    have : 0 ≤ k := by rw [← V_zero] at hV; exact V_le_iff.1 hV
    generalize I = i at *
    omega
  unfold Dir at hk
  rw [if_pos rfl, hks] at hk
  obtain ⟨q, hq, hql⟩ := dbl_rung (rg s)
  have hqI : q < I := by omega
  have hkey : key q = q := key_pos q (Nat.lt_trans hqI I_lt_W)
  have hrq : rg q = q := Nat.mod_eq_of_lt (Nat.lt_trans hqI I_lt_W)
  have h3 := DirW.exact q d q hqI hkey (by rw [hrq]; exact Nat.le_of_lt hqI)
  have hVq : V (q : Int) = 2 * V (rg s : Int) := by
    unfold V
    rw [if_neg (by omega), if_neg (by omega), Int.toNat_natCast, Int.toNat_natCast, hq]; omega
  have h4 : m ≤ V q * 2 ^ d := by
    rw [hVq, Int.mul_assoc]
    omega
  have h5 := DirW.grow h2 h3 h4
  rw [hkey] at h5
  rw [vl_key, vl_key, hkr, ← hVq]
  exact V_le h5
/-- Twice a float, as Go reckons it. -/
theorem dbl_mul (r : Nat) (h1 : B ≤ r) (h2 : r + B < I) : double.mul 4611686018427387904 r = some (r + B) ∧ vl (r + B) = 2 * vl r := by
  have hW : r < W := by have := I_lt_W; omega
  have hrg : rg r = r := Nat.mod_eq_of_lt hW
  have hsg : sg r = false := by unfold sg; rw [Nat.div_eq_of_lt hW]; rfl
  have hW2 : r + B < W := by have := I_lt_W; omega
  have hrg2 : rg (r + B) = r + B := Nat.mod_eq_of_lt hW2
  have hsg2 : sg (r + B) = false := by unfold sg; rw [Nat.div_eq_of_lt hW2]; rfl
  have hm := mant_lt r
  have hx := ex_mant r
  have hB : B ≤ mant r := by
    rcases mant_ge r with h0 | h0
    · rw [h0] at hx; omega
    · exact h0
  have hex : ex r + 1 ≤ 2045 := by unfold ex; unfold B I at *; omega
  constructor
  · rw [mul_fin _ _ (by decide) (by rw [hrg]; omega)]
    rw [show sg 4611686018427387904 = false by decide, hsg, show (false ^^ false) = false from rfl, show mant (rg 4611686018427387904) = 4503599627370496 by decide, show pl 4611686018427387904 = -51 by decide, hrg]
    have e := nearest_congr false (4503599627370496 * mant r) (mant r) (-51 + pl r) (-1074 + ((ex r + 1 : Nat) : Int)) 0 52 (by rw [Nat.pow_zero, Nat.mul_one, Nat.mul_comm]) (by unfold pl; rw [hrg]; omega)
    rw [e, (nearest_exact false (mant r) (ex r + 1) hB hm hex).1]
    unfold wd
    rw [if_neg (by simp), show (ex r + 1) * B + mant r = r + B by rw [Nat.add_mul]; omega]
  · unfold vl
    rw [hsg, hsg2, if_neg (by simp), if_neg (by simp), hrg, hrg2]
    have e1 := rv_of (ex r) (mant r) (by omega) (.inr hB)
    have e2 := rv_of (ex r + 1) (mant r) (by omega) (.inr hB)
    rw [← hx] at e1
    rw [show (ex r + 1) * B + mant r = r + B by rw [Nat.add_mul]; omega] at e2
    rw [e2, e1, Nat.pow_succ]
    generalize 2 ^ ex r = P
    generalize mant r = m
    have : m * (P * 2) = 2 * (m * P) := by grind
    omega
theorem mul_dir {x y s : Nat} (hx : Pos x) (hy : Pos y) (h : Is (mulS x y true) s) : DirW true (vl x * vl y) E s := by
  obtain ⟨r, h1, h2⟩ := mulS_dir x y true hx.1 hy.1
  rw [h1] at h
  have : s = r := h
  rw [this]; exact h2
theorem add_dir {x y s : Nat} (wx : x < 2 * W) (wy : y < 2 * W) (hx : Pos x) (hy : Pos y) (h : Is (addS x y true) s) : DirW true (vl x + vl y) 0 s := by
  have hd := addF_dir x y true wx wy hx.1 hy.1
  unfold addS at h
  rw [if_pos ⟨hx.1, hy.1⟩] at h
  have : s = addF x y true := h
  rw [this]; exact hd
/-- The bound's last step: a product, and a little more. -/
theorem prod_mono {a b a' b' : Int} (h0 : 0 ≤ a) (h1 : 0 ≤ b) (ha : a ≤ a') (hb : b ≤ b') : a * b ≤ a' * b' :=
  Int.mul_le_mul ha hb h1 (Int.le_trans h0 ha)
theorem least_pos : Pos 103582791429521408 := by unfold Pos; decide
/-- One product more: it grows, stays below a bound, and of twice as much is at most twice as great. -/
theorem step_pos {x y s X Y S : Nat} (hx : Pos x) (hy : Pos y) (h : Is (mulS x y true) s) (hX : Pos X) (hY : Pos Y) (hS : mulS X Y true = some S) (hf : rg S < I) (h1 : key x ≤ key X) (h2 : key y ≤ key Y) : Pos s ∧ key s ≤ key S := by
  have d1 := mul_dir hx hy h
  have d2 : DirW true (vl X * vl Y) E S := mul_dir hX hY (by rw [hS]; rfl)
  have k0 := d1.nonneg (Int.mul_nonneg hx.vl hy.vl)
  have k1 := d1.grow d2 (prod_mono hx.vl hy.vl (vl_le.2 h1) (vl_le.2 h2))
  exact ⟨⟨fin_of_le d1.1 k1 k0 hf, k0⟩, k1⟩
theorem step_mono {x y s x' y' s' : Nat} (hx : Pos x) (hy : Pos y) (hx' : Pos x') (hy' : Pos y') (h : Is (mulS x y true) s) (h' : Is (mulS x' y' true) s') (h1 : vl x ≤ vl x') (h2 : vl y ≤ vl y') : vl s ≤ vl s' :=
  vl_le.2 ((mul_dir hx hy h).grow (mul_dir hx' hy' h') (prod_mono hx.vl hy.vl h1 h2))
theorem step_twice {x y s y' s' : Nat} (hx : Pos x) (hy : Pos y) (hy' : Pos y') (h : Is (mulS x y true) s) (h' : Is (mulS x y' true) s') (h2 : vl y' = 2 * vl y) (hs : rg s + B < I) : vl s' ≤ 2 * vl s :=
  DirW.twice (mul_dir hx hy h) (mul_dir hx hy' h') (Int.mul_nonneg hx.vl hy.vl) (by rw [h2, ← Int.mul_assoc, Int.mul_comm (vl x) 2, Int.mul_assoc]; exact Int.le_refl _) hs
theorem last_ge {u s : Nat} (wu : u < 2 * W) (hu : Pos u) (h : Is (addS u 103582791429521408 true) s) : key 103582791429521408 ≤ key s := by
  have d1 := add_dir wu (by decide) hu least_pos h
  have k : key 103582791429521408 = (103582791429521408 : Nat) := by decide
  have d0 := DirW.exact 103582791429521408 0 103582791429521408 (by decide) k (by decide)
  refine d0.grow d1 ?_
  rw [Int.pow_zero, Int.mul_one, ← k, ← vl_key]
  have := hu.vl
  omega
theorem last_mono {u s u' s' : Nat} (wu : u < 2 * W) (wu' : u' < 2 * W) (hu : Pos u) (hu' : Pos u') (h : Is (addS u 103582791429521408 true) s) (h' : Is (addS u' 103582791429521408 true) s') (h1 : vl u ≤ vl u') : key s ≤ key s' :=
  (add_dir wu (by decide) hu least_pos h).grow (add_dir wu' (by decide) hu' least_pos h') (by omega)
theorem last_twice {u s u' s' : Nat} (wu : u < 2 * W) (wu' : u' < 2 * W) (hu : Pos u) (hu' : Pos u') (h : Is (addS u 103582791429521408 true) s) (h' : Is (addS u' 103582791429521408 true) s') (h1 : vl u' ≤ 2 * vl u) (hs : rg s + B < I) : vl s' ≤ 2 * vl s := by
  have := least_pos.vl
  exact DirW.twice (add_dir wu (by decide) hu least_pos h) (add_dir wu' (by decide) hu' least_pos h') (by have := hu.vl; omega) (by omega) hs
theorem last_fin {u s U S : Nat} (wu : u < 2 * W) (wU : U < 2 * W) (hu : Pos u) (hU : Pos U) (h : Is (addS u 103582791429521408 true) s) (hS : addS U 103582791429521408 true = some S) (hf : rg S < I) (h1 : key u ≤ key U) : Pos s ∧ key s ≤ key S := by
  have d1 := add_dir wu (by decide) hu least_pos h
  have d2 : DirW true (vl U + vl 103582791429521408) 0 S := add_dir wU (by decide) hU least_pos (by rw [hS]; rfl)
  have k0 := d1.nonneg (by have := hu.vl; have := least_pos.vl; omega)
  have k1 := d1.grow d2 (by have := vl_le.2 h1; omega)
  exact ⟨⟨fin_of_le d1.1 k1 k0 hf, k0⟩, k1⟩
end Fl
end Go.Proofs.Ytclnmheplecknaa

namespace Go.Proofs.Ytclnmheplecknaa
open Go.RowKit

theorem ord0_ne (x : Nat) (h : Fl.rg x ≤ Fl.I) (h0 : ¬ Fl.rg x = 0) : (FloatKind.f64.format.order x 0 == some .eq) = false := by
  cases hs : Fl.sg x
  · rw [Fl.cmp0_gt x (by omega) h hs]; rfl
  · rw [Fl.cmp0_lt x (by omega) h hs]; rfl
theorem run_min_fl (x y : Nat) (hx : x ≤ Fl.I) (hy : y ≤ Fl.I) (ts : Array TypeId) (t : TypeId) (w : World) : (Builtin.min_ ts t #[.float .f64 x, .float .f64 y]).run Try.prog w = .ok (.float .f64 (min x y)) w := by
  have ho := Fl.ord_pos x y hx hy
  rw [Fl.compare_int] at ho
  simp only [Builtin.min_, List.foldlM, Builtin.min2]
  rcases Nat.lt_trichotomy x y with h | h | h
  · rw [if_pos (by omega)] at ho
    rw [ho, Nat.min_eq_left (Nat.le_of_lt h)]; rfl
  · subst h
    rw [if_neg (by omega), if_pos rfl] at ho
    rw [ho, Nat.min_self]
    simp
  · rw [if_neg (by omega), if_neg (by omega)] at ho
    rw [ho, Nat.min_eq_right (Nat.le_of_lt h)]; rfl
theorem run_max_fl (x y : Nat) (hx : x ≤ Fl.I) (hy : y ≤ Fl.I) (ts : Array TypeId) (t : TypeId) (w : World) : (Builtin.max_ ts t #[.float .f64 x, .float .f64 y]).run Try.prog w = .ok (.float .f64 (max x y)) w := by
  have ho := Fl.ord_pos x y hx hy
  rw [Fl.compare_int] at ho
  simp only [Builtin.max_, List.foldlM, Builtin.max2]
  rcases Nat.lt_trichotomy x y with h | h | h
  · rw [if_pos (by omega)] at ho
    rw [ho, Nat.max_eq_right (Nat.le_of_lt h)]; rfl
  · subst h
    rw [if_neg (by omega), if_pos rfl] at ho
    rw [ho, Nat.max_self]
    simp
  · rw [if_neg (by omega), if_neg (by omega)] at ho
    rw [ho, Nat.max_eq_left (Nat.le_of_lt h)]; rfl
/-- A tamed size. -/
def Tame (r : Nat) : Prop := r = 0 ∨ (3706462493325918208 ≤ r ∧ r ≤ 5507902344274116608)
theorem pick_any (x n : Int) (w : World) (hn : 1 ≤ n) (hn2 : n ≤ 1000000) (hx1 : -9223372036854775808 ≤ x) (hx2 : x ≤ 9223372036854775807) : Calls Try.prog 22 #[.int .i64 x, .int .i64 n] w fun e w' => ∃ k : Nat, e = .returned (.int .i64 (k : Int)) ∧ (k : Int) < n ∧ w = w' := by
  have hq1 : ¬ n < 1 := by omega
  have hlt : -n < Int.tmod x n ∧ Int.tmod x n < n := ⟨Int.lt_tmod_of_pos x (by omega), Int.tmod_lt_of_pos x (by omega)⟩
  have hnz : n ≠ 0 := by omega
  have hnz2 : (n == 0) = false := by simpa using hnz
  by_cases hneg : Int.tmod x n < 0
  · obtain ⟨k, hk⟩ : ∃ k : Nat, Int.tmod x n + n = (k : Int) := ⟨(Int.tmod x n + n).toNat, by omega⟩
    have hk2 : (k : Int) < n := by omega
    have hw : IntKind.i64.wrap (Int.tmod x n + n) = (k : Int) := by rw [IntKind.wrap_i64]; omega
    have HK := Lib.hid hk2
    have HKE := Lib.hid hk
    generalize hr : Int.tmod x n = r at *
    have HR := Lib.hid hr
    go_enter Try.func22, Try.ntmps22
    go_wp2
    go_ret
    exact ⟨k, by first | rfl | (simp only [HKE.out]; rfl), HK.out, rfl⟩
  · obtain ⟨k, hk⟩ : ∃ k : Nat, Int.tmod x n = (k : Int) := ⟨(Int.tmod x n).toNat, by omega⟩
    have hk2 : (k : Int) < n := by omega
    have hw : ¬ (k : Int) < 0 := by omega
    have HK := Lib.hid hk2
    rw [hk] at hneg hlt
    go_enter Try.func22, Try.ntmps22
    go_wp2
    go_ret
    exact ⟨k, rfl, HK.out, rfl⟩
theorem nextafter_up (x y : Nat) (w : World) (hx : 0 < x) (hxy : x < y) (hy : y ≤ Fl.I) : Calls Try.prog 159 #[.float .f64 x, .float .f64 y] w fun e w' => e = .returned (.float .f64 (x + 1)) ∧ w = w' := by
  have hIW := Fl.I_lt_W
  have rx : Fl.rg x = x := Nat.mod_eq_of_lt (by omega)
  have ry : Fl.rg y = y := Nat.mod_eq_of_lt (by omega)
  have nx := fun w => isnan_no x w (by rw [rx]; omega)
  have ny := fun w => isnan_no y w (by rw [ry]; exact hy)
  have o1 : FloatKind.f64.format.order x y = some .lt := by rw [Fl.ord_pos x y (by omega) hy, Fl.compare_int, if_pos (by omega)]
  have o2 : FloatKind.f64.format.order y x = some .gt := by rw [Fl.ord_pos y x hy (by omega), Fl.compare_int, if_neg (by omega), if_neg (by omega)]
  have o3 : FloatKind.f64.format.order x 0 = some .gt := by
    have e := Fl.ord_pos x 0 (by omega) (Nat.zero_le _)
    rw [Fl.compare_int, if_neg (by omega), if_neg (by omega)] at e
    exact e
  have hb := run_bits x
  have hf := fun n => run_from n
  have hw : IntKind.u64.wrap ((x : Int) + 1) = ((x + 1 : Nat) : Int) := by rw [IntKind.wrap_u64]; unfold Fl.I at hy; omega
  have NX := Lib.hid nx
  have NY := Lib.hid ny
  have HT : Hid ((((x + 1 : Nat) : Int)).toNat = x + 1) := Lib.hid (by omega)
  clear nx ny rx ry hIW hx hxy hy
  go_enter Try.func159, Try.ntmps159
  go_wp2_with fail
  refine (NX.out _).mono ?_
  rintro e w' ⟨rfl, rfl⟩
  go_wp2_with fail
  refine (NY.out _).mono ?_
  rintro e w' ⟨rfl, rfl⟩
  go_wp2
  go_ret
  exact ⟨ret_fl (by first | rfl | exact HT.out | omega), rfl⟩
/-! ### the closed answers -/
theorem closed_t : ∃ u, Fl.mulS (tC 1) 4607182418800017408 true = some u ∧ Fl.addS u 103582791429521408 true = some 4386506037058863105 := by
  refine ⟨(Fl.mulS (tC 1) 4607182418800017408 true).getD 0, ?_, ?_⟩ <;> decide +kernel
theorem closed_tm : mayV 1 1 (fun _ => 4607182418800017408) = 0 := by decide +kernel
theorem closed_rm : mayV 10 2 (z2 4670232813583204352 4670232813583204352) = 0 := by decide +kernel
def cr1 : Nat := (Fl.mulS (rC 10) (rS 10) true).getD 0
def cr2 : Nat := (Fl.mulS cr1 4670232813583204352 true).getD 0
def cr3 : Nat := (Fl.mulS cr2 4670232813583204352 true).getD 0
theorem closed_r : Fl.mulS (rC 10) (rS 10) true = some cr1 ∧ Fl.mulS cr1 4670232813583204352 true = some cr2 ∧ Fl.mulS cr2 4670232813583204352 true = some cr3 ∧ Fl.addS cr3 103582791429521408 true = some 4595360469778169857 ∧ Fl.rg 4595360469778169857 ≠ Fl.I := by decide +kernel
theorem z3_0 (s a b : Nat) : z3 s a b 0 = s := rfl
theorem z3_1 (s a b : Nat) : z3 s a b 1 = a := rfl
theorem z3_2 (s a b : Nat) : z3 s a b 2 = b := rfl
theorem Is_some {o : Option Nat} {r s : Nat} (h : Fl.Is o s) (ho : o = some r) : s = r := by rw [ho] at h; exact h
end Go.Proofs.Ytclnmheplecknaa

namespace Go.Proofs.Ytclnmheplecknaa
open Go.RowKit
theorem inf_up (w : World) : Calls Try.prog 112 #[.int .i64 1] w fun e w' => e = .returned (.float .f64 Fl.I) ∧ w = w' := by
  have hf := run_from
  go_enter Try.func112, Try.ntmps112
  go_wp2
  go_ret
  exact ⟨rfl, rfl⟩
set_option maxRecDepth 400000 in
set_option maxHeartbeats 8000000 in
theorem up_fin (v : Value) (s : Bool) (N : Nat) (e : Int) (f g : Nat) (sf : Bool) (Nf : Nat) (ef : Int) (T2 : Int) (w : World) (hv : NumV w v s N e) (hf : f < 2 * Fl.W) (ff : Fl.rg f < Fl.I)
    (hnear : ∀ x, Below w.heap.size w x → Calls Try.prog 157 #[v] x fun r w' => r = .returned (.float .f64 f) ∧ Below x.heap.size x w')
    (hflt : ∀ x, Calls Try.prog 155 #[.float .f64 f] x fun r w' => ∃ v', r = .returned v' ∧ NumV w' v' sf Nf ef ∧ Below x.heap.size x w')
    (hcmp : ∀ x u v', NumV x u sf Nf ef → NumV x v' s N e → Calls Try.prog 158 #[u, v'] x fun r w' => r = .returned (.int .i64 T2) ∧ Below x.heap.size x w')
    (hna : T2 < 0 → ∀ x, Calls Try.prog 159 #[.float .f64 f, .float .f64 Fl.I] x fun r w' => r = .returned (.float .f64 g) ∧ x = w') :
    Calls Try.prog 153 #[v] w fun r w' => r = .returned (.float .f64 (if T2 < 0 then g else f)) ∧ Below w.heap.size w w' := by
  have HV := Lib.hid hv
  have hsub := fun w => run_float_arith (P := Try.prog) w .sub 71 .f64 f f 0 (Fl.sub_self_fin f hf ff)
  have HNE := Lib.hid hnear
  have HFL := Lib.hid hflt
  have HCM := Lib.hid hcmp
  have HNA := Lib.hid hna
  have HI := Lib.hid inf_up
  obtain ⟨A, c, rfl, hu⟩ := hv
  clear hu hnear hflt hcmp hna hf ff
  generalize (Nt.dg 18446744073709551616 N).length = n at *
  generalize (Nt.dg 18446744073709551616 Nf) = lf at *
  obtain ⟨nf, hnf⟩ : ∃ nf, nf = lf.length := ⟨_, rfl⟩
  have HNF := Lib.hid hnf
  clear hnf
  obtain ⟨k0, k1, k2, hbw⟩ := new_cells w (w.alloc (.cells #[.bool s, .slice A n c, .int .i64 e] 65)) (.bool s) (.slice A n c) (.int .i64 e) 65 (Below.refl _ _)
  have hbx : Bx w w.heap.size s A n c e (w.alloc (.cells #[.bool s, .slice A n c, .int .i64 e] 65)) := ⟨⟨k0, k1, k2⟩, hbw, alloc_lt w _⟩
  clear k0 k1 k2 hbw
  go_enter Try.func153, Try.ntmps153
  go_wp2_with fail
  generalize w.alloc (.cells #[.bool s, .slice A n c, .int .i64 e] 65) = W at *
  refine (HNE.out W hbx.2.1).mono ?_
  rintro r w1 ⟨rfl, hb1⟩
  have HX1 := Lib.hid (hbx.go hb1)
  clear hb1 hbx HNE
  obtain ⟨⟨p1, p2, p3⟩, p4, p5⟩ := HX1.out
  have HS0 : Hid (Bx w w.heap.size s A n c e w1.drew) := Lib.hid (HX1.out.go (Below.refl _ _).drew)
  have HC1 : Hid (∀ x, Bx w w.heap.size s A n c e x → Calls Try.prog 155 #[.float .f64 f] x fun r w' => ∃ A3 c3, r = .returned (.agg #[.bool sf, .slice A3 (Nt.dg 18446744073709551616 Nf).length c3, .int .i64 ef]) ∧ U w' A3 (Nt.dg 18446744073709551616 Nf).length c3 (Nt.dg 18446744073709551616 Nf) ∧ Bx w w.heap.size s A n c e w') :=
    Lib.hid (fun x hx => (HFL.out x).mono fun r w' ⟨v', g1, ⟨A3, c3, g2, g3⟩, g4⟩ => ⟨A3, c3, by rw [g1, g2], g3, hx.go g4⟩)
  have HC2 : Hid (∀ x A3 c3, Bx w w.heap.size s A n c e x → U x A3 (Nt.dg 18446744073709551616 Nf).length c3 (Nt.dg 18446744073709551616 Nf) → Calls Try.prog 158 #[.agg #[.bool sf, .slice A3 (Nt.dg 18446744073709551616 Nf).length c3, .int .i64 ef], .agg #[.bool s, .slice A n c, .int .i64 e]] x fun r w' => r = .returned (.int .i64 T2) ∧ Bx w w.heap.size s A n c e w') :=
    Lib.hid (fun x A3 c3 hx hu => (HCM.out x _ _ ⟨A3, c3, rfl, hu⟩ (HV.out.below hx.2.1)).mono fun r w' ⟨g1, g2⟩ => ⟨g1, hx.go g2⟩)
  obtain ⟨lg, hlg⟩ : ∃ lg, lg = Nt.dg 18446744073709551616 Nf := ⟨_, rfl⟩
  rw [← hlg] at HC1 HC2
  obtain ⟨ng, hng⟩ : ∃ ng, ng = lg.length := ⟨_, rfl⟩
  rw [← hng] at HC1 HC2
  clear hlg hng HFL HCM HV
  go_wp2_with fail
  go_region_held3 (fun x => (x.cell? ⟨w.heap.size, 0, none⟩ = some (.bool s) ∧ x.cell? ⟨w.heap.size, 1, none⟩ = some (.slice A n c) ∧ x.cell? ⟨w.heap.size, 2, none⟩ = some (.int .i64 e)) ∧ Below w.heap.size w x ∧ w.heap.size < x.heap.size) ((first | assumption | exact HS0.out)) (first | (go_at_call 155; refine (HC1.out _ ?_).mono ?_; (assumption); rintro r w' ⟨A3, c3, rfl, hu3, hS⟩) | (go_at_call 158; refine (HC2.out _ _ _ ?_ ?_).mono ?_; (assumption); (assumption); rintro r w' ⟨rfl, hS5⟩))
  have HX9 := Lib.hid hS5
  clear hS5 hu3 HC1 HC2 HS0 p1 p2 p3 p4 p5
  by_cases ht : T2 < 0
  · have HN2 := Lib.hid (HNA.out ht)
    have HE : Hid ((if T2 < 0 then g else f) = g) := Lib.hid (if_pos ht)
    go_wp2_with fail
    refine (HI.out _).mono ?_
    rintro r w2 ⟨rfl, rfl⟩
    go_wp2_with fail
    refine (HN2.out _).mono ?_
    rintro r w2 ⟨rfl, rfl⟩
    go_wp2
    go_ret
    exact ⟨by first | rfl | (rw [HE.out]; rfl), HX9.out.2.1⟩
  · have HE : Hid ((if T2 < 0 then g else f) = f) := Lib.hid (if_neg ht)
    go_wp2
    go_ret
    exact ⟨by first | rfl | (rw [HE.out]; rfl), HX9.out.2.1⟩
theorem nextafter_zero (w : World) : Calls Try.prog 159 #[.float .f64 0, .float .f64 Fl.I] w fun e w' => e = .returned (.float .f64 1) ∧ w = w' := by
  have NX := Lib.hid (fun w => isnan_no 0 w (by decide))
  have NY := Lib.hid (fun w => isnan_no Fl.I w (by decide))
  have o1 : FloatKind.f64.format.order 0 Fl.I = some .lt := by decide +kernel
  have o3 : FloatKind.f64.format.order 0 0 = some .eq := by decide +kernel
  have HCS := Lib.hid (fun w => copysign_any 1 Fl.I w (by decide) (by decide))
  have hf := run_from 1
  generalize hI : Fl.I = I' at *
  go_enter Try.func159, Try.ntmps159
  go_wp2_with fail
  refine (NX.out _).mono ?_
  rintro e w' ⟨rfl, rfl⟩
  go_wp2_with fail
  refine (NY.out _).mono ?_
  rintro e w' ⟨rfl, rfl⟩
  go_wp2_with fail
  refine (HCS.out _).mono ?_
  rintro e w' ⟨rfl, rfl⟩
  go_wp2
  go_ret
  exact ⟨by subst hI; rfl, rfl⟩
end Go.Proofs.Ytclnmheplecknaa

namespace Go.Proofs.Ytclnmheplecknaa
open Go.RowKit
set_option maxRecDepth 400000 in
set_option maxHeartbeats 8000000 in
theorem up_inf (v : Value) (s : Bool) (N : Nat) (e : Int) (f : Nat) (w : World) (hv : NumV w v s N e) (ff : ¬ Fl.rg f < Fl.I)
    (hnear : ∀ x, Below w.heap.size w x → Calls Try.prog 157 #[v] x fun r w' => r = .returned (.float .f64 f) ∧ Below x.heap.size x w') :
    Calls Try.prog 153 #[v] w fun r w' => r = .returned (.float .f64 f) ∧ Below w.heap.size w w' := by
  have HNE := Lib.hid hnear
  obtain ⟨A, c, rfl, hu⟩ := hv
  clear hu hnear
  generalize (Nt.dg 18446744073709551616 N).length = n at *
  obtain ⟨k0, k1, k2, hbw⟩ := new_cells w (w.alloc (.cells #[.bool s, .slice A n c, .int .i64 e] 65)) (.bool s) (.slice A n c) (.int .i64 e) 65 (Below.refl _ _)
  have hbx : Bx w w.heap.size s A n c e (w.alloc (.cells #[.bool s, .slice A n c, .int .i64 e] 65)) := ⟨⟨k0, k1, k2⟩, hbw, alloc_lt w _⟩
  clear k0 k1 k2 hbw
  go_enter Try.func153, Try.ntmps153
  go_wp2_with fail
  generalize w.alloc (.cells #[.bool s, .slice A n c, .int .i64 e] 65) = W at *
  refine (HNE.out W hbx.2.1).mono ?_
  rintro r w1 ⟨rfl, hb1⟩
  have HX1 := Lib.hid (hbx.go hb1)
  clear hb1 hbx HNE
  have hnone : floatBits .sub .f64 f f = none := Fl.sub_self_not f ff
  obtain ⟨nz, hnz, hor⟩ : ∃ nz : World → Nat, (∀ w : World, (binOp .sub 71 (.float .f64 f) (.float .f64 f)).run Try.prog w = .ok (.float .f64 (nz w)) w.drew) ∧ ∀ w, FloatKind.f64.format.order (nz w) 0 = none :=
    ⟨fun w => (w.tape w.drawn (.nanBits .f64 f f) % 2) * 2 ^ 63 + 0x7ff0000000000000 + 1 + (w.tape w.drawn (.nanBits .f64 f f) / 2) % (2 ^ 52 - 1), fun w => by
      simp only [floatBits] at hnone
      simp [binOp, Op.floatArith, hnone, Question.forced, Question.cut], fun w => nan_order _ (Fl.nan_draw _).1⟩
  clear hnone ff
  have HS0 : Hid (∀ x, Bx w w.heap.size s A n c e x → Bx w w.heap.size s A n c e x.drew) := Lib.hid (fun x hx => hx.go (Below.refl _ _).drew)
  obtain ⟨⟨p1, p2, p3⟩, p4, p5⟩ := HX1.out
  have hor2 : ∀ w, (FloatKind.f64.format.order (nz w) 0 == some .eq) = false := fun w => by rw [hor]; rfl
  clear hor
  go_wp2_with fail
  first | go_region_with (fail) | fail
  all_goals
    go_wp2
    go_ret
    exact ⟨rfl, (HS0.out _ (HS0.out _ HX1.out)).2.1⟩
end Go.Proofs.Ytclnmheplecknaa

namespace Go.Proofs.Ytclnmheplecknaa
open Go.RowKit
theorem plusN_exp9 (s : Bool) (N : Nat) (e : Int) (s' : Bool) (M : Nat) (f : Int) : (plusN s N e s' M f).2.2 = e ∨ (plusN s N e s' M f).2.2 = f := by
  unfold plusN
  split
  · exact .inr rfl
  · split
    · exact .inl rfl
    · split <;> (unfold plusC; first | (split <;> first | exact .inl rfl | exact .inr rfl | (split <;> first | exact .inl rfl | exact .inr rfl)))
theorem nearest_zero (v : Value) (s : Bool) (e : Int) (w : World) (hv : NumV w v s 0 e) :
    Calls Try.prog 157 #[v] w fun r w' => r = .returned (.float .f64 0) ∧ Below w.heap.size w w' := by
  have HZ := Lib.hid (fun x (hb : Below w.heap.size w x) => zero_any v s 0 e x (hv.below hb) (by rw [Nt.dg_zero]; decide))
  obtain ⟨A, c, rfl, hu⟩ := hv
  clear hu
  generalize (Nt.dg 18446744073709551616 0).length = n at *
  obtain ⟨k0, k1, k2, hbw⟩ := new_cells w (w.alloc (.cells #[.bool s, .slice A n c, .int .i64 e] 65)) (.bool s) (.slice A n c) (.int .i64 e) 65 (Below.refl _ _)
  have HB := Lib.hid hbw
  clear k0 k1 k2 hbw
  go_enter Try.func157, Try.ntmps157
  go_wp2_with fail
  refine (HZ.out _ HB.out).mono ?_
  rintro r w1 ⟨rfl, hb1⟩
  have HB1 := Lib.hid (HB.out.trans (hb1.mono HB.out.size))
  clear hb1 HZ
  go_wp2
  go_ret
  exact ⟨rfl, HB1.out⟩
theorem nearest_any (v : Value) (N p : Nat) (e : Int) (w : World) (hv : NumV w v false N e) (hN : N ≠ 0) (hp : N < 2 ^ p) (hp2 : p ≤ 5000) (he1 : -2148 ≤ e) (he2 : e ≤ 5000) :
    Calls Try.prog 157 #[v] w fun r w' => r = .returned (.float .f64 (fL (nearN (lowN N e (lastN N e)) (halfN N e (lastN N e))) (lastN N e))) ∧ Below w.heap.size w w' := by
  obtain ⟨last, hlast⟩ : ∃ last, last = lastN N e := ⟨_, rfl⟩
  rw [← hlast]
  have hl : -1074 ≤ last := by rw [hlast]; unfold lastN; omega
  obtain ⟨b1, b2, b3⟩ := Nt.bits_range N hN
  have hbp : bitsN N ≤ p := by
    have h := Nat.lt_of_le_of_lt b2 hp
    have := (Nat.pow_lt_pow_iff_right (a := 2) (by decide)).1 h
    omega
  have hl2 : last ≤ 10000 := by rw [hlast]; unfold lastN; omega
  obtain ⟨s, hs⟩ : ∃ s : Nat, last + 1074 = s := ⟨(last + 1074).toNat, by omega⟩
  obtain ⟨n1, n2⟩ := near_next N e last s hN (by omega) he2 hs hlast
  obtain ⟨M, hM⟩ : ∃ M, M = (cutN N e last).2.1 := ⟨_, rfl⟩
  obtain ⟨f, hf⟩ : ∃ f, f = (cutN N e last).2.2 := ⟨_, rfl⟩
  have hcut : cutN N e last = (false, M, f) := by
    rw [hM, hf]; unfold cutN; rw [if_neg hN]; split <;> rfl
  have hMN : M ≤ N := by
    rw [hM]; unfold cutN; rw [if_neg hN]; split
    · exact Nat.le_refl _
    · exact Nat.div_le_self _ _
  have hfe : f = e ∨ f = last := by
    rw [hf]; unfold cutN; rw [if_neg hN]; split
    · exact .inl rfl
    · exact .inr rfl
  have hfl : last ≤ f := by
    rw [hf]; unfold cutN; rw [if_neg hN]; split
    · rename_i h; exact h
    · exact Int.le_refl _
  have lenN := Nt.len_of_lt N p hp
  have lenM := Nt.len_of_lt M p (Nat.lt_of_le_of_lt hMN hp)
  have hD := Nt.plusN_lt false N e true M f p 30000 hp (Nat.lt_of_le_of_lt hMN hp) (by omega) (by omega)
  have hDe := plusN_exp9 false N e true M f
  have lenD := Nt.len_of_lt _ _ hD
  have h1 : (1 : Nat) < 2 ^ (p + 30000 + 1) := Nat.one_lt_two_pow (by omega)
  have hD2 := Nt.plusN_lt (plusN false N e true M f).1 (plusN false N e true M f).2.1 (plusN false N e true M f).2.2 true 1 (last - 1) (p + 30000 + 1) 30000 hD h1 (by omega) (by omega)
  have lenD2 := Nt.len_of_lt _ _ hD2
  have hr : restN N e last = plusN false N e true M f := by unfold restN; rw [← hM, ← hf]
  have hh : halfN N e last = cmpN (plusN false N e true M f).1 (plusN false N e true M f).2.1 (plusN false N e true M f).2.2 false 1 (last - 1) := by unfold halfN; rw [hr]
  have hlw : lowN N e last = M * 2 ^ (f - last).toNat := by unfold lowN; rw [← hM, ← hf]
  clear hD hD2 h1
  obtain ⟨D, hDD⟩ : ∃ D, D = plusN false N e true M f := ⟨_, rfl⟩
  rw [← hDD] at hDe lenD lenD2 hh
  obtain ⟨D1, D2, D3⟩ := D
  dsimp only at hDe lenD lenD2 hh
  exact nearest_go v N e last M f D1 D2 D3 _ (lowN N e last) w hv hN (by omega) (by omega) he2 (by rw [hlast]; rfl) (by omega) hcut (by omega) hfl (by omega) hlw n1 hDD.symm (by omega) (by omega) (by omega) (by omega) hh
end Go.Proofs.Ytclnmheplecknaa

namespace Go.Proofs.Ytclnmheplecknaa
open Go.RowKit
/-- k is the word of the least rung whose value is not below X units of 2^-2148. -/
def Fl.UpW (X k : Nat) : Prop := ∃ q, k = min q Fl.I ∧ X ≤ Fl.rv q * 2 ^ 1074 ∧ (0 < q → Fl.rv (q - 1) * 2 ^ 1074 < X)
theorem nv_word (f : Nat) (hf : f < Fl.I) : Fl.sg f = false ∧ Fl.rg f = f ∧ Nt.nv (Fl.sg f) (Fl.mant (Fl.rg f)) (Fl.pl f) 2148 = ((Fl.rv f * 2 ^ 1074 : Nat) : Int) := by
  have hW := Nat.lt_trans hf Fl.I_lt_W
  have hr : Fl.rg f = f := Nat.mod_eq_of_lt hW
  have hs : Fl.sg f = false := by
    have e : Fl.sg f = (f / Fl.W % 2 == 1) := rfl
    rw [e, Nat.div_eq_of_lt hW]; rfl
  refine ⟨hs, hr, ?_⟩
  rw [hs, hr]
  unfold Nt.nv Nt.sz Fl.pl Fl.rv
  rw [hr, if_neg (by simp), show (-1074 + ((Fl.ex f : Nat) : Int) + 2148).toNat = Fl.ex f + 1074 by omega, Nat.pow_add, Nat.mul_assoc]
theorem up_any (v : Value) (s : Bool) (N p : Nat) (e : Int) (w : World) (hv : NumV w v s N e) (hs : N ≠ 0 → s = false) (hp : N < 2 ^ p) (hp2 : p ≤ 5000) (he1 : -2148 ≤ e) (he2 : e ≤ 5000) :
    Calls Try.prog 153 #[v] w fun r w' => ∃ k, r = .returned (.float .f64 k) ∧ k ≤ Fl.I ∧ Fl.UpW (N * 2 ^ (e + 2148).toNat) k ∧ Below w.heap.size w w' := by
  have hIW := Fl.I_lt_W
  have lenN := Nt.len_of_lt N p hp
  -- of a float below infinity
  have fin : ∀ f g : Nat, f < Fl.I → (∀ x, Below w.heap.size w x → Calls Try.prog 157 #[v] x fun r w' => r = .returned (.float .f64 f) ∧ Below x.heap.size x w') →
      (Fl.rv f * 2 ^ 1074 < N * 2 ^ (e + 2148).toNat → ∀ x, Calls Try.prog 159 #[.float .f64 f, .float .f64 Fl.I] x fun r w' => r = .returned (.float .f64 g) ∧ x = w') →
      Calls Try.prog 153 #[v] w fun r w' => r = .returned (.float .f64 (if Fl.rv f * 2 ^ 1074 < N * 2 ^ (e + 2148).toNat then g else f)) ∧ Below w.heap.size w w' := by
    intro f g hf hn hg
    obtain ⟨e1, e2, e3⟩ := nv_word f hf
    have hm := Fl.mant_lt (Fl.rg f)
    have hm2 : Fl.mant (Fl.rg f) < 2 ^ 53 := by unfold Fl.B at hm; omega
    have lenF := Nt.len_of_lt _ 53 hm2
    have hpl : -1074 ≤ Fl.pl f ∧ Fl.pl f ≤ 1100 := by
      have hx : Fl.ex (Fl.rg f) ≤ 2047 := by
        rw [e2]; unfold Fl.ex
        have : f / Fl.B ≤ 2047 := by unfold Fl.B; unfold Fl.I at hf; omega
        omega
      unfold Fl.pl; omega
    obtain ⟨P, hP⟩ : ∃ P, P = 5053 := ⟨_, rfl⟩
    have hD := Nt.plusN_lt (Fl.sg f) (Fl.mant (Fl.rg f)) (Fl.pl f) (!s) N e P 10000 (Nat.lt_of_lt_of_le hm2 (Nat.pow_le_pow_right (by decide) (by omega))) (Nat.lt_of_lt_of_le hp (Nat.pow_le_pow_right (by decide) (by omega))) (by omega) (by omega)
    have lenD := Nt.len_of_lt _ _ hD
    have hnv : Nt.nv s N e 2148 = ((N * 2 ^ (e + 2148).toNat : Nat) : Int) := by
      unfold Nt.nv Nt.sz
      by_cases h0 : N = 0
      · rw [h0, Nat.zero_mul]; split <;> rfl
      · rw [hs h0, if_neg (by simp)]
    have hval := Nt.cmpN_val (Fl.sg f) (Fl.mant (Fl.rg f)) (Fl.pl f) s N e 2148 (by omega) (by omega)
    rw [e3, hnv] at hval
    have hT : (cmpN (Fl.sg f) (Fl.mant (Fl.rg f)) (Fl.pl f) s N e < 0) ↔ Fl.rv f * 2 ^ 1074 < N * 2 ^ (e + 2148).toNat := by
      rw [hval]
      unfold Nt.ordI
      generalize Fl.rv f * 2 ^ 1074 = Y
      generalize N * 2 ^ (e + 2148).toNat = X
      constructor
      · intro h; split at h
        · omega
        · split at h <;> omega
      · intro h; rw [if_pos (by omega)]; decide
    clear hD
    have h := up_fin v s N e f g (Fl.sg f) (Fl.mant (Fl.rg f)) (Fl.pl f) (cmpN (Fl.sg f) (Fl.mant (Fl.rg f)) (Fl.pl f) s N e) w hv (by omega) (by rw [e2]; exact hf) hn (fun x => float_any f x (by omega))
      (fun x u v' hu hv' => compare_any u _ _ _ v' s N e x hu hv' (by omega) (by omega) (by omega) (by omega) (by omega) (by omega) (by omega)) (fun ht => hg (hT.1 ht))
    refine h.mono fun r w' ⟨k1, k2⟩ => ⟨?_, k2⟩
    rw [k1]
    by_cases hc : Fl.rv f * 2 ^ 1074 < N * 2 ^ (e + 2148).toNat
    · rw [if_pos hc, if_pos (hT.2 hc)]
    · rw [if_neg hc, if_neg (fun hh => hc (hT.1 hh))]
  by_cases hN : N = 0
  · subst hN
    have h := fin 0 0 (by decide) (fun x hb => nearest_zero v s e x (hv.below hb)) (fun hh => by rw [Nat.zero_mul] at hh; omega)
    refine h.mono fun r w' ⟨k1, k2⟩ => ⟨0, ?_, Nat.zero_le _, ⟨0, (Nat.zero_min _).symm, by rw [Nat.zero_mul]; exact Nat.zero_le _, fun hh => absurd hh (Nat.lt_irrefl 0)⟩, k2⟩
    rw [k1]; split <;> rfl
  · obtain rfl := hs hN
    obtain ⟨r, r1, r2, r3⟩ := nearest_next N e hN (by omega) he2
    have hnear := fun x (hb : Below w.heap.size w x) => nearest_any v N p e x (hv.below hb) hN hp hp2 he1 he2
    rw [r1] at hnear
    have hwd : Fl.wd false (min r Fl.I) = min r Fl.I := rfl
    rw [hwd] at hnear
    clear r1
    generalize hX : N * 2 ^ (e + 2148).toNat = X at *
    have mono : Fl.rv r * 2 ^ 1074 < Fl.rv (r + 1) * 2 ^ 1074 := Nat.mul_lt_mul_of_pos_right (Fl.rv_lt_succ r) (Nat.two_pow_pos 1074)
    generalize hA : Fl.rv r * 2 ^ 1074 = A at *
    have hup : ∀ k, (k = min (r + 1) Fl.I ∧ A < X) ∨ (k = min r Fl.I ∧ X ≤ A) → Fl.UpW X k := by
      intro k hk
      rcases hk with ⟨h1, h2⟩ | ⟨h1, h2⟩
      · exact ⟨r + 1, h1, Nat.le_of_lt r2, fun _ => by rw [Nat.add_sub_cancel, hA]; exact h2⟩
      · exact ⟨r, h1, by rw [hA]; exact h2, r3⟩
    by_cases hr : r < Fl.I
    · rw [Nat.min_eq_left (Nat.le_of_lt hr)] at hnear
      have h := fin r (r + 1) hr hnear (fun _ x => by
        rcases Nat.eq_zero_or_pos r with h0 | h0
        · subst h0; exact nextafter_zero x
        · exact nextafter_up r Fl.I x h0 hr (Nat.le_refl _))
      rw [hA] at h
      refine h.mono fun r' w' ⟨k1, k2⟩ => ⟨_, k1, ?_, hup _ ?_, k2⟩
      · split <;> omega
      · by_cases hc : A < X
        · rw [if_pos hc]; exact .inl ⟨(Nat.min_eq_left hr).symm, hc⟩
        · rw [if_neg hc]; exact .inr ⟨(Nat.min_eq_left (Nat.le_of_lt hr)).symm, by omega⟩
    · rw [Nat.min_eq_right (by omega)] at hnear
      have h := up_inf v false N e Fl.I w hv (by decide) hnear
      refine h.mono fun r' w' ⟨k1, k2⟩ => ⟨Fl.I, k1, Nat.le_refl _, hup _ ?_, k2⟩
      by_cases hc : A < X
      · exact .inl ⟨(Nat.min_eq_right (by omega)).symm, hc⟩
      · exact .inr ⟨(Nat.min_eq_right (by omega)).symm, by omega⟩
end Go.Proofs.Ytclnmheplecknaa

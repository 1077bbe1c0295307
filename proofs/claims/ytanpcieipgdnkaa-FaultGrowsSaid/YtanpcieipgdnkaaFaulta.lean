/-
  Walks: fault's may and product.
-/
import Derived.Test.YtanpcieipgdnkaaDird
import Derived.LoopTactic
import Derived.Below
set_option linter.unusedVariables false
set_option linter.unusedSimpArgs false
namespace Go.Proofs.Ytanpcieipgdnkaa
open Go.RowKit

/-- Is a size none? Is it too great? -/
def badB (x : Nat) : Bool := decide (Fl.I ≤ Fl.rg x) || (Fl.sg x && decide (0 < Fl.rg x))
def overB (x : Nat) : Bool := !Fl.sg x && decide (8660422083433463808 < Fl.rg x)
def mayV (order : Int) (n : Nat) (z : Nat → Nat) : Int :=
  if order < 0 ∨ 14 < order then 2 else if ((List.range n).any fun k => badB (z k)) = true then 5 else if ((List.range n).any fun k => overB (z k)) = true then 6 else 0
def FlsAt (w : World) (A : Option Addr) (n : Nat) (z : Nat → Nat) : Prop := ∀ k, k < n → ∃ ad, A = some ad ∧ w.cell? (ad.add k) = some (.float .f64 (z k))
theorem any_yes {n k : Nat} {p : Nat → Bool} (hk : k < n) (h : p k = true) : ((List.range n).any p) = true := by
  rw [List.any_eq_true]; exact ⟨k, List.mem_range.2 hk, h⟩
theorem any_no {n : Nat} {p : Nat → Bool} (h : ∀ k, k < n → p k = false) : ((List.range n).any p) = false := by
  rw [List.any_eq_false]; intro k hk; rw [h k (List.mem_range.1 hk)]; simp
theorem isnan_yes (x : Nat) (w : World) (h : Fl.I < Fl.rg x) : Calls Try.prog 35 #[.float .f64 x] w fun e w' => e = .returned (.bool true) ∧ w = w' := by
  have h1 := Fl.cmp_nan x x h
  go_enter Try.func35, Try.ntmps35
  go_wp2
  go_ret
  exact ⟨rfl, rfl⟩
theorem over_ord (x : Nat) (h : badB x = false) : (FloatKind.f64.format.order x 8660422083433463808 == some .gt) = overB x := by
  unfold badB at h
  simp only [Bool.or_eq_false_iff, decide_eq_false_iff_not, Nat.not_le, Bool.and_eq_false_iff, Nat.not_lt] at h
  obtain ⟨h1, h2⟩ := h
  have e : FloatKind.f64.format.order x 8660422083433463808 = some (compare (Fl.key x) (Fl.key 8660422083433463808)) := Fl.order_key _ _ (Nat.le_of_lt h1) (by decide)
  have k : Fl.key 8660422083433463808 = 8660422083433463808 := by decide
  rw [e, k, Fl.compare_int]
  unfold overB Fl.key
  cases hs : Fl.sg x
  · simp only [Bool.false_eq_true, if_false, Bool.not_false, Bool.true_and]
    by_cases h3 : 8660422083433463808 < Fl.rg x
    · rw [if_neg (by omega), if_neg (by omega), decide_eq_true h3]; rfl
    · rw [decide_eq_false h3]
      by_cases h4 : (Fl.rg x : Int) < 8660422083433463808
      · rw [if_pos h4]; rfl
      · rw [if_neg h4, if_pos (by omega)]; rfl
  · simp only [if_true, Bool.not_true, Bool.false_and]
    rw [if_pos (by omega)]; rfl
set_option maxRecDepth 100000 in
set_option maxHeartbeats 2000000 in
theorem may_any (order : Int) (A : Option Addr) (n c : Nat) (z : Nat → Nat) (w : World) (hn : n ≤ 100) (hz : ∀ k, z k < 2 * Fl.W) (hr : FlsAt w A n z) :
    Calls Try.prog 21 #[.int .i64 order, .slice A n c] w fun e w' => e = .returned (.int .i64 (mayV order n z)) ∧ w = w' := by
  obtain ⟨T, hT⟩ : ∃ T, T = mayV order n z := ⟨_, rfl⟩
  rw [← hT]
  unfold mayV at hT
  have HR := Lib.hid hr
  clear hr
  by_cases h0 : order < 0
  · rw [if_pos (.inl h0)] at hT
    subst hT
    go_enter Try.func21, Try.ntmps21
    go_wp2
    go_ret
    exact ⟨rfl, rfl⟩
  · by_cases h14 : 14 < order
    · rw [if_pos (.inr h14)] at hT
      subst hT
      go_enter Try.func21, Try.ntmps21
      go_wp2
      go_ret
      exact ⟨rfl, rfl⟩
    · rw [if_neg (by omega)] at hT
      have HT := Lib.hid hT
      have HZ := Lib.hid hz
      clear hT hz
      go_enter Try.func21, Try.ntmps21
      go_wp2_with fail
      go_loop [17] (fun t => ∃ k : Nat, k ≤ n ∧ t = .int .i64 k ∧ Hid (∀ j, j < k → badB (z j) = false)) (fun t => n - (intOf t).toNat)
      case atStart => exact ⟨0, Nat.zero_le _, rfl, Lib.hid (fun j hj => absurd hj (Nat.not_lt_zero j))⟩
      case round =>
        obtain ⟨k, hk, rfl, hgood⟩ := hrel
        by_cases hlt : k < n
        · obtain ⟨ad, rfl, hc⟩ := HR.out k hlt
          have hzk := HZ.out k
          have hbad : badB (z k) = true → T = 5 := fun h => by rw [HT.out, if_pos (any_yes hlt h)]
          have HBAD := Lib.hid hbad
          clear hbad
          have HG : Hid (badB (z k) = false → ∀ j, j < k + 1 → badB (z j) = false) := Lib.hid (fun h j hj => by
            rcases Nat.lt_or_ge j k with h1 | h1
            · exact hgood.out j h1
            · rw [show j = k by omega]; exact h)
          generalize z k = x at *
          rcases Nat.lt_trichotomy Fl.I (Fl.rg x) with h1 | h1 | h1
          · have HA := Lib.hid (HBAD.out (by unfold badB; rw [decide_eq_true (by omega)]; rfl))
            go_wp2_with fail
            refine (isnan_yes x _ h1).mono ?_
            rintro e w' ⟨rfl, rfl⟩
            go_wp2
            go_ret
            exact ⟨by rw [HA.out]; rfl, rfl⟩
          · have HA := Lib.hid (HBAD.out (by unfold badB; rw [decide_eq_true (by omega)]; rfl))
            have hI : decide (Fl.rg x = Fl.I) = true := decide_eq_true h1.symm
            go_wp2_with fail
            refine (isnan_no x _ (by omega)).mono ?_
            rintro e w' ⟨rfl, rfl⟩
            go_wp2_with fail
            refine (isinf_any x _ hzk).mono ?_
            rintro e w' ⟨rfl, rfl⟩
            rw [hI]
            go_wp2
            go_ret
            exact ⟨by rw [HA.out]; rfl, rfl⟩
          · have hI : decide (Fl.rg x = Fl.I) = false := decide_eq_false (by omega)
            by_cases hneg : Fl.sg x = true ∧ 0 < Fl.rg x
            · have HA := Lib.hid (HBAD.out (by unfold badB; rw [hneg.1, decide_eq_true hneg.2]; simp))
              have ho := Fl.cmp0_lt x hneg.2 (Nat.le_of_lt h1) hneg.1
              clear hneg
              go_wp2_with fail
              refine (isnan_no x _ (by omega)).mono ?_
              rintro e w' ⟨rfl, rfl⟩
              go_wp2_with fail
              refine (isinf_any x _ hzk).mono ?_
              rintro e w' ⟨rfl, rfl⟩
              rw [hI]
              go_wp2
              go_ret
              exact ⟨by rw [HA.out]; rfl, rfl⟩
            · have hb : badB x = false := by
                unfold badB
                rw [decide_eq_false (by omega)]
                cases hs : Fl.sg x
                · rfl
                · rw [decide_eq_false (fun h => hneg ⟨hs, h⟩)]; rfl
              have HB := Lib.hid (HG.out hb)
              have ho : (FloatKind.f64.format.order x 0 == some .lt) = false := by
                by_cases hz0 : Fl.rg x = 0
                · rw [Fl.cmp0_eq x hz0]; rfl
                · rw [Fl.cmp0_gt x (by omega) (Nat.le_of_lt h1) (by
                    cases hs : Fl.sg x
                    · rfl
                    · exact absurd ⟨hs, by omega⟩ hneg)]; rfl
              clear hneg hb
              go_wp2_with fail
              refine (isnan_no x _ (by omega)).mono ?_
              rintro e w' ⟨rfl, rfl⟩
              go_wp2_with fail
              refine (isinf_any x _ hzk).mono ?_
              rintro e w' ⟨rfl, rfl⟩
              rw [hI]
              go_wp2
              go_round
              case rel => exact ⟨k + 1, hlt, by go_num, HB⟩
              case measure => simp [intOf]; omega
        · have hkn : k = n := by omega
          subst hkn
          have HT2 : Hid (T = if ((List.range k).any fun k => overB (z k)) = true then 6 else 0) := Lib.hid (by rw [HT.out, any_no hgood.out]; rfl)
          have HGOOD := hgood
          clear hgood
          go_wp2_with fail
          go_loop [34] (fun t => ∃ j : Nat, j ≤ k ∧ t = .int .i64 j ∧ Hid (∀ i, i < j → overB (z i) = false)) (fun t => k - (intOf t).toNat)
          case atStart => exact ⟨0, Nat.zero_le _, rfl, Lib.hid (fun j hj => absurd hj (Nat.not_lt_zero j))⟩
          case round =>
            obtain ⟨j, hj, rfl, hgood⟩ := hrel
            by_cases hlt2 : j < k
            · obtain ⟨ad, rfl, hc⟩ := HR.out j hlt2
              have ho := over_ord (z j) (HGOOD.out j hlt2)
              have HBAD : Hid (overB (z j) = true → T = 6) := Lib.hid (fun h => by rw [HT2.out, if_pos (any_yes hlt2 h)])
              have HG : Hid (overB (z j) = false → ∀ i, i < j + 1 → overB (z i) = false) := Lib.hid (fun h i hi => by
                rcases Nat.lt_or_ge i j with h1 | h1
                · exact hgood.out i h1
                · rw [show i = j by omega]; exact h)
              cases hov : overB (z j)
              · rw [hov] at ho
                have HB := Lib.hid (HG.out hov)
                clear hov
                go_wp2
                go_round
                case rel => exact ⟨j + 1, hlt2, by go_num, HB⟩
                case measure => simp [intOf]; omega
              · rw [hov] at ho
                have HA := Lib.hid (HBAD.out hov)
                clear hov
                go_wp2
                go_ret
                exact ⟨by rw [HA.out]; rfl, rfl⟩
            · have hjk : j = k := by omega
              subst hjk
              have HA : Hid (T = 0) := Lib.hid (by rw [HT2.out, any_no hgood.out]; rfl)
              clear hgood
              go_wp2
              go_ret
              exact ⟨by rw [HA.out]; rfl, rfl⟩
/-- Products upward, from x on: what they may be (each NaN is any). -/
def ProdIs (x : Nat) (z : Nat → Nat) : Nat → Nat → Prop
  | 0, s => s = x
  | k + 1, s => ∃ u, ProdIs x z k u ∧ Fl.Is (Fl.mulS u (z k) true) s
theorem Fl.Is_lt_mul2 {a b s : Nat} {up : Bool} (ha : a < 2 * Fl.W) (hb : b < 2 * Fl.W) (h : Fl.Is (Fl.mulS a b up) s) : s < 2 * Fl.W := by
  cases ho : Fl.mulS a b up with
  | none => rw [ho] at h; exact h.2
  | some r =>
    rw [ho] at h
    have : s = r := h
    subst this
    unfold Fl.mulS at ho
    split at ho
    · have hs : Fl.mulF a b up = s := Option.some.inj ho
      rw [← hs]
      unfold Fl.mulF
      split
      · unfold Fl.greatW; split
        · exact nearM_lt a b
        · exact Fl.wd_lt _ _ (by decide)
      · unfold Fl.sideW; split
        · exact Fl.next_lt _ _ (nearM_lt a b)
        · exact nearM_lt a b
    · exact Fl.mul_lt ho
theorem ProdIs_lt {x : Nat} {z : Nat → Nat} (hx : x < 2 * Fl.W) (hz : ∀ k, z k < 2 * Fl.W) : ∀ {n s : Nat}, ProdIs x z n s → s < 2 * Fl.W
  | 0, s, h => by have : s = x := h; subst this; exact hx
  | k + 1, s, ⟨u, h1, h2⟩ => Fl.Is_lt_mul2 (ProdIs_lt hx hz h1) (hz k) h2
/-- What product tells. -/
def ProdPost (x : Nat) (z : Nat → Nat) (n : Nat) (w : World) (e : Ending) (w' : World) : Prop := ∃ u s, ProdIs x z n u ∧ Fl.Is (Fl.addS u 103582791429521408 true) s ∧ e = .returned (.float .f64 s) ∧ Dr w w'
set_option maxRecDepth 100000 in
set_option maxHeartbeats 2000000 in
theorem product_any (x : Nat) (A : Option Addr) (n c : Nat) (z : Nat → Nat) (w : World) (hn : n ≤ 100) (hx : x < 2 * Fl.W) (hz : ∀ k, z k < 2 * Fl.W) (hr : FlsAt w A n z) :
    Calls Try.prog 25 #[.float .f64 x, .slice A n c] w (ProdPost x z n w) := by
  have HR := Lib.hid hr
  have HZ := Lib.hid hz
  have hl : (103582791429521408 : Nat) < 2 * Fl.W := by decide
  have HL := Lib.hid hl
  have HX := Lib.hid hx
  clear hr hz hl hx
  go_enter Try.func25, Try.ntmps25
  go_wp2_with fail
  go_loopw [0, 9] (fun v t wr => ∃ k s : Nat, k ≤ n ∧ t = .int .i64 k ∧ v = .float .f64 s ∧ ProdIs x z k s ∧ Dr w wr) (fun _ t _ => n - (intOf t).toNat)
  case atStart => exact ⟨0, x, Nat.zero_le _, rfl, rfl, rfl, Dr.refl w⟩
  case round =>
    obtain ⟨k, s, hk, rfl, rfl, hs, hd⟩ := hrel
    have HS := Lib.hid hs
    have HD := Lib.hid hd
    have hsl := ProdIs_lt HX.out HZ.out hs
    clear hs hd
    by_cases hlt : k < n
    · have hcell : ∃ ad, A = some ad ∧ wr.cell? (ad.add k) = some (.float .f64 (z k)) := by
        obtain ⟨ad, hA, hc⟩ := HR.out k hlt
        obtain ⟨m, rfl⟩ := HD.out
        exact ⟨ad, hA, hc⟩
      obtain ⟨ad, rfl, hc⟩ := hcell
      go_wp2_with fail
      refine (mul_any s (z k) true _ hsl (HZ.out k)).mono ?_
      rintro e w1 ⟨t, rfl, ht, hdt⟩
      have HT := Lib.hid ht
      have HE := Lib.hid (HD.out.trans hdt)
      clear ht hdt
      go_wp2
      go_roundw
      case rel => exact ⟨k + 1, t, hlt, by go_num, rfl, ⟨s, HS.out, HT.out⟩, HE.out⟩
      case measure => simp [intOf]; omega
    · have hkn : k = n := by omega
      subst hkn
      go_wp2_with fail
      refine (add_any s 103582791429521408 true _ hsl HL.out).mono ?_
      rintro e w1 ⟨t, rfl, ht, hdt⟩
      have HT := Lib.hid ht
      have HE := Lib.hid (HD.out.trans hdt)
      clear ht hdt
      go_wp2
      go_ret
      exact ⟨s, t, HS.out, HT.out, rfl, HE.out⟩
end Go.Proofs.Ytanpcieipgdnkaa

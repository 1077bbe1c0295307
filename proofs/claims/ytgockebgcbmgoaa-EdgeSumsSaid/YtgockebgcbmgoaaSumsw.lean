/-
  Walk: EdgeSums.
-/
import Derived.Test.YtgockebgcbmgoaaLent
import Derived.Test.YtgockebgcbmgoaaRefe
import Derived.Test.YtgockebgcbmgoaaAwake
set_option linter.unusedVariables false
set_option linter.unusedSimpArgs false
namespace Go.Proofs.Ytgockebgcbmgoaa
open Go.RowKit

/-- Two sums of one row are the same. -/
theorem Fl.sum_same {up : Bool} {z : Nat → Nat} (hz : ∀ k, z k < 2 * Fl.W) : ∀ {n s t : Nat}, Fl.SumIs up z n s → Fl.SumIs up z n t → Fl.Same s t
  | 0, s, t, h1, h2 => by
    have e1 : s = 0 := h1
    have e2 : t = 0 := h2
    exact .inl (by rw [e1, e2])
  | k + 1, s, t, ⟨u, a1, a2⟩, ⟨v, b1, b2⟩ => by
    rcases Fl.sum_same hz a1 b1 with h | ⟨h1, h2⟩
    · subst h; exact Fl.Is_same a2 b2
    · refine .inr ⟨?_, ?_⟩
      · rcases Fl.addS_cases (Fl.SumIs_lt hz a1) (hz k) a2 with h | ⟨_, h, _⟩
        · exact h
        · omega
      · rcases Fl.addS_cases (Fl.SumIs_lt hz b1) (hz k) b2 with h | ⟨_, h, _⟩
        · exact h
        · omega
set_option maxRecDepth 100000 in
theorem rsum_any (A : Option Addr) (n c : Nat) (z : Nat → Nat) (up : Bool) (w : World) (hz : ∀ k, z k < 2 * Fl.W) (hn : n ≤ 9223372036854775807) (hr : FloatsAt w A n z) :
    Calls Try.prog 22 #[.slice A n c, .bool up] w fun e w' => ∃ s, e = .returned (.float .f64 s) ∧ Fl.SumIs up z n s ∧ Below w.heap.size w w' := by
  have HR := Lib.hid hr
  clear hr
  go_enter Try.func22, Try.ntmps22
  go_wp2_with fail
  go_loopw [5, 6] (fun v i wr => ∃ (k s : Nat), k ≤ n ∧ i = .int .i64 k ∧ v = .float .f64 s ∧ Fl.SumIs up z k s ∧ Below w.heap.size w wr) (fun _ i _ => n - (intOf i).toNat)
  case atStart => exact ⟨0, 0, Nat.zero_le _, rfl, rfl, rfl, Below.refl _ w⟩
  case round =>
    obtain ⟨k, s, hk, rfl, rfl, hs, hd⟩ := hrel
    have hsl := Fl.SumIs_lt hz hs
    have hzk := hz k
    have HS := Lib.hid hs
    have HD := Lib.hid hd
    clear hs hd
    by_cases hlt : k < n
    · obtain ⟨ad, rfl, hc⟩ := (HR.out.below HD.out) k hlt
      go_wp2_with fail
      refine (radd_any s (z k) up _ hsl hzk).mono ?_
      rintro e w1 ⟨t, rfl, ht, hdt⟩
      have HT := Lib.hid ht
      have HE := Lib.hid (HD.out.trans (hdt.mono HD.out.size))
      clear ht hdt
      go_wp2
      go_roundw
      case rel => exact ⟨k + 1, t, hlt, by go_num, rfl, ⟨s, HS.out, HT.out⟩, HE.out⟩
      case measure => simp [intOf]; omega
    · have hkn : k = n := by omega
      subst hkn
      go_wp2
      go_ret
      exact ⟨s, rfl, HS.out, HD.out⟩
set_option maxRecDepth 400000 in
set_option maxHeartbeats 4000000 in
theorem kept_reals (A : Option Addr) (n c g : Nat) (z : Nat → Nat) (w : World) (hn : n ≤ 3000) (hl : LentAt w g n z) (hr : FloatsAt w A n z) :
    Calls Try.prog 23 #[.slice (some ⟨g, 0, none⟩) n (n + 12), .slice A n c] w fun e w' => e = .returned (.bool true) ∧ Dr w w' := by
  have HL := Lib.hid hl
  have HR := Lib.hid hr
  clear hl hr
  go_enter Try.func23, Try.ntmps23
  go_wp2_with fail
  go_loopw [6] (fun t wr => ∃ i : Nat, i ≤ n + 12 ∧ t = .int .i64 i ∧ Dr w wr) (fun t _ => n + 12 - (intOf t).toNat)
  case atStart => exact ⟨0, Nat.zero_le _, rfl, Dr.refl w⟩
  case round =>
    obtain ⟨i, hi, rfl, hd⟩ := hrel
    have HD := Lib.hid hd
    have HL1 := Lib.hid (HL.out.below (hd.below _))
    have HR1 := Lib.hid (HR.out.below (hd.below _))
    clear hd
    by_cases hlt : i < n + 12
    · by_cases hin : i < n
      · have hc1 := HL1.out.2.1 i hin
        obtain ⟨ad, rfl, hc2⟩ := HR1.out i hin
        have HSM := Lib.hid (fun (x : World) => same_yes (z i) (z i) x (.inl rfl))
        have hge2 : decide (n ≤ i) = false := by simp; omega
        go_wp2_with fail
        go_quiet ((go_at_call 15; exact Calls.quiet_of_same ((HSM.out _).mono fun _ _ he => ⟨he.1, he.2.symm⟩)))
        rename_i nq
        have HD2 := Lib.hid (HD.out.trans ⟨nq, rfl⟩)
        go_wp2
        go_roundw
        case rel => exact ⟨i + 1, by omega, by go_num, HD2.out⟩
        case measure => simp [intOf]; omega
      · obtain ⟨j, hj⟩ : ∃ j, i = n + j := ⟨i - n, by omega⟩
        have hc1 := HL1.out.2.2 j (by omega)
        rw [← hj] at hc1
        have HMK := Lib.hid (fun (x : World) => mark_any j (by omega) x)
        have hself := mark_self j (by omega)
        have hge1 : decide (i < n) = false := by simp; omega
        have hge2 : decide (n ≤ i) = true := by simp; omega
        have hsb : IntKind.i64.wrap ((i : Int) - (n : Int)) = (j : Int) := by rw [IntKind.wrap_i64]; omega
        have hsb2 : (i : Int) - (n : Int) = (j : Int) := by omega
        clear hj
        go_wp2_with fail
        go_quiet ((go_at_call 46; exact Calls.quiet_of_same ((HMK.out _).mono fun _ _ he => ⟨he.1, he.2.symm⟩)))
        rename_i nq
        have HD2 := Lib.hid (HD.out.trans ⟨nq, rfl⟩)
        go_wp2
        go_roundw
        case rel => exact ⟨i + 1, by omega, by go_num, HD2.out⟩
        case measure => simp [intOf]; omega
    · have hin : i = n + 12 := by omega
      subst hin
      go_wp2
      go_ret
      exact ⟨rfl, HD.out⟩
set_option maxRecDepth 100000 in
set_option maxHeartbeats 4000000 in
theorem sums_long (A : Option Addr) (n c : Nat) (z : Nat → Nat) (up : Bool) (w : World) (hz : ∀ k, z k < 2 * Fl.W) (hn : n ≤ 9223372036854775807) (hnc : n ≤ c) (hA : A = none → c = 0) (hr : FloatsAt w A n z) (h3 : 3000 < n) :
    Calls Try.prog 5 #[.slice A n c, .bool up] w fun e w' => e = .returned (.bool true) ∧ Below w.heap.size w w' := by
  have HR : Hid (FloatsAt w A 3000 z) := Lib.hid (fun k hk => hr k (by omega))
  have HA := Lib.hid hA
  have HZ := Lib.hid hz
  clear hr hA hz
  go_enter Try.func5, Try.ntmps5
  go_wp2_with fail
  refine (awake_any _).mono ?_
  rintro e w0 ⟨rfl, hd⟩
  have HB0 := Lib.hid (hd.below w.heap.size)
  clear hd
  go_wp2_with fail
  refine (lent_reals A 3000 c z _ (Nat.le_refl _) HA.out (by omega) (HR.out.below HB0.out)).mono ?_
  rintro e w1 ⟨g, rfl, hl, hb⟩
  have HL := Lib.hid hl
  have HB1 := Lib.hid (HB0.out.trans (hb.mono HB0.out.size))
  clear hl hb
  go_wp2_with fail
  refine (sum_any (some ⟨g, 0, none⟩) 3000 _ z up _ HZ.out (by omega) HL.out.floats).mono ?_
  rintro e w2 ⟨s, rfl, hs, hd⟩
  have HS := Lib.hid hs
  have HL2 := Lib.hid (HL.out.below (hd.below _))
  have HB2 := Lib.hid (HB1.out.trans (hd.below _))
  clear hs hd HL
  go_wp2_with fail
  refine (rsum_any A 3000 c z up _ HZ.out (by omega) (HR.out.below HB2.out)).mono ?_
  rintro e w3 ⟨t, rfl, ht, hb⟩
  have HSAME := Lib.hid (Fl.sum_same HZ.out HS.out ht)
  have HL3 := Lib.hid (HL2.out.below hb)
  have HB3 := Lib.hid (HB2.out.trans (hb.mono HB2.out.size))
  clear ht hb HL2 HS
  go_wp2_with fail
  refine (same_yes _ _ _ HSAME.out).mono ?_
  rintro e w' ⟨rfl, rfl⟩
  go_wp2_with fail
  refine (kept_reals A 3000 c g z _ (Nat.le_refl _) HL3.out (HR.out.below HB3.out)).mono ?_
  rintro e w4 ⟨rfl, hd⟩
  have HB4 := Lib.hid (HB3.out.trans (hd.below _))
  clear hd
  go_wp2
  go_ret
  exact ⟨rfl, HB4.out⟩
set_option maxRecDepth 100000 in
set_option maxHeartbeats 4000000 in
theorem sums_short (A : Option Addr) (n c : Nat) (z : Nat → Nat) (up : Bool) (w : World) (hz : ∀ k, z k < 2 * Fl.W) (hnc : n ≤ c) (hA : A = none → c = 0) (hr : FloatsAt w A n z) (h3 : n ≤ 3000) :
    Calls Try.prog 5 #[.slice A n c, .bool up] w fun e w' => e = .returned (.bool true) ∧ Below w.heap.size w w' := by
  have HR := Lib.hid hr
  have HA := Lib.hid hA
  have HZ := Lib.hid hz
  have h4 : ¬ 3000 < n := by omega
  clear hr hA hz
  go_enter Try.func5, Try.ntmps5
  go_wp2_with fail
  refine (awake_any _).mono ?_
  rintro e w0 ⟨rfl, hd⟩
  have HB0 := Lib.hid (hd.below w.heap.size)
  clear hd
  go_wp2_with fail
  refine (lent_reals A n c z _ h3 HA.out hnc (HR.out.below HB0.out)).mono ?_
  rintro e w1 ⟨g, rfl, hl, hb⟩
  have HL := Lib.hid hl
  have HB1 := Lib.hid (HB0.out.trans (hb.mono HB0.out.size))
  clear hl hb
  go_wp2_with fail
  refine (sum_any (some ⟨g, 0, none⟩) n _ z up _ HZ.out (by omega) HL.out.floats).mono ?_
  rintro e w2 ⟨s, rfl, hs, hd⟩
  have HS := Lib.hid hs
  have HL2 := Lib.hid (HL.out.below (hd.below _))
  have HB2 := Lib.hid (HB1.out.trans (hd.below _))
  clear hs hd HL
  go_wp2_with fail
  refine (rsum_any A n c z up _ HZ.out (by omega) (HR.out.below HB2.out)).mono ?_
  rintro e w3 ⟨t, rfl, ht, hb⟩
  have HSAME := Lib.hid (Fl.sum_same HZ.out HS.out ht)
  have HL3 := Lib.hid (HL2.out.below hb)
  have HB3 := Lib.hid (HB2.out.trans (hb.mono HB2.out.size))
  clear ht hb HL2 HS
  go_wp2_with fail
  refine (same_yes _ _ _ HSAME.out).mono ?_
  rintro e w' ⟨rfl, rfl⟩
  go_wp2_with fail
  refine (kept_reals A n c g z _ h3 HL3.out (HR.out.below HB3.out)).mono ?_
  rintro e w4 ⟨rfl, hd⟩
  have HB4 := Lib.hid (HB3.out.trans (hd.below _))
  clear hd
  go_wp2
  go_ret
  exact ⟨rfl, HB4.out⟩
theorem edgeSums_walk (w : World) (A : Option Addr) (n c : Nat) (z : Nat → Nat) (up : Bool) (hs : FloatSlice w A n c z ∧ (A = none → c = 0)) :
    Calls Try.prog 5 #[.slice A n c, .bool up] w fun e w' => e = .returned (.bool true) ∧ Below w.heap.size w w' := by
  obtain ⟨⟨h1, h2, h3, h4⟩, h5⟩ := hs
  by_cases h : 3000 < n
  · exact sums_long A n c z up w h3 h2 h1 h5 h4 h
  · exact sums_short A n c z up w h3 h1 h5 h4 (by omega)
end Go.Proofs.Ytgockebgcbmgoaa

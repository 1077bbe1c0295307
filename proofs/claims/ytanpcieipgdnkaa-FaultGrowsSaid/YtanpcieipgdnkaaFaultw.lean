/-
  Walk: FaultGrows.
-/
import Derived.Test.YtanpcieipgdnkaaFaulte
import Derived.Test.YtanpcieipgdnkaaStepsw
set_option linter.unusedVariables false
set_option linter.unusedSimpArgs false
namespace Go.Proofs.Ytanpcieipgdnkaa
open Go.RowKit

theorem turn_is (order : Int) (k x : Nat) (w : World) (ho : order = (k : Int)) (hk : k ≤ 14) (hx : Sz x) :
    Calls Try.prog 9 #[.int .i64 order, .float .f64 x] w fun e w' => ∃ s, e = .returned (.tuple #[.float .f64 s, .int .i64 0]) ∧ (TurnIs k x s ∧ s < 2 * Fl.W) ∧ Below w.heap.size w w' := by
  subst ho
  refine (turn_any (k : Int) x w hx.facts.1).mono ?_
  rintro e w' ⟨s, he, _, h0, hb⟩
  rw [may_turn hk hx] at he
  rw [Int.toNat_natCast] at h0
  obtain ⟨u, hu, hs⟩ := h0 (may_turn hk hx)
  obtain ⟨w1, _, _⟩ := mul_pos hk hx hu
  exact ⟨s, he, ⟨⟨u, hu, hs⟩, Is_add_lt2 w1 (by decide) hs⟩, hb⟩
theorem ring_is (order : Int) (k a b : Nat) (w : World) (ho : order = (k : Int)) (hk : k ≤ 14) (ha : Sz a) (hb : Sz b) :
    Calls Try.prog 11 #[.int .i64 order, .float .f64 a, .float .f64 b] w fun e w' => ∃ s, e = .returned (.tuple #[.float .f64 s, .int .i64 0]) ∧ (RingIs k a b s ∧ s < 2 * Fl.W) ∧ Below w.heap.size w w' := by
  subst ho
  refine (ring_any (k : Int) a b w ha.facts.1 hb.facts.1).mono ?_
  rintro e w' ⟨s, T, he, _, h0, hbl⟩
  rw [Int.toNat_natCast] at h0
  obtain ⟨u, r, ⟨u2, ⟨u1, ⟨u0, h00, h1⟩, h2⟩, h3⟩, hr, hor⟩ := h0 (may_ring hk ha hb)
  rw [z3_0] at h1
  rw [z3_1] at h2
  rw [z3_2] at h3
  have e0 : u0 = rC k := h00
  rw [e0] at h1
  have hring : RingIs k a b r := ⟨u1, u2, u, h1, h2, h3, hr⟩
  obtain ⟨_, _, _, w3, _⟩ := ring_chain hk ha hb h1 h2 h3
  have hrw : r < 2 * Fl.W := Is_add_lt2 w3 (by decide) hr
  rcases hor with ⟨h, _⟩ | ⟨_, rfl, rfl⟩
  · have := (hring.fin hk ha hb).1.1
    omega
  · exact ⟨_, he, ⟨hring, hrw⟩, hbl⟩
theorem abs_tame (y : Nat) (w : World) (hy : y < 2 * Fl.W) : Calls Try.prog 19 #[.float .f64 y] w fun e w' => e = .returned (.float .f64 (Fl.rg y)) ∧ w = w' := abs_any y w hy
set_option maxRecDepth 400000 in
set_option maxHeartbeats 8000000 in
theorem faultGrows_go (order : Int) (a b c : Nat) (w : World) (ha : a < 2 * Fl.W) (hb : b < 2 * Fl.W) (hc : c < 2 * Fl.W) (ho1 : -9223372036854775808 ≤ order) (ho2 : order ≤ 9223372036854775807) :
    Calls Try.prog 5 #[.int .i64 order, .float .f64 a, .float .f64 b, .float .f64 c] w fun e w' => e = .returned (.bool true) ∧ Below w.heap.size w w' := by
  have HPK := Lib.hid (fun w => pick_any order 14 w (by decide) (by decide) ho1 ho2)
  have HTA := Lib.hid (fun w => tame_any a w ha)
  have HTB := Lib.hid (fun w => tame_any b w hb)
  have HTC := Lib.hid (fun w => tame_any c w hc)
  clear ho1 ho2 ha hb hc
  go_enter Try.func5, Try.ntmps5
  go_wp2_with fail
  refine (awake9_any _).mono ?_
  rintro e w0 ⟨rfl, hb⟩
  have HB0 := Lib.hid hb
  clear hb
  go_wp2_with fail
  refine (HPK.out _).mono ?_
  rintro e w' ⟨k, rfl, hk, rfl⟩
  have hk13 : k ≤ 13 := by omega
  clear hk
  go_wp2_with fail
  refine (HTA.out _).mono ?_
  rintro e w' ⟨ya, rfl, hya, hta, rfl⟩
  have HTA := Lib.hid hta
  clear hta
  go_wp2_with fail
  refine (abs_tame ya _ hya).mono ?_
  rintro e w' ⟨rfl, rfl⟩
  generalize Fl.rg ya = ta at *
  clear hya
  go_wp2_with fail
  refine (HTB.out _).mono ?_
  rintro e w' ⟨yb, rfl, hyb, htb, rfl⟩
  have HTBb := Lib.hid htb
  clear htb
  go_wp2_with fail
  refine (abs_tame yb _ hyb).mono ?_
  rintro e w' ⟨rfl, rfl⟩
  generalize Fl.rg yb = tb at *
  clear hyb
  go_wp2_with fail
  refine (HTC.out _).mono ?_
  rintro e w' ⟨yc, rfl, hyc, htc, rfl⟩
  have HTC := Lib.hid htc
  clear htc
  go_wp2_with fail
  refine (abs_tame yc _ hyc).mono ?_
  rintro e w' ⟨rfl, rfl⟩
  generalize Fl.rg yc = tc at *
  clear hyc
  have HSA := Lib.hid HTA.out.dbl.1
  have hai : ta ≤ Fl.I := Nat.le_trans HTA.out.dbl.1 (by decide)
  have hbi : tb ≤ Fl.I := Nat.le_trans HTBb.out.dbl.1 (by decide)
  have hmin := run_min_fl ta tb hai hbi
  have hmax := run_max_fl ta tb hai hbi
  obtain ⟨A, hA⟩ : ∃ A, A = min ta tb := ⟨_, rfl⟩
  obtain ⟨Bm, hBm⟩ : ∃ Bm, Bm = max ta tb := ⟨_, rfl⟩
  have hTA : Tame A := by rw [hA]; rcases Nat.le_total ta tb with h | h; rw [Nat.min_eq_left h]; exact HTA.out; rw [Nat.min_eq_right h]; exact HTBb.out
  have hTB : Tame Bm := by rw [hBm]; rcases Nat.le_total ta tb with h | h; rw [Nat.max_eq_right h]; exact HTBb.out; rw [Nat.max_eq_left h]; exact HTA.out
  have HAB : Hid (A ≤ Bm) := Lib.hid (by omega)
  rw [← hA] at hmin
  rw [← hBm] at hmax
  obtain ⟨sA, _⟩ := hTA.dbl
  obtain ⟨sB, sD, hdm, hdv, hdle⟩ := hTB.dbl
  obtain ⟨sC, _⟩ := HTC.out.dbl
  have hm2 := fun w => run_float_arith (P := Try.prog) w .mul 22 .f64 4611686018427387904 Bm _ hdm
  obtain ⟨D, hD⟩ : ∃ D, D = dblW Bm := ⟨_, rfl⟩
  rw [← hD] at hm2 sD hdv hdle
  have HSZ := Lib.hid (And.intro sA (And.intro sB (And.intro sC sD)))
  have HDV := Lib.hid (And.intro hdv hdle)
  clear hA hBm hTA hTB sA sB sC sD hdm hdv hdle hD hai hbi HTA HTBb HTC HSA
  go_wp2_with fail
  refine (turn_is _ k A _ (by omega) (by omega) HSZ.out.1).mono ?_
  rintro e w1 ⟨p, rfl, hp, hbb⟩
  have Hp := Lib.hid hp
  have HB1 := Lib.hid (HB0.out.trans (hbb.mono HB0.out.size))
  clear hp hbb
  go_wp2_with fail
  refine (turn_is _ k Bm _ (by omega) (by omega) HSZ.out.2.1).mono ?_
  rintro e w2 ⟨q, rfl, hq, hbb⟩
  have Hq := Lib.hid hq
  have HB2 := Lib.hid (HB1.out.trans (hbb.mono HB1.out.size))
  clear hq hbb
  go_wp2_with fail
  refine (turn_is _ (k + 1) Bm _ (by omega) (by omega) HSZ.out.2.1).mono ?_
  rintro e w3 ⟨r, rfl, hr, hbb⟩
  have Hr := Lib.hid hr
  have HB3 := Lib.hid (HB2.out.trans (hbb.mono HB2.out.size))
  clear hr hbb
  go_wp2_with fail
  refine (turn_is _ k D _ (by omega) (by omega) HSZ.out.2.2.2).mono ?_
  rintro e w4 ⟨s, rfl, hs, hbb⟩
  have Hs := Lib.hid hs
  have HB4 := Lib.hid (HB3.out.trans (hbb.mono HB3.out.size))
  clear hs hbb
  go_wp2_with fail
  refine (ring_is _ k A tc _ (by omega) (by omega) HSZ.out.1 HSZ.out.2.2.1).mono ?_
  rintro e w5 ⟨t, rfl, ht, hbb⟩
  have Ht := Lib.hid ht
  have HB5 := Lib.hid (HB4.out.trans (hbb.mono HB4.out.size))
  clear ht hbb
  go_wp2_with fail
  refine (ring_is _ k Bm tc _ (by omega) (by omega) HSZ.out.2.1 HSZ.out.2.2.1).mono ?_
  rintro e w6 ⟨u, rfl, hu, hbb⟩
  have Hu := Lib.hid hu
  have HB6 := Lib.hid (HB5.out.trans (hbb.mono HB5.out.size))
  clear hu hbb
  go_wp2_with fail
  refine (ring_is _ (k + 1) Bm tc _ (by omega) (by omega) HSZ.out.2.1 HSZ.out.2.2.1).mono ?_
  rintro e w7 ⟨v, rfl, hv, hbb⟩
  have Hv := Lib.hid hv
  have HB7 := Lib.hid (HB6.out.trans (hbb.mono HB6.out.size))
  clear hv hbb
  go_wp2_with fail
  refine (ring_is _ k tc D _ (by omega) (by omega) HSZ.out.2.2.1 HSZ.out.2.2.2).mono ?_
  rintro e w8 ⟨ww, rfl, hww, hbb⟩
  have Hww := Lib.hid hww
  have HB8 := Lib.hid (HB7.out.trans (hbb.mono HB7.out.size))
  clear hww hbb
  go_wp2_with fail
  refine (ring_is _ k tc Bm _ (by omega) (by omega) HSZ.out.2.2.1 HSZ.out.2.1).mono ?_
  rintro e w9 ⟨x, rfl, hx, hbb⟩
  have Hx := Lib.hid hx
  have HB9 := Lib.hid (HB8.out.trans (hbb.mono HB8.out.size))
  clear hx hbb
  have fp := TurnIs.fin (k := k) (by omega) HSZ.out.1 Hp.out.1
  have fq := TurnIs.fin (k := k) (by omega) HSZ.out.2.1 Hq.out.1
  have fr := TurnIs.fin (k := (k + 1)) (by omega) HSZ.out.2.1 Hr.out.1
  have fs := TurnIs.fin (k := k) (by omega) HSZ.out.2.2.2 Hs.out.1
  have ft := RingIs.fin (k := k) (by omega) HSZ.out.1 HSZ.out.2.2.1 Ht.out.1
  have fu := RingIs.fin (k := k) (by omega) HSZ.out.2.1 HSZ.out.2.2.1 Hu.out.1
  have fv := RingIs.fin (k := (k + 1)) (by omega) HSZ.out.2.1 HSZ.out.2.2.1 Hv.out.1
  have fww := RingIs.fin (k := k) (by omega) HSZ.out.2.2.1 HSZ.out.2.2.2 Hww.out.1
  have fx := RingIs.fin (k := k) (by omega) HSZ.out.2.2.1 HSZ.out.2.1 Hx.out.1
  have dq := told_word fq.1 fq.2.1 fq.2.2 Hq.out.2
  have dx := told_word fx.1 fx.2.1 fx.2.2 Hx.out.2
  have hnx := fac_next ⟨k, by omega⟩
  have l0 : Fl.rg 103582791429521408 ≤ Fl.I := by decide
  have c1 := ge_test (Nat.le_of_lt fp.1.1) l0 fp.2.2
  have c2 := le_test (Nat.le_of_lt fp.1.1) (Nat.le_of_lt fq.1.1) (TurnIs.mono (by omega) (by omega) HSZ.out.1 HSZ.out.2.1 Hp.out.1 Hq.out.1 (Int.le_refl _) HAB.out)
  have c3 := le_test (Nat.le_of_lt fq.1.1) (Nat.le_of_lt fr.1.1) (TurnIs.mono (by omega) (by omega) HSZ.out.2.1 HSZ.out.2.1 Hq.out.1 Hr.out.1 hnx.1 (Nat.le_refl _))
  have c4 := le_test (Nat.le_of_lt fq.1.1) (Nat.le_of_lt fs.1.1) (TurnIs.mono (by omega) (by omega) HSZ.out.2.1 HSZ.out.2.2.2 Hq.out.1 Hs.out.1 (Int.le_refl _) HDV.out.2)
  have c5 := le_test (Nat.le_of_lt fs.1.1) dq.2.2.1 (Fl.vl_le.1 (by rw [dq.2.1]; exact TurnIs.twice (by omega) HSZ.out.2.1 HSZ.out.2.2.2 Hq.out.1 Hs.out.1 HDV.out.1))
  have c6 := ge_test (Nat.le_of_lt ft.1.1) l0 ft.2.2
  have c7 := le_test (Nat.le_of_lt ft.1.1) (Nat.le_of_lt fu.1.1) (RingIs.mono (by omega) (by omega) HSZ.out.1 HSZ.out.2.1 HSZ.out.2.2.1 HSZ.out.2.2.1 Ht.out.1 Hu.out.1 (Int.le_refl _) (Int.le_refl _) HAB.out (Nat.le_refl _))
  have c8 := le_test (Nat.le_of_lt fu.1.1) (Nat.le_of_lt fv.1.1) (RingIs.mono (by omega) (by omega) HSZ.out.2.1 HSZ.out.2.1 HSZ.out.2.2.1 HSZ.out.2.2.1 Hu.out.1 Hv.out.1 hnx.2.1 hnx.2.2 (Nat.le_refl _) (Nat.le_refl _))
  have c9 := le_test (Nat.le_of_lt fx.1.1) (Nat.le_of_lt fww.1.1) (RingIs.mono (by omega) (by omega) HSZ.out.2.2.1 HSZ.out.2.2.1 HSZ.out.2.1 HSZ.out.2.2.2 Hx.out.1 Hww.out.1 (Int.le_refl _) (Int.le_refl _) (Nat.le_refl _) HDV.out.2)
  have c10 := le_test (Nat.le_of_lt fww.1.1) dx.2.2.1 (Fl.vl_le.1 (by rw [dx.2.1]; exact RingIs.twice (by omega) HSZ.out.2.2.1 HSZ.out.2.1 HSZ.out.2.2.2 Hx.out.1 Hww.out.1 HDV.out.1))
  have m1 := fun w => run_float_arith (P := Try.prog) w .mul 22 .f64 4611686018427387904 q _ dq.1
  have m2 := fun w => run_float_arith (P := Try.prog) w .mul 22 .f64 4611686018427387904 x _ dx.1
  clear fp fq fr fs ft fu fv fww fx dq dx hnx l0 Hp Hq Hr Hs Ht Hu Hv Hww Hx hmin hmax hm2
  generalize q + Fl.B = q2 at *
  generalize x + Fl.B = x2 at *
  go_wp2
  go_ret
  exact ⟨rfl, HB9.out⟩
theorem wf_int {n : Int} (h : (Lit.int .i64 n).wf = true) : -9223372036854775808 ≤ n ∧ n ≤ 9223372036854775807 := by
  simp [Lit.wf, IntKind.min, IntKind.max, IntKind.signed, IntKind.bits] at h
  omega
theorem faultGrows_walk (order : Int) (a b c : Nat) (wo : (Lit.int .i64 order).wf = true) (wa : (Lit.float .f64 a).wf = true) (wb : (Lit.float .f64 b).wf = true) (wc : (Lit.float .f64 c).wf = true) (w : World) :
    Calls Try.prog 5 #[.int .i64 order, .float .f64 a, .float .f64 b, .float .f64 c] w fun e w' => e = .returned (.bool true) ∧ Below w.heap.size w w' :=
  faultGrows_go order a b c w (wf_float wa) (wf_float wb) (wf_float wc) (wf_int wo).1 (wf_int wo).2
end Go.Proofs.Ytanpcieipgdnkaa

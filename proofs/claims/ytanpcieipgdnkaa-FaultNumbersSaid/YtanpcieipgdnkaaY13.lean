/-
  The row of FaultNumbers: for every input the call answers true, and every argument reads behind it as before. No condition.
  A row's last step behind a call of which one knows that it turned nothing below the heap's end.
  Walk: FaultNumbers: all orders, and one past each end, with the ends of sizes; the examples.
  Walk: FaultTells: any order, any sizes: the program's bounds are the document's.
  rosetteref09's Ring.
-/
import Derived.Test.YtanpcieipgdnkaaY12
import Derived.Deep.RegionWith
import Derived.Test.YtanpcieipgdnkaaRows
import Derived.WalkKit
import Derived.ProofKit
import Derived.OpenShut
import Derived.Laws.Cover2
import Derived.Below
import Derived.ChangeSame
set_option linter.unusedVariables false
set_option linter.unusedSimpArgs false
namespace Go.Proofs.Ytanpcieipgdnkaa
open Go.RowKit
theorem may2 (order : Int) (a b : Nat) : mayV order 2 (z2 a b) = if order < 0 ∨ 14 < order then 2 else if (badB a || badB b) = true then 5 else if (overB a || overB b) = true then 6 else 0 := by
  have e : ∀ p : Nat → Bool, ((List.range 2).any fun k => p (z2 a b k)) = (p a || p b) := fun p => by simp [List.range_succ, z2]
  unfold mayV
  rw [e badB, e overB]
/-- The reference's chain is finite up to the last product. -/
theorem ring_fin {k a b k1 : Nat} (hk : k ≤ 14) (ha : Ok9 a) (hb : Ok9 b) (h1 : Fl.UpW (Fl.rv (Fl.rg (rC k)) * Fl.rv (Fl.rg (rS k))) k1) :
    k1 < Fl.I ∧ ∀ k2, Fl.UpW (Fl.rv (Fl.rg k1) * Fl.rv (Fl.rg a)) k2 → k2 < Fl.I := by
  obtain ⟨_, _, _, _, f1, f2, f3, f4, f5, f6, f7, f8⟩ := fac_at k hk
  obtain ⟨u1, e1, _⟩ := Fl.mulS_dir (rC k) (rS k) true f1 f4
  obtain ⟨_, _, _, _, g1, g2, _, g4, g5, _⟩ := fac_at 14 (by omega)
  obtain ⟨t1, t2, t3, t4, t5, t6⟩ := most_r
  have i1 : Fl.Is (Fl.mulS (rC k) (rS k) true) u1 := by rw [e1]; rfl
  have s1 := Fl.step_pos ⟨f1, f2⟩ ⟨f4, f5⟩ i1 ⟨g1, g2⟩ ⟨g4, g5⟩ t1 t3 f3 f6
  obtain ⟨u2, e2, _⟩ := Fl.mulS_dir u1 a true s1.1.1 ha.2.1.1
  have i2 : Fl.Is (Fl.mulS u1 a true) u2 := by rw [e2]; rfl
  have s2 := Fl.step_pos s1.1 ha.2.1 i2 ⟨t3, t4⟩ most9 t2 t5 s1.2 ha.2.2
  obtain ⟨u3, e3, _⟩ := Fl.mulS_dir u2 b true s2.1.1 hb.2.1.1
  have i3 : Fl.Is (Fl.mulS u2 b true) u3 := by rw [e3]; rfl
  obtain ⟨h2, h3⟩ := ring_join hk ha hb i1 i2 i3 h1
  exact ⟨h2, fun k2 hk2 => (h3 k2 hk2).1⟩
/-- What the reference's Ring tells. -/
def RRingM (M : Int) (order : Int) (a b : Nat) (w : World) (e : Ending) (w' : World) : Prop :=
  ∃ s T, e = .returned (.tuple #[.float .f64 s, .int .i64 T]) ∧ (M ≠ 0 → T = M ∧ s = 0) ∧
    (M = 0 → ∃ k1 k2 k3 F, Fl.UpW (Fl.rv (Fl.rg (rC order.toNat)) * Fl.rv (Fl.rg (rS order.toNat))) k1 ∧ Fl.UpW (Fl.rv (Fl.rg k1) * Fl.rv (Fl.rg a)) k2 ∧ Fl.UpW (Fl.rv (Fl.rg k2) * Fl.rv (Fl.rg b)) k3 ∧
      (k3 < Fl.I → Fl.UpW ((Fl.rv (Fl.rg k3) + Fl.rv (Fl.rg least)) * 2 ^ 1074) F) ∧ (¬ k3 < Fl.I → F = k3) ∧ ((F < Fl.I ∧ T = 0 ∧ s = F) ∨ (¬ F < Fl.I ∧ T = 6 ∧ s = 0))) ∧ Below w.heap.size w w'
def RRingPost (order : Int) (a b : Nat) (w : World) (e : Ending) (w' : World) : Prop := RRingM (mayV order 2 (z2 a b)) order a b w e w'
/-- The words of the chain. -/
def Chain9 (k a b k1 k2 k3 F : Nat) : Prop := Fl.UpW (Fl.rv (Fl.rg (rC k)) * Fl.rv (Fl.rg (rS k))) k1 ∧ Fl.UpW (Fl.rv (Fl.rg k1) * Fl.rv (Fl.rg a)) k2 ∧ Fl.UpW (Fl.rv (Fl.rg k2) * Fl.rv (Fl.rg b)) k3 ∧
      (k3 < Fl.I → Fl.UpW ((Fl.rv (Fl.rg k3) + Fl.rv (Fl.rg least)) * 2 ^ 1074) F) ∧ (¬ k3 < Fl.I → F = k3)
/-- The last word is one: at most an infinity. -/
theorem Chain9.last {k a b k1 k2 k3 F : Nat} (h : Chain9 k a b k1 k2 k3 F) : F < 2 * Fl.W ∧ Fl.rg F = F := by
  obtain ⟨_, _, h3, h4, h5⟩ := h
  by_cases hf : k3 < Fl.I
  · obtain ⟨p1, p2, p3, p4⟩ := up_word (h4 hf); exact ⟨p2, p4⟩
  · obtain ⟨p1, p2, p3, p4⟩ := up_word h3
    rw [h5 hf]; exact ⟨p2, p4⟩
set_option maxRecDepth 100000 in
set_option maxHeartbeats 4000000 in
theorem rring_any (order : Int) (a b : Nat) (w : World) (ha : a < 2 * Fl.W) (hb : b < 2 * Fl.W) : Calls Try.prog 12 #[.int .i64 order, .float .f64 a, .float .f64 b] w (RRingPost order a b w) := by
  have HO := Lib.hid (fun w => rorder_any order w)
  have HSA := Lib.hid (fun w => rsize_any a w ha)
  have HSB := Lib.hid (fun w => rsize_any b w hb)
  have HMO := Lib.hid most_any
  have HLE := Lib.hid least_any
  have hpost : RRingPost order a b w = RRingM (mayV order 2 (z2 a b)) order a b w := rfl
  rw [hpost]
  clear hpost
  obtain ⟨M, hM⟩ : ∃ M, M = mayV order 2 (z2 a b) := ⟨_, rfl⟩
  rw [← hM]
  rw [may2] at hM
  by_cases h : order < 0 ∨ 14 < order
  · rw [if_pos h] at hM
    have e : decide (0 ≤ order ∧ order ≤ 14) = false := decide_eq_false (by omega)
    rw [e] at HO
    subst hM
    clear h e
    go_enter Try.func12, Try.ntmps12
    go_wp2_with fail
    refine (HO.out _).mono ?_
    rintro r w' ⟨rfl, rfl⟩
    go_wp2
    go_ret2
    exact ⟨0, 2, rfl, fun _ => ⟨rfl, rfl⟩, fun h => absurd h (by decide), Below.refl _ _⟩
  · rw [if_neg h] at hM
    have e : decide (0 ≤ order ∧ order ≤ 14) = true := decide_eq_true (by omega)
    rw [e] at HO
    obtain ⟨k, rfl⟩ : ∃ k : Nat, order = k := ⟨order.toNat, by omega⟩
    have hk : k ≤ 14 := by omega
    clear h e
    cases hba : badB a
    · rw [hba] at HSA hM
      cases hbb : badB b
      · rw [hbb] at HSB hM
        rw [if_neg (by simp)] at hM
        have hoa := over_ord a hba
        have hob := over_ord b hbb
        cases hva : overB a
        · rw [hva] at hM hoa
          cases hvb : overB b
          · rw [hvb, if_neg (by simp)] at hM
            rw [hvb] at hob
            have oka := ok_of_may ha hba hva
            have okb := ok_of_may hb hbb hvb
            obtain ⟨-, -, -, -, f1, f2, -, f4, f5, -, f7, f8⟩ := fac_at k hk
            have HPA := Lib.hid (fun w => rpart_r k hk w)
            have HRO := Lib.hid (fun w => rroot_any k w hk)
            have HT1 := Lib.hid (fun w => rtimes_fin (rC k) (rS k) w f7 f8 f1 f4 f2 f5)
            have HFIN := Lib.hid (fun k1 (h : Fl.UpW (Fl.rv (Fl.rg (rC k)) * Fl.rv (Fl.rg (rS k))) k1) => ring_fin hk oka okb h)
            have HA9 := Lib.hid oka
            have HB9 := Lib.hid okb
            have hw0 : IntKind.i64.wrap ((k : Int) + 1) = (k : Int) + 1 := by rw [IntKind.wrap_i64]; omega
            have hw8 : IntKind.i64.wrap (16 * ((k : Int) + 1)) = 16 * ((k : Int) + 1) := by rw [IntKind.wrap_i64]; omega
            subst hM
            clear hba hbb hva hvb oka okb f1 f2 f4 f5 f7 f8
            go_enter Try.func12, Try.ntmps12
            go_wp2_with fail
            refine (HO.out _).mono ?_
            rintro r w' ⟨rfl, rfl⟩
            go_wp2_with fail
            refine (HSA.out _).mono ?_
            rintro r w1 ⟨rfl, hd1⟩
            have HB1 := Lib.hid (hd1.below2 w.heap.size)
            clear hd1
            go_wp2_with fail
            refine (HSB.out _).mono ?_
            rintro r w2 ⟨rfl, hd2⟩
            have HB2 := Lib.hid (HB1.out.trans (hd2.below2 w.heap.size))
            clear hd2
            go_wp2_with fail
            refine (HMO.out _).mono ?_
            rintro r w' ⟨rfl, rfl⟩
            go_wp2_with fail
            refine (HMO.out _).mono ?_
            rintro r w' ⟨rfl, rfl⟩
            go_wp2_with fail
            refine (HPA.out _).mono ?_
            rintro r w' ⟨rfl, rfl⟩
            go_wp2_with fail
            refine (HRO.out _).mono ?_
            rintro r w' ⟨rfl, rfl⟩
            go_wp2_with fail
            refine (HT1.out _).mono ?_
            rintro r w3 ⟨k1, rfl, -, hu1, hb3⟩
            have HU1 := Lib.hid hu1
            have HB3 := Lib.hid (HB2.out.trans (hb3.mono HB2.out.size))
            obtain ⟨fi1, HF2⟩ := HFIN.out k1 hu1
            obtain ⟨p1, p2, p3, p4⟩ := up_word hu1
            have HT2 := Lib.hid (fun w => rtimes_fin k1 a w p2 HA9.out.1 (by rw [p4]; exact fi1) HA9.out.2.1.1 p3 HA9.out.2.1.2)
            have HF2 := Lib.hid HF2
            clear hu1 hb3 fi1 p1 p2 p3 p4
            go_wp2_with fail
            refine (HT2.out _).mono ?_
            rintro r w4 ⟨k2, rfl, -, hu2, hb4⟩
            have HU2 := Lib.hid hu2
            have HB4 := Lib.hid (HB3.out.trans (hb4.mono HB3.out.size))
            have fi2 := HF2.out k2 hu2
            obtain ⟨p1, p2, p3, p4⟩ := up_word hu2
            have HT3 := Lib.hid (fun w => rtimes_fin k2 b w p2 HB9.out.1 (by rw [p4]; exact fi2) HB9.out.2.1.1 p3 HB9.out.2.1.2)
            clear hu2 hb4 fi2 p1 p2 p3 p4
            go_wp2_with fail
            refine (HT3.out _).mono ?_
            rintro r w5 ⟨k3, rfl, -, hu3, hb5⟩
            have HU3 := Lib.hid hu3
            have HB5 := Lib.hid (HB4.out.trans (hb5.mono HB4.out.size))
            clear hu3 hb5
            go_wp2_with fail
            refine (HLE.out _).mono ?_
            rintro r w' ⟨rfl, rfl⟩
            have HPL : Hid (∀ w, Calls Try.prog 27 #[.float .f64 k3, .float .f64 least] w fun r w' => ∃ F, r = .returned (.float .f64 F) ∧ Chain9 k a b k1 k2 k3 F ∧ Below w.heap.size w w') := Lib.hid (fun w => by
              by_cases hf : k3 < Fl.I
              · obtain ⟨q1, q2, q3, q4⟩ := up_word HU3.out
                refine (rplus_fin k3 least w q2 least9.2.1 (by rw [q4]; exact hf) least9.1.1 q3 least9.1.2).mono ?_
                rintro r w' ⟨F, h1, _, h2, h3⟩
                exact ⟨F, h1, ⟨HU1.out, HU2.out, HU3.out, fun _ => h2, fun h => absurd hf h⟩, h3⟩
              · refine (rplus_inf k3 least w (by rw [(up_word HU3.out).2.2.2]; exact hf)).mono ?_
                rintro r w' ⟨h1, h3⟩
                exact ⟨k3, h1, ⟨HU1.out, HU2.out, HU3.out, fun h => absurd h hf, fun _ => rfl⟩, h3⟩)
            go_wp2_with fail
            refine (HPL.out _).mono ?_
            rintro r w6 ⟨F, rfl, hch, hb6⟩
            have HCH := Lib.hid hch
            have HB6 := Lib.hid (HB5.out.trans (hb6.mono HB5.out.size))
            obtain ⟨fw, fr⟩ := hch.last
            clear hch hb6
            by_cases hfin : F < Fl.I
            · have r1 := fun w => run_float_arith (P := Try.prog) w .sub 22 .f64 F F 0 (Fl.sub_self_fin F fw (by rw [fr]; exact hfin))
              have o1 : FloatKind.f64.format.order 0 0 = some .eq := by decide
              have HFI := Lib.hid hfin
              clear hfin fw fr
              go_wp2
              go_ret2
              obtain ⟨c1, c2, c3, c4, c5⟩ := HCH.out
              exact ⟨F, 0, rfl, fun h => absurd rfl h, fun _ => ⟨k1, k2, k3, F, c1, c2, c3, c4, c5, .inl ⟨HFI.out, rfl, rfl⟩⟩, HB6.out⟩
            · obtain ⟨s, w7, hr, hs, hw7⟩ := run_float_any .sub 22 F F w6 (by simp)
              have hs1 : Fl.Is none s := by rw [← Fl.sub_self_not F (by rw [fr]; exact hfin)]; exact hs
              have ho := nan_order s hs1.1
              have HD : Hid (Dr w6 w7) := by rcases hw7 with rfl | rfl; exact Dr.refl _; exact Dr.drew _
              have HFI := Lib.hid hfin
              have HB7 := Lib.hid (HB6.out.trans (HD.out.below2 w.heap.size))
              clear hfin fw fr hs hs1 hw7
              go_wp2
              go_ret2
              obtain ⟨c1, c2, c3, c4, c5⟩ := HCH.out
              exact ⟨0, 6, rfl, fun h => absurd rfl h, fun _ => ⟨k1, k2, k3, F, c1, c2, c3, c4, c5, .inr ⟨HFI.out, rfl, rfl⟩⟩, HB7.out⟩
          · rw [hvb, if_pos (by simp)] at hM
            rw [hvb] at hob
            subst hM
            clear hba hbb hva hvb
            go_enter Try.func12, Try.ntmps12
            go_wp2_with fail
            refine (HO.out _).mono ?_
            rintro r w' ⟨rfl, rfl⟩
            go_wp2_with fail
            refine (HSA.out _).mono ?_
            rintro r w1 ⟨rfl, hd1⟩
            have HB1 := Lib.hid (hd1.below2 w.heap.size)
            clear hd1
            go_wp2_with fail
            refine (HSB.out _).mono ?_
            rintro r w2 ⟨rfl, hd2⟩
            have HB2 := Lib.hid (HB1.out.trans (hd2.below2 w.heap.size))
            clear hd2
            go_wp2_with fail
            refine (HMO.out _).mono ?_
            rintro r w' ⟨rfl, rfl⟩
            go_wp2_with fail
            refine (HMO.out _).mono ?_
            rintro r w' ⟨rfl, rfl⟩
            go_wp2
            go_ret2
            exact ⟨0, 6, rfl, fun _ => ⟨rfl, rfl⟩, fun h => absurd h (by decide), HB2.out⟩
        · rw [hva, if_pos (by simp)] at hM
          rw [hva] at hoa
          subst hM
          clear hba hbb hva hob
          go_enter Try.func12, Try.ntmps12
          go_wp2_with fail
          refine (HO.out _).mono ?_
          rintro r w' ⟨rfl, rfl⟩
          go_wp2_with fail
          refine (HSA.out _).mono ?_
          rintro r w1 ⟨rfl, hd1⟩
          have HB1 := Lib.hid (hd1.below2 w.heap.size)
          clear hd1
          go_wp2_with fail
          refine (HSB.out _).mono ?_
          rintro r w2 ⟨rfl, hd2⟩
          have HB2 := Lib.hid (HB1.out.trans (hd2.below2 w.heap.size))
          clear hd2
          go_wp2_with fail
          refine (HMO.out _).mono ?_
          rintro r w' ⟨rfl, rfl⟩
          go_wp2
          go_ret2
          exact ⟨0, 6, rfl, fun _ => ⟨rfl, rfl⟩, fun h => absurd h (by decide), HB2.out⟩
      · rw [hbb] at HSB hM
        rw [if_pos (by simp)] at hM
        subst hM
        clear hba hbb
        go_enter Try.func12, Try.ntmps12
        go_wp2_with fail
        refine (HO.out _).mono ?_
        rintro r w' ⟨rfl, rfl⟩
        go_wp2_with fail
        refine (HSA.out _).mono ?_
        rintro r w1 ⟨rfl, hd1⟩
        have HB1 := Lib.hid (hd1.below2 w.heap.size)
        clear hd1
        go_wp2_with fail
        refine (HSB.out _).mono ?_
        rintro r w2 ⟨rfl, hd2⟩
        have HB2 := Lib.hid (HB1.out.trans (hd2.below2 w.heap.size))
        clear hd2
        go_wp2
        go_ret2
        exact ⟨0, 5, rfl, fun _ => ⟨rfl, rfl⟩, fun h => absurd h (by decide), HB2.out⟩
    · rw [hba] at HSA hM
      rw [if_pos (by simp)] at hM
      subst hM
      clear hba
      go_enter Try.func12, Try.ntmps12
      go_wp2_with fail
      refine (HO.out _).mono ?_
      rintro r w' ⟨rfl, rfl⟩
      go_wp2_with fail
      refine (HSA.out _).mono ?_
      rintro r w1 ⟨rfl, hd1⟩
      have HB1 := Lib.hid (hd1.below2 w.heap.size)
      clear hd1
      go_wp2
      go_ret2
      exact ⟨0, 5, rfl, fun _ => ⟨rfl, rfl⟩, fun h => absurd h (by decide), HB1.out⟩
end Go.Proofs.Ytanpcieipgdnkaa

namespace Go.Proofs.Ytanpcieipgdnkaa
open Go.RowKit
theorem may_ok1 {order : Int} {x : Nat} (hx : x < 2 * Fl.W) (h : mayV order 1 (fun _ => x) = 0) : ∃ k : Nat, order = k ∧ k ≤ 14 ∧ Ok9 x := by
  rw [may1] at h
  split at h
  · simp at h
  · rename_i h0
    split at h
    · simp at h
    · rename_i h1
      split at h
      · simp at h
      · rename_i h2
        exact ⟨order.toNat, by omega, by omega, ok_of_may hx (by simpa using h1) (by simpa using h2)⟩
theorem may_ok2 {order : Int} {a b : Nat} (ha : a < 2 * Fl.W) (hb : b < 2 * Fl.W) (h : mayV order 2 (z2 a b) = 0) : ∃ k : Nat, order = k ∧ k ≤ 14 ∧ Ok9 a ∧ Ok9 b := by
  rw [may2] at h
  split at h
  · simp at h
  · rename_i h0
    split at h
    · simp at h
    · rename_i h1
      split at h
      · simp at h
      · rename_i h2
        simp at h1 h2
        exact ⟨order.toNat, by omega, by omega, ok_of_may ha h1.1 h2.1, ok_of_may hb h1.2 h2.2⟩
/-- What is known of Turn's float, of the reference's. -/
def TurnQ (order : Int) (x s : Nat) : Prop := (mayV order 1 (fun _ => x) ≠ 0 → s = 0) ∧ (mayV order 1 (fun _ => x) = 0 → ∃ u, Fl.Is (Fl.mulS (tC order.toNat) x true) u ∧ Fl.Is (Fl.addS u 103582791429521408 true) s)
def TurnR (order : Int) (x s : Nat) : Prop := (mayV order 1 (fun _ => x) ≠ 0 → s = 0) ∧ (mayV order 1 (fun _ => x) = 0 → ∃ k1, Fl.UpW (Fl.rv (Fl.rg (tC order.toNat)) * Fl.rv (Fl.rg x)) k1 ∧ (k1 < Fl.I → Fl.UpW ((Fl.rv (Fl.rg k1) + Fl.rv (Fl.rg least)) * 2 ^ 1074) s))
theorem turn_eq {order : Int} {x s s' : Nat} (hx : x < 2 * Fl.W) (h : TurnQ order x s) (h' : TurnR order x s') : s = s' := by
  by_cases h0 : mayV order 1 (fun _ => x) = 0
  · obtain ⟨k, rfl, hk, ok⟩ := may_ok1 hx h0
    obtain ⟨u, e1, e2⟩ := h.2 h0
    obtain ⟨k1, u1, u2⟩ := h'.2 h0
    rw [Int.toNat_natCast] at e1 u1
    obtain ⟨j1, j2⟩ := turn_join hk ok ⟨u, e1, e2⟩ u1
    exact j2 _ (u2 j1)
  · rw [h.1 h0, h'.1 h0]
def RingQ (order : Int) (a b s : Nat) (T : Int) : Prop := (mayV order 2 (z2 a b) ≠ 0 → T = mayV order 2 (z2 a b) ∧ s = 0) ∧
    (mayV order 2 (z2 a b) = 0 → ∃ u r, ProdIs (rC order.toNat) (z3 (rS order.toNat) a b) 3 u ∧ Fl.Is (Fl.addS u 103582791429521408 true) r ∧ ((Fl.rg r = Fl.I ∧ T = 6 ∧ s = 0) ∨ (Fl.rg r ≠ Fl.I ∧ T = 0 ∧ s = r)))
def RingR (order : Int) (a b s : Nat) (T : Int) : Prop := (mayV order 2 (z2 a b) ≠ 0 → T = mayV order 2 (z2 a b) ∧ s = 0) ∧
    (mayV order 2 (z2 a b) = 0 → ∃ k1 k2 k3 F, Fl.UpW (Fl.rv (Fl.rg (rC order.toNat)) * Fl.rv (Fl.rg (rS order.toNat))) k1 ∧ Fl.UpW (Fl.rv (Fl.rg k1) * Fl.rv (Fl.rg a)) k2 ∧ Fl.UpW (Fl.rv (Fl.rg k2) * Fl.rv (Fl.rg b)) k3 ∧
      (k3 < Fl.I → Fl.UpW ((Fl.rv (Fl.rg k3) + Fl.rv (Fl.rg least)) * 2 ^ 1074) F) ∧ (¬ k3 < Fl.I → F = k3) ∧ ((F < Fl.I ∧ T = 0 ∧ s = F) ∨ (¬ F < Fl.I ∧ T = 6 ∧ s = 0)))
theorem inf_least : Fl.addS Fl.I 103582791429521408 true = some Fl.I := by decide +kernel
theorem up_le_I {X k : Nat} (h : Fl.UpW X k) : k ≤ Fl.I := by
  obtain ⟨h1, h2, h3, h4⟩ := h.key
  rw [h3] at h1; exact h1
theorem ring_eq {order : Int} {a b s s' : Nat} {T T' : Int} (ha : a < 2 * Fl.W) (hb : b < 2 * Fl.W) (h : RingQ order a b s T) (h' : RingR order a b s' T') : s = s' ∧ T = T' := by
  by_cases h0 : mayV order 2 (z2 a b) = 0
  · obtain ⟨k, rfl, hk, oka, okb⟩ := may_ok2 ha hb h0
    obtain ⟨u, r, ⟨u2, ⟨u1, ⟨u0, h00, e1⟩, e2⟩, e3⟩, e4, hor⟩ := h.2 h0
    obtain ⟨k1, k2, k3, F, c1, c2, c3, c4, c5, hor'⟩ := h'.2 h0
    rw [Int.toNat_natCast] at e1 c1 h00
    rw [z3_0] at e1
    rw [z3_1] at e2
    rw [z3_2] at e3
    have e0 : u0 = rC k := h00
    rw [e0] at e1
    obtain ⟨j1, j2⟩ := ring_join hk oka okb e1 e2 e3 c1
    obtain ⟨j3, j4⟩ := j2 k2 c2
    obtain ⟨j5, j6⟩ := j4 k3 c3
    obtain ⟨p1, p2, p3, p4⟩ := up_word c3
    have hrF : r = F := by
      by_cases hf : k3 < Fl.I
      · have hpu : Fl.Pos u := by
          have hku : 0 ≤ Fl.key u := by rw [j5]; exact p3
          refine ⟨?_, hku⟩
          have e := Fl.key_pos_rg hku
          have e' := Fl.key_pos_rg p3
          rw [j5, e', p4] at e
          have : k3 = Fl.rg u := by omega
          rw [← this]; exact hf
        exact last_join (X := 0) j6 hpu j5 p3 e4 (Is_add_lt2 j6 least9.2.1 e4) (c4 hf)
      · have hk3 : k3 = Fl.I := by have := up_le_I c3; omega
        have hkI : Fl.key k3 = (k3 : Int) := by have e' := Fl.key_pos_rg p3; rw [p4] at e'; exact e'
        have hu : u = k3 := word_eq9 j6 p1 (by rw [j5, hkI, hk3]; decide) j5
        rw [hu, hk3, inf_least] at e4
        have : r = Fl.I := e4
        rw [c5 hf, hk3, this]
    have hF : Fl.rg F = F := (show Chain9 k a b k1 k2 k3 F from ⟨c1, c2, c3, c4, c5⟩).last.2
    have hFI : F ≤ Fl.I := by
      by_cases hf : k3 < Fl.I
      · exact up_le_I (c4 hf)
      · rw [c5 hf]; exact up_le_I c3
    subst hrF
    rw [hF] at hor
    rcases hor with ⟨g1, g2, g3⟩ | ⟨g1, g2, g3⟩ <;> rcases hor' with ⟨g4, g5, g6⟩ | ⟨g4, g5, g6⟩
    · omega
    · exact ⟨by rw [g3, g6], by rw [g2, g5]⟩
    · exact ⟨by rw [g3, g6], by rw [g2, g5]⟩
    · omega
  · obtain ⟨g1, g2⟩ := h.1 h0
    obtain ⟨g3, g4⟩ := h'.1 h0
    exact ⟨by rw [g2, g4], by rw [g1, g3]⟩
set_option maxRecDepth 400000 in
set_option maxHeartbeats 4000000 in
theorem faultTells_go (order : Int) (a b : Nat) (w : World) (ha : a < 2 * Fl.W) (hb : b < 2 * Fl.W) :
    Calls Try.prog 3 #[.int .i64 order, .float .f64 a, .float .f64 b] w fun e w' => e = .returned (.bool true) ∧ Below w.heap.size w w' := by
  obtain ⟨M, hM⟩ : ∃ M, M = mayV order 1 (fun _ => a) := ⟨_, rfl⟩
  obtain ⟨x0, hx0⟩ : ∃ x0 : Nat, x0 = (if order < 0 ∨ 14 < order then 0 else 4368491638549381120) := ⟨_, rfl⟩
  obtain ⟨e0, he0⟩ : ∃ e0 : Int, e0 = (if order < 0 ∨ 14 < order then 2 else 0) := ⟨_, rfl⟩
  have HR1 : Hid (∀ w, Calls Try.prog 6 #[.int .i64 order] w fun e w' => e = .returned (.tuple #[.float .f64 x0, .int .i64 e0]) ∧ w = w') := Lib.hid (fun w => by rw [hx0, he0]; exact roots_any order w)
  have HR2 : Hid (∀ w, Calls Try.prog 7 #[.int .i64 order] w fun e w' => e = .returned (.tuple #[.float .f64 x0, .int .i64 e0]) ∧ w = w') := Lib.hid (fun w => by rw [hx0, he0]; exact rroots_any order w)
  have HT1 : Hid (∀ w, Calls Try.prog 9 #[.int .i64 order, .float .f64 a] w fun e w' => ∃ s, e = .returned (.tuple #[.float .f64 s, .int .i64 M]) ∧ TurnQ order a s ∧ Below w.heap.size w w') := Lib.hid (fun w => by
    refine (turn_any order a w ha).mono ?_
    rintro e w' ⟨s, h1, h2, h3, h4⟩
    exact ⟨s, by rw [hM]; exact h1, ⟨h2, h3⟩, h4⟩)
  have HT2 : Hid (∀ w, Calls Try.prog 10 #[.int .i64 order, .float .f64 a] w fun e w' => ∃ s, e = .returned (.tuple #[.float .f64 s, .int .i64 M]) ∧ TurnR order a s ∧ Below w.heap.size w w') := Lib.hid (fun w => by
    refine (rturn_any order a w ha).mono ?_
    rintro e w' ⟨s, h1, h2, h3, h4⟩
    exact ⟨s, by rw [hM]; exact h1, ⟨h2, h3⟩, h4⟩)
  have HG1 : Hid (∀ w, Calls Try.prog 11 #[.int .i64 order, .float .f64 a, .float .f64 b] w fun e w' => ∃ s T, e = .returned (.tuple #[.float .f64 s, .int .i64 T]) ∧ RingQ order a b s T ∧ Below w.heap.size w w') := Lib.hid (fun w => by
    refine (ring_any order a b w ha hb).mono ?_
    rintro e w' ⟨s, T, h1, h2, h3, h4⟩
    exact ⟨s, T, h1, ⟨h2, h3⟩, h4⟩)
  have HG2 : Hid (∀ w, Calls Try.prog 12 #[.int .i64 order, .float .f64 a, .float .f64 b] w fun e w' => ∃ s T, e = .returned (.tuple #[.float .f64 s, .int .i64 T]) ∧ RingR order a b s T ∧ Below w.heap.size w w') := Lib.hid (fun w => by
    refine (rring_any order a b w ha hb).mono ?_
    rintro e w' ⟨s, T, h1, h2, h3, h4⟩
    exact ⟨s, T, h1, ⟨h2, h3⟩, h4⟩)
  have HE1 := Lib.hid (fun s s' (h : TurnQ order a s) (h' : TurnR order a s') => turn_eq ha h h')
  have HE2 := Lib.hid (fun s s' T T' (h : RingQ order a b s T) (h' : RingR order a b s' T') => ring_eq ha hb h h')
  clear hM hx0 he0 ha hb
  go_enter Try.func3, Try.ntmps3
  go_wp2_with fail
  refine (HR1.out _).mono ?_
  rintro e w' ⟨rfl, rfl⟩
  go_wp2_with fail
  refine (HR2.out _).mono ?_
  rintro e w' ⟨rfl, rfl⟩
  go_wp2_with fail
  refine (is_yes _ _ _ _ _ (.inl rfl) rfl).mono ?_
  rintro e w' ⟨rfl, rfl⟩
  go_wp2_with fail
  refine (HT1.out _).mono ?_
  rintro e w1 ⟨s, rfl, hq, hb⟩
  have HQ := Lib.hid hq
  have HB1 := Lib.hid hb
  clear hq hb
  go_wp2_with fail
  refine (HT2.out _).mono ?_
  rintro e w2 ⟨s', rfl, hq, hb⟩
  obtain rfl := HE1.out _ _ HQ.out hq
  have HB2 := Lib.hid (HB1.out.trans (hb.mono HB1.out.size))
  clear hq hb
  go_wp2_with fail
  refine (HG1.out _).mono ?_
  rintro e w3 ⟨t, T, rfl, hq, hb⟩
  have HQ2 := Lib.hid hq
  have HB3 := Lib.hid (HB2.out.trans (hb.mono HB2.out.size))
  clear hq hb
  go_wp2_with fail
  refine (HG2.out _).mono ?_
  rintro e w4 ⟨t', T', rfl, hq, hb⟩
  obtain ⟨rfl, rfl⟩ := HE2.out _ _ _ _ HQ2.out hq
  have HB4 := Lib.hid (HB3.out.trans (hb.mono HB3.out.size))
  clear hq hb
  go_wp2_with fail
  refine (is_yes _ _ _ _ _ (.inl rfl) rfl).mono ?_
  rintro e w' ⟨rfl, rfl⟩
  go_wp2_with fail
  refine (is_yes _ _ _ _ _ (.inl rfl) rfl).mono ?_
  rintro e w' ⟨rfl, rfl⟩
  go_wp2_with fail
  refine (awake9_any _).mono ?_
  rintro e w5 ⟨rfl, hb⟩
  have HB5 := Lib.hid (HB4.out.trans (hb.mono HB4.out.size))
  clear hb
  go_wp2
  go_ret
  exact ⟨rfl, HB5.out⟩
theorem faultTells_walk (order : Int) (a b : Nat) (wo : (Lit.int .i64 order).wf = true) (wa : (Lit.float .f64 a).wf = true) (wb : (Lit.float .f64 b).wf = true) (w : World) :
    Calls Try.prog 3 #[.int .i64 order, .float .f64 a, .float .f64 b] w fun e w' => e = .returned (.bool true) ∧ Below w.heap.size w w' :=
  faultTells_go order a b w (wf_float wa) (wf_float wb)
end Go.Proofs.Ytanpcieipgdnkaa

namespace Go.Proofs.Ytanpcieipgdnkaa
open Go.RowKit
theorem nan_any (w : World) : Calls Try.prog 16 #[] w fun e w' => e = .returned (.float .f64 9221120237041090561) ∧ w = w' := by
  have hf := run_from
  go_enter Try.func16, Try.ntmps16
  go_wp2
  go_ret
  exact ⟨ret_fl (by decide), rfl⟩
/-- The fifteen sizes. -/
def nums : List Nat := [0, 9223372036854775808, 4607182418800017408, 1, 8660422083433463808, 8660422083433463809, 553942754166571008, 13830554455654793216, 9223372036854775809, 9221120237041090561, 9218868437227405312, 18442240474082181120, 4845873199050653696, 4591870180066957722, 4613937818241073152]
def numAt (i : Nat) : Nat := nums.getD i 0
theorem numAt_lt (i : Nat) : numAt i < 2 * Fl.W := by
  by_cases h : i < 15
  · have : ∀ i : Fin 15, numAt i.val < 2 * Fl.W := by decide
    exact this ⟨i, h⟩
  · have : numAt i = 0 := by unfold numAt; rw [List.getD_eq_getElem?_getD, List.getElem?_eq_none (by simp [nums]; omega)]; rfl
    rw [this]; decide
/-- What stands in memory while the sizes are gone through. -/
def NumsAt (w : World) (B : Nat) (wr : World) : Prop := (∀ i, i < 15 → wr.cell? ⟨B, i, none⟩ = some (.float .f64 (numAt i))) ∧ B < wr.heap.size ∧ Below w.heap.size w wr
theorem NumsAt.step {w wr w1 : World} {B : Nat} (h : NumsAt w B wr) (hb : Below wr.heap.size wr w1) : NumsAt w B w1 :=
  ⟨fun i hi => by rw [hb.cell (p := ⟨B, i, none⟩) h.2.1]; exact h.1 i hi, Nat.lt_of_lt_of_le h.2.1 hb.size, h.2.2.trans (hb.mono h.2.2.size)⟩
theorem NumsAt.drew {w wr : World} {B : Nat} (h : NumsAt w B wr) : NumsAt w B wr.drew := h.step ((Below.refl _ _).drew)
def numsA : Array Value := #[.float .f64 0, .float .f64 9223372036854775808, .float .f64 4607182418800017408, .float .f64 1, .float .f64 8660422083433463808, .float .f64 8660422083433463809, .float .f64 553942754166571008, .float .f64 13830554455654793216, .float .f64 9223372036854775809, .float .f64 9221120237041090561, .float .f64 9218868437227405312, .float .f64 18442240474082181120, .float .f64 4845873199050653696, .float .f64 4591870180066957722, .float .f64 4613937818241073152]
theorem numsA_at : ∀ i : Fin 15, numsA[i.val]? = some (.float .f64 (numAt i.val)) := by
  intro i
  match i with
  | 0 | 1 | 2 | 3 | 4 | 5 | 6 | 7 | 8 | 9 | 10 | 11 | 12 | 13 | 14 => rfl
theorem nums_new (w : World) (t : TypeId) : NumsAt w w.heap.size (w.alloc (.cells numsA t)) := by
  refine ⟨fun i hi => ?_, by simp, (Below.refl _ _).alloc (Nat.le_refl _) _⟩
  have h := cell_row w numsA t i
  have e : (⟨w.heap.size, 0, none⟩ : Addr).add i = ⟨w.heap.size, i, none⟩ := by unfold Addr.add; split <;> simp_all
  rw [e] at h
  rw [h]
  exact numsA_at ⟨i, hi⟩
/-! ### the closed answers -/
theorem cm1 : mayV (-1) 1 (fun _ => 9221120237041090561) = 2 := by decide +kernel
theorem cm2 : mayV 3 1 (fun _ => 13830554455654793216) = 5 := by decide +kernel
theorem cm3 : mayV 3 1 (fun _ => 8664925683060834304) = 6 := by decide +kernel
theorem cm4 : mayV 2 2 (z2 8660422083433463808 8660422083433463808) = 0 := by decide +kernel
theorem cm5 : mayV 2 2 (z2 4607182418800017408 9221120237041090561) = 5 := by decide +kernel
theorem cm6 : mayV 10 2 (z2 4679240012837945344 4679240012837945344) = 0 := by decide +kernel
theorem cm7 : mayV 0 1 (fun _ => 4619567317775286272) = 0 := by decide +kernel
def co1 : Nat := (Fl.mulS (rC 2) (rS 2) true).getD 0
def co2 : Nat := (Fl.mulS co1 8660422083433463808 true).getD 0
def co3 : Nat := (Fl.mulS co2 8660422083433463808 true).getD 0
def co4 : Nat := (Fl.addS co3 103582791429521408 true).getD 0
theorem closed_o : Fl.mulS (rC 2) (rS 2) true = some co1 ∧ Fl.mulS co1 8660422083433463808 true = some co2 ∧ Fl.mulS co2 8660422083433463808 true = some co3 ∧ Fl.addS co3 103582791429521408 true = some co4 ∧ Fl.rg co4 = Fl.I := by decide +kernel
def cp1 : Nat := (Fl.mulS (rC 10) (rS 10) true).getD 0
def cp2 : Nat := (Fl.mulS cp1 4679240012837945344 true).getD 0
def cp3 : Nat := (Fl.mulS cp2 4679240012837945344 true).getD 0
def cp4 : Nat := (Fl.addS cp3 103582791429521408 true).getD 0
theorem closed_p : Fl.mulS (rC 10) (rS 10) true = some cp1 ∧ Fl.mulS cp1 4679240012837945344 true = some cp2 ∧ Fl.mulS cp2 4679240012837945344 true = some cp3 ∧ Fl.addS cp3 103582791429521408 true = some cp4 ∧ Fl.rg cp4 ≠ Fl.I ∧ (FloatKind.f64.format.order cp4 4613262278296967578 == some .gt) = true := by decide +kernel
theorem closed_q : Fl.mulS (tC 0) 4619567317775286272 true = some 0 ∧ Fl.addS 0 103582791429521408 true = some 103582791429521408 := by decide +kernel
/-- Ring at a closed chain. -/
theorem ring_closed (k : Nat) (a b : Nat) (w : World) (ha : a < 2 * Fl.W) (hb : b < 2 * Fl.W) (c1 c2 c3 c4 : Nat) (hm : mayV (k : Int) 2 (z2 a b) = 0) (e1 : Fl.mulS (rC k) (rS k) true = some c1) (e2 : Fl.mulS c1 a true = some c2) (e3 : Fl.mulS c2 b true = some c3) (e4 : Fl.addS c3 103582791429521408 true = some c4) :
    Calls Try.prog 11 #[.int .i64 k, .float .f64 a, .float .f64 b] w fun e w' => (Fl.rg c4 = Fl.I → e = .returned (.tuple #[.float .f64 0, .int .i64 6])) ∧ (Fl.rg c4 ≠ Fl.I → e = .returned (.tuple #[.float .f64 c4, .int .i64 0])) ∧ Below w.heap.size w w' := by
  refine (ring_any k a b w ha hb).mono ?_
  rintro e w' ⟨s, T, he, _, h0, hbl⟩
  rw [Int.toNat_natCast] at h0
  obtain ⟨u, r, ⟨u2, ⟨u1, ⟨u0, h00, h1⟩, h2⟩, h3⟩, hr, hor⟩ := h0 hm
  rw [z3_0] at h1
  rw [z3_1] at h2
  rw [z3_2] at h3
  have e0 : u0 = rC k := h00
  rw [e0] at h1
  have g1 := Is_some h1 e1
  rw [g1] at h2
  have g2 := Is_some h2 e2
  rw [g2] at h3
  have g3 := Is_some h3 e3
  rw [g3] at hr
  have g4 := Is_some hr e4
  subst g4
  rcases hor with ⟨h, rfl, rfl⟩ | ⟨h, rfl, rfl⟩
  · exact ⟨fun _ => he, fun h' => absurd h h', hbl⟩
  · exact ⟨fun h' => absurd h' h, fun _ => he, hbl⟩
theorem turn_no (order : Int) (x : Nat) (w : World) (hx : x < 2 * Fl.W) (M : Int) (hm : mayV order 1 (fun _ => x) = M) (h0 : M ≠ 0) :
    Calls Try.prog 9 #[.int .i64 order, .float .f64 x] w fun e w' => e = .returned (.tuple #[.float .f64 0, .int .i64 M]) ∧ Below w.heap.size w w' := by
  refine (turn_any order x w hx).mono ?_
  rintro e w' ⟨s, he, h1, _, hb⟩
  rw [hm] at he h1
  rw [h1 h0] at he
  exact ⟨he, hb⟩
set_option maxRecDepth 400000 in
set_option maxHeartbeats 8000000 in
theorem faultNumbers_walk (w : World) : Calls Try.prog 4 #[] w fun e w' => e = .returned (.bool true) ∧ Below w.heap.size w w' := by
  have hcs : ∀ w, Calls Try.prog 14 #[.float .f64 0, .float .f64 13830554455654793216] w fun e w' => e = .returned (.float .f64 9223372036854775808) ∧ w = w' := fun w => by
    refine (copysign_any 0 13830554455654793216 w (by decide) (by decide)).mono ?_
    rintro e w' ⟨he, hw⟩
    exact ⟨by rw [he]; exact congrArg _ (congrArg _ (by decide)), hw⟩
  have HCS := Lib.hid hcs
  have HNX := Lib.hid (fun w => nextafter_up 8660422083433463808 8664925683060834304 w (by decide) (by decide) (by decide))
  have HIN : Hid (∀ w, Calls Try.prog 17 #[.int .i64 (-1)] w fun e w' => e = .returned (.float .f64 18442240474082181120) ∧ w = w') := Lib.hid (fun w => inf_neg w)
  have HIP : Hid (∀ w, Calls Try.prog 17 #[.int .i64 1] w fun e w' => e = .returned (.float .f64 9218868437227405312) ∧ w = w') := Lib.hid (fun w => inf_pos w)
  have HT : Hid (∀ (k : Int) (i j : Nat) (w : World), Calls Try.prog 3 #[.int .i64 k, .float .f64 (numAt i), .float .f64 (numAt j)] w fun e w' => e = .returned (.bool true) ∧ Below w.heap.size w w') := Lib.hid (fun k i j w => faultTells_go k _ _ w (numAt_lt i) (numAt_lt j))
  have HA := Lib.hid (fun w => turn_no (-1) 9221120237041090561 w (by decide) 2 cm1 (by decide))
  have HB := Lib.hid (fun w => turn_no 3 13830554455654793216 w (by decide) 5 cm2 (by decide))
  have HC := Lib.hid (fun w => turn_no 3 8664925683060834304 w (by decide) 6 cm3 (by decide))
  have HD : Hid (∀ w, Calls Try.prog 11 #[.int .i64 2, .float .f64 8660422083433463808, .float .f64 8660422083433463808] w fun e w' => e = .returned (.tuple #[.float .f64 0, .int .i64 6]) ∧ Below w.heap.size w w') := Lib.hid (fun w => by
    obtain ⟨c1, c2, c3, c4, c5⟩ := closed_o
    refine (ring_closed 2 _ _ w (by decide) (by decide) _ _ _ _ cm4 c1 c2 c3 c4).mono ?_
    rintro e w' ⟨h1, _, h2⟩
    exact ⟨h1 c5, h2⟩)
  have HE : Hid (∀ w, Calls Try.prog 11 #[.int .i64 2, .float .f64 4607182418800017408, .float .f64 9221120237041090561] w fun e w' => e = .returned (.tuple #[.float .f64 0, .int .i64 5]) ∧ Below w.heap.size w w') := Lib.hid (fun w => by
    refine (ring_any 2 _ _ w (by decide) (by decide)).mono ?_
    rintro e w' ⟨s, T, he, h1, _, hb⟩
    obtain ⟨g1, g2⟩ := h1 (by rw [cm5]; decide)
    rw [cm5] at g1
    rw [g1, g2] at he
    exact ⟨he, hb⟩)
  have HF : Hid (∀ w, Calls Try.prog 11 #[.int .i64 10, .float .f64 4679240012837945344, .float .f64 4679240012837945344] w fun e w' => e = .returned (.tuple #[.float .f64 cp4, .int .i64 0]) ∧ Below w.heap.size w w') := Lib.hid (fun w => by
    obtain ⟨c1, c2, c3, c4, c5, _⟩ := closed_p
    refine (ring_closed 10 _ _ w (by decide) (by decide) _ _ _ _ cm6 c1 c2 c3 c4).mono ?_
    rintro e w' ⟨_, h1, h2⟩
    exact ⟨h1 c5, h2⟩)
  have HG : Hid (∀ w, Calls Try.prog 9 #[.int .i64 0, .float .f64 4619567317775286272] w fun e w' => e = .returned (.tuple #[.float .f64 103582791429521408, .int .i64 0]) ∧ Below w.heap.size w w') := Lib.hid (fun w => by
    refine (turn_any 0 _ w (by decide)).mono ?_
    rintro e w' ⟨s, he, _, h0, hb⟩
    obtain ⟨u, hu, hs⟩ := h0 cm7
    obtain ⟨c1, c2⟩ := closed_q
    have g1 := Is_some hu c1
    rw [g1] at hs
    have g2 := Is_some hs c2
    rw [cm7, g2] at he
    exact ⟨he, hb⟩)
  have ho := closed_p.2.2.2.2.2
  have ho2 : FloatKind.f64.format.order 103582791429521408 103582791429521408 = some .eq := by decide +kernel
  generalize cp4 = Y at HF ho
  clear hcs
  go_enter Try.func4, Try.ntmps4
  go_wp2_with fail
  refine (HCS.out _).mono ?_
  rintro e w' ⟨rfl, rfl⟩
  go_wp2_with fail
  refine (HNX.out _).mono ?_
  rintro e w' ⟨rfl, rfl⟩
  go_wp2_with fail
  refine (nan_any _).mono ?_
  rintro e w' ⟨rfl, rfl⟩
  go_wp2_with fail
  refine (HIP.out _).mono ?_
  rintro e w' ⟨rfl, rfl⟩
  go_wp2_with fail
  refine (HIN.out _).mono ?_
  rintro e w' ⟨rfl, rfl⟩
  go_wp2_with fail
  have hn0 := nums_new w 22
  obtain ⟨W0, hW0⟩ : ∃ W0, w.alloc (.cells numsA 22) = W0 := ⟨_, rfl⟩
  rw [hW0] at hn0
  have HN0 := Lib.hid hn0
  unfold numsA at hW0
  rw [hW0]
  clear hn0 hW0
  go_loopw [2] (fun t wr => ∃ k : Nat, k ≤ 17 ∧ t = .int .i64 ((k : Int) - 1) ∧ NumsAt w w.heap.size wr) (fun t _ => (16 - intOf t).toNat)
  case atStart => exact ⟨0, by omega, rfl, HN0.out⟩
  case round =>
    obtain ⟨k, hk, rfl, hn⟩ := hrel
    have HN := Lib.hid hn
    clear hn
    by_cases hlt : k ≤ 16
    · have hd1 : decide ((k : Int) - 1 ≤ 15) = true := decide_eq_true (by omega)
      go_wp2_with fail
      go_loopw [3] (fun t wr => ∃ i : Nat, i ≤ 15 ∧ t = .int .i64 i ∧ NumsAt w w.heap.size wr) (fun t _ => 15 - (intOf t).toNat)
      case atStart => exact ⟨0, by omega, rfl, HN.out⟩
      case round =>
        obtain ⟨i, hi, rfl, hn⟩ := hrel
        have HN2 := Lib.hid hn
        clear hn
        by_cases hlt2 : i < 15
        · have hd2 : decide ((i : Int) < 15) = true := decide_eq_true (by omega)
          go_wp2_with fail
          go_loopw [4] (fun t wr => ∃ j : Nat, j ≤ 15 ∧ t = .int .i64 j ∧ NumsAt w w.heap.size wr) (fun t _ => 15 - (intOf t).toNat)
          case atStart => exact ⟨0, by omega, rfl, HN2.out⟩
          case round =>
            obtain ⟨j, hj, rfl, hn⟩ := hrel
            have HN3 := Lib.hid hn
            by_cases hlt3 : j < 15
            · have hc1 := hn.1 i hlt2
              have hc2 := hn.1 j hlt3
              clear hn
              go_wp2_with fail
              go_region_with (go_at_call 3; refine (HT.out _ _ _ _).mono ?_; rintro e w' ⟨rfl, hb⟩; have HN4 := Lib.hid (HN3.out.drew.step hb); clear hb)
              all_goals
                go_wp2_with fail
                go_roundw
                case rel => exact ⟨j + 1, by omega, by go_num, HN4.out⟩
                case measure => simp [intOf]; omega
            · clear hn
              go_wp2_with fail
              go_roundw
              case rel => exact ⟨i + 1, by omega, by go_num, HN3.out⟩
              case measure => simp [intOf]; omega
        · go_wp2_with fail
          go_roundw
          case rel => exact ⟨k + 1, by omega, by go_num, HN2.out⟩
          case measure => simp [intOf]; omega
    · obtain rfl : k = 17 := by omega
      have HB0 : Hid (Below w.heap.size w wr) := Lib.hid HN.out.2.2
      go_wp2_with fail
      refine (nan_any _).mono ?_
      rintro e w' ⟨rfl, rfl⟩
      go_wp2_with fail
      refine (HA.out _).mono ?_
      rintro e w1 ⟨rfl, hb⟩
      have HB1 := Lib.hid (HB0.out.trans (hb.mono HB0.out.size))
      clear hb
      go_wp2_with fail
      refine (HB.out _).mono ?_
      rintro e w2 ⟨rfl, hb⟩
      have HB2 := Lib.hid (HB1.out.trans (hb.mono HB1.out.size))
      clear hb
      go_wp2_with fail
      refine (HC.out _).mono ?_
      rintro e w3 ⟨rfl, hb⟩
      have HB3 := Lib.hid (HB2.out.trans (hb.mono HB2.out.size))
      clear hb
      go_wp2_with fail
      refine (HD.out _).mono ?_
      rintro e w4 ⟨rfl, hb⟩
      have HB4 := Lib.hid (HB3.out.trans (hb.mono HB3.out.size))
      clear hb
      go_wp2_with fail
      refine (nan_any _).mono ?_
      rintro e w' ⟨rfl, rfl⟩
      go_wp2_with fail
      refine (HE.out _).mono ?_
      rintro e w5 ⟨rfl, hb⟩
      have HB5 := Lib.hid (HB4.out.trans (hb.mono HB4.out.size))
      clear hb
      go_wp2_with fail
      refine (HF.out _).mono ?_
      rintro e w6 ⟨rfl, hb⟩
      have HB6 := Lib.hid (HB5.out.trans (hb.mono HB5.out.size))
      clear hb
      go_wp2_with fail
      refine (HG.out _).mono ?_
      rintro e w7 ⟨rfl, hb⟩
      have HB7 := Lib.hid (HB6.out.trans (hb.mono HB6.out.size))
      clear hb
      go_wp2_with fail
      refine (awake9_any _).mono ?_
      rintro e w8 ⟨rfl, hb⟩
      have HB8 := Lib.hid (HB7.out.trans (hb.mono HB7.out.size))
      clear hb
      go_wp2
      go_ret
      exact ⟨rfl, HB8.out⟩
end Go.Proofs.Ytanpcieipgdnkaa

namespace Go.Proofs.Ytanpcieipgdnkaa
open Go.RowKit Go.WideShapes Go.ChangeShapes
section
variable {H : Type} {enc : TypeId × Value → H} {P : Program}
theorem post_of_below {f : Func} {s : ChangeSpec} {apart fresh handsOn again : Bool} {W W' : World} {args : Array Value} {v : Value} {ds gs : List (DataW H)} {before pa pv : List MemPlace}
    (hW : DataW.Whole enc P f.params.toList s.vars apart W args.toList ds gs before)
    (hres : ∀ (b : Nat) (sp : Nat → Bool) (hd : Bool), DataW.TrodAll enc P W' b sp hd f.resultTypes.toList (v.resultList f.resultTypes.size) (s.fn H (ds ++ gs)).results [])
    (hargs : ∀ sp : Nat → Bool, (∀ p ∈ before, sp p.block = true) → DataW.TrodAll enc P W' 0 sp true f.params.toList args.toList (s.fn H (ds ++ gs)).args pa)
    (hvars : ∀ sp : Nat → Bool, (∀ p ∈ before, sp p.block = true) → DataW.TrodVars enc P W' sp s.vars (s.fn H (ds ++ gs)).vars pv)
    (hps : before = pa ++ pv) (hb : Below W.heap.size W W')
    (hok : ∀ (j : Nat) (t : TypeId) (r : Value), f.resultTypes[j]? = some t → (v.resultList f.resultTypes.size)[j]? = some r → Value.okWide P W' .any 0 t r) :
    s.post enc P f apart fresh handsOn again W args v W' := by
  have hlt : ∀ p ∈ before, p.block < W.heap.size := fun p hp => hW.lt p hp
  have hold : ∀ p ∈ before, (fun b => decide (b < W.heap.size)) p.block = true := fun p hp => by simpa using hlt p hp
  refine ⟨ds, gs, before, [], pa, pv, hW, hres _ _ _, hargs _ hold, hvars _ hold, World.keptBut_mono (fun p hp => ⟨hp, ?_⟩) (hb.frame (· ∈ before)), fun _ => ?_⟩
  · rw [hps, List.mem_append] at hp
    exact Or.inr hp
  · obtain ⟨_, _, _, _, _, hz, hn⟩ := hW
    refine ⟨hok, _, _, ([] ++ pa) ++ pv, ⟨[] ++ pa, pv, trodAll_append (hargs _ (fun _ _ => rfl)) (hres _ _ _), hvars _ (fun _ _ => rfl), rfl, ?_, ?_⟩, ?_⟩
    · intro b off hp
      have hin : MemPlace.cell b off ∈ before := by rw [hps]; simpa using hp
      rw [hb.frozen (hlt _ hin)]
      exact hz b off hin
    · intro ha
      have := hn ha
      rw [hps] at this
      simpa using this
    · intro p hp _
      rw [hps]
      simpa using hp
end
end Go.Proofs.Ytanpcieipgdnkaa

namespace Go.Proofs.Ytanpcieipgdnkaa
open Go.ChangeShapes Go.WideShapes Go.ChangeAt Go.RowKit
namespace faultNumbers
theorem own : ownKnob Try.prog.godebug = none := by kernel_rfl
set_option maxRecDepth 100000 in
theorem lifted (os : Os) (started : os.Started) (H : Type) (enc : TypeId × Value → H) :
    ReturnsInHanded {} Try.checked os 4 .any (Rows.faultNumbersSpec.pre6 enc Try.prog Try.f4 Rows.faultNumbersRow.domain false) (Rows.faultNumbersSpec.post enc Try.prog Try.f4 false true false false) := by
  refine returnsInHanded_of_change (C := Try.checked) own started (by kernel_rfl) Try.func4
    (ChangeSpec.witness6 (enc := enc) (C := Try.checked) false ⟨#[], #[], []⟩ 8 (by kernel_rfl) (by kernel_rfl) (by kernel_rfl) (by kernel_rfl)) ?_
  intro W base args ds gs before hval0 hW hcnd _
  have hval : ∀ (j : Nat) t v, Try.f4.params[j]? = some t → args[j]? = some v → Value.okWide Try.prog W .any base t v := hval0
  have hW' := hW
  obtain ⟨p, q, hA0, hV, rfl, hfz, hnd⟩ := hW
  have hA : DataW.TrodAll enc Try.prog W 0 (fun _ => true) true Try.f4.params.toList args.toList ds p := hA0
  rw [Try.params4] at hA hval
  obtain ⟨rfl, rfl, rfl⟩ := trodAll_none hA
  obtain ⟨rfl, rfl⟩ := trodVars_none hV
  clear hA0 hval0
  simp only [List.append_nil] at hW'
  refine (faultNumbers_walk   W).mono fun e W' ⟨he, hg⟩ => ?_
  subst he
  exact ⟨_, rfl, post_of_below (pa := []) (pv := []) hW' (fun _ _ _ => (trodAll_cons_mk (shut_bool Try.underlying4 _) trodAll_mk0)) (fun sp _ => trodAll_mk0) (fun _ _ => rfl) rfl
    hg (ok_one (by kernel_rfl) rfl (okWide_bool_mk Try.underlying4 _))⟩
theorem over : Rows.faultNumbersRow.holds Try.pinned (OpenSpec.ofChange Rows.faultNumbersSpec) :=
  OpenClaim.holds_of_wide 4 Try.f4 rfl rfl rfl rfl rfl rfl rfl ⟨rfl, rfl, rfl, rfl, rfl⟩ rfl rfl rfl rfl rfl (by kernel_rfl) Try.func4 (by kernel_rfl)
    (of_decide_eq_true (by kernel_rfl)) (by unfold Func.isWrapper; first | (rw [if_pos (by decide +kernel)]; kernel_rfl) | (rw [if_neg (by decide +kernel)]; exact ⟨rfl, rfl⟩))
    (fun os started H enc _ => lifted os started H enc)
theorem proved : Rows.FaultNumbersSaid :=
  over
end faultNumbers
theorem faultNumbers_holds : Rows.FaultNumbersSaid := faultNumbers.proved
#print axioms faultNumbers_holds
end Go.Proofs.Ytanpcieipgdnkaa

/-
  Four rows of one's own that grow side by side.
  Walk: limb's Shift upwards, of a right number.
  Walks: limb's up and Shift upwards.
  Walk: limb's Add of right numbers.
-/
import Derived.Test.YtclnmheplecknaaR2
import Derived.Deep.RegionHeld3
import Derived.Maps.AppendAt
import Derived.Laws.AppendOwnNone
set_option linter.unusedVariables false
set_option linter.unusedSimpArgs false
namespace Go.Proofs.Ytclnmheplecknaa
open Go.RowKit
/-- What lies in the boxes of both numbers and of the answer. -/
def Box3 (h : Nat) (s1 : Bool) (A1 : Option Addr) (n1 c1 : Nat) (s2 : Bool) (A2 : Option Addr) (n2 c2 : Nat) (x : World) : Prop :=
  ((x.cell? ⟨h, 0, none⟩ = some (.bool s1) ∧ x.cell? ⟨h, 1, none⟩ = some (.slice A1 n1 c1)) ∧ (x.cell? ⟨h + 1, 0, none⟩ = some (.bool s2) ∧ x.cell? ⟨h + 1, 1, none⟩ = some (.slice A2 n2 c2)) ∧ (x.cell? ⟨h + 2, 0, none⟩ = some (.bool false) ∧ x.cell? ⟨h + 2, 1, none⟩ = some (.slice none 0 0))) ∧
  ((x.frozen? ⟨h, 0, none⟩ = false ∧ x.frozen? ⟨h, 1, none⟩ = false) ∧ (x.frozen? ⟨h + 1, 0, none⟩ = false ∧ x.frozen? ⟨h + 1, 1, none⟩ = false) ∧ (x.frozen? ⟨h + 2, 0, none⟩ = false ∧ x.frozen? ⟨h + 2, 1, none⟩ = false)) ∧ h + 2 < x.heap.size
theorem Box3.below {h : Nat} {s1 : Bool} {A1 : Option Addr} {n1 c1 : Nat} {s2 : Bool} {A2 : Option Addr} {n2 c2 : Nat} {x x' : World} (H : Box3 h s1 A1 n1 c1 s2 A2 n2 c2 x) (hb : Below x.heap.size x x') : Box3 h s1 A1 n1 c1 s2 A2 n2 c2 x' := by
  obtain ⟨⟨⟨a1, a2⟩, ⟨a3, a4⟩, ⟨a5, a6⟩⟩, ⟨⟨b1, b2⟩, ⟨b3, b4⟩, ⟨b5, b6⟩⟩, hs⟩ := H
  exact ⟨⟨⟨(hb.cell (p := ⟨h, 0, none⟩) (by show h < _; omega)).trans a1, (hb.cell (p := ⟨h, 1, none⟩) (by show h < _; omega)).trans a2⟩, ⟨(hb.cell (p := ⟨h + 1, 0, none⟩) (by show h + 1 < _; omega)).trans a3, (hb.cell (p := ⟨h + 1, 1, none⟩) (by show h + 1 < _; omega)).trans a4⟩, ⟨(hb.cell (p := ⟨h + 2, 0, none⟩) hs).trans a5, (hb.cell (p := ⟨h + 2, 1, none⟩) hs).trans a6⟩⟩,
    ⟨⟨(hb.frozen (p := ⟨h, 0, none⟩) (by show h < _; omega)).trans b1, (hb.frozen (p := ⟨h, 1, none⟩) (by show h < _; omega)).trans b2⟩, ⟨(hb.frozen (p := ⟨h + 1, 0, none⟩) (by show h + 1 < _; omega)).trans b3, (hb.frozen (p := ⟨h + 1, 1, none⟩) (by show h + 1 < _; omega)).trans b4⟩, ⟨(hb.frozen (p := ⟨h + 2, 0, none⟩) hs).trans b5, (hb.frozen (p := ⟨h + 2, 1, none⟩) hs).trans b6⟩⟩, Nat.lt_of_lt_of_le hs hb.size⟩
theorem Box3.swap {h : Nat} {s1 : Bool} {A1 : Option Addr} {n1 c1 : Nat} {s2 : Bool} {A2 : Option Addr} {n2 c2 : Nat} {x : World} (H : Box3 h s1 A1 n1 c1 s2 A2 n2 c2 x) :
    Box3 h s2 A2 n2 c2 s1 A1 n1 c1 ((((x.setCell ⟨h, 0, none⟩ (.bool s2)).setCell ⟨h, 1, none⟩ (.slice A2 n2 c2)).setCell ⟨h + 1, 0, none⟩ (.bool s1)).setCell ⟨h + 1, 1, none⟩ (.slice A1 n1 c1)) := by
  obtain ⟨⟨⟨a1, a2⟩, ⟨a3, a4⟩, ⟨a5, a6⟩⟩, ⟨⟨b1, b2⟩, ⟨b3, b4⟩, ⟨b5, b6⟩⟩, hs⟩ := H
  have o : ∀ (y : World) (p q : Addr) (v : Value), p ≠ q → (y.setCell p v).cell? q = y.cell? q := fun y p q v hne => World.cell?_setCell_other _ _ _ _ hne
  refine ⟨⟨⟨?_, ?_⟩, ⟨?_, ?_⟩, ⟨?_, ?_⟩⟩, ⟨⟨by simpa using b1, by simpa using b2⟩, ⟨by simpa using b3, by simpa using b4⟩, ⟨by simpa using b5, by simpa using b6⟩⟩, by simpa using hs⟩
  · rw [o _ _ _ _ (by simp), o _ _ _ _ (by simp), o _ _ _ _ (by simp)]
    exact World.cell?_setCell_same _ _ _ a1
  · rw [o _ _ _ _ (by simp), o _ _ _ _ (by simp)]
    exact World.cell?_setCell_same _ _ _ ((o _ _ _ _ (by simp)).trans a2)
  · rw [o _ _ _ _ (by simp)]
    exact World.cell?_setCell_same _ _ _ ((o _ _ _ _ (by simp)).trans ((o _ _ _ _ (by simp)).trans a3))
  · exact World.cell?_setCell_same _ _ _ ((o _ _ _ _ (by simp)).trans ((o _ _ _ _ (by simp)).trans ((o _ _ _ _ (by simp)).trans a4)))
  · rw [o _ _ _ _ (by simp), o _ _ _ _ (by simp), o _ _ _ _ (by simp), o _ _ _ _ (by simp)]
    exact a5
  · rw [o _ _ _ _ (by simp), o _ _ _ _ (by simp), o _ _ _ _ (by simp), o _ _ _ _ (by simp)]
    exact a6
theorem Box3.store {h : Nat} {s1 : Bool} {A1 : Option Addr} {n1 c1 : Nat} {s2 : Bool} {A2 : Option Addr} {n2 c2 : Nat} {x : World} (H : Box3 h s1 A1 n1 c1 s2 A2 n2 c2 x) {g : Nat} (hg : h + 2 < g) (j : Nat) (v : Value) : Box3 h s1 A1 n1 c1 s2 A2 n2 c2 (x.setCell ⟨g, j, none⟩ v) := by
  obtain ⟨⟨⟨a1, a2⟩, ⟨a3, a4⟩, ⟨a5, a6⟩⟩, ⟨⟨b1, b2⟩, ⟨b3, b4⟩, ⟨b5, b6⟩⟩, hs⟩ := H
  have o : ∀ (q : Addr), q.block < g → (x.setCell ⟨g, j, none⟩ v).cell? q = x.cell? q := fun q hne => World.cell?_setCell_other _ _ _ _ (fun e => by subst e; exact Nat.lt_irrefl _ hne)
  exact ⟨⟨⟨(o ⟨h, 0, none⟩ (by show h < g; omega)).trans a1, (o ⟨h, 1, none⟩ (by show h < g; omega)).trans a2⟩, ⟨(o ⟨h + 1, 0, none⟩ (by show h + 1 < g; omega)).trans a3, (o ⟨h + 1, 1, none⟩ (by show h + 1 < g; omega)).trans a4⟩, ⟨(o ⟨h + 2, 0, none⟩ hg).trans a5, (o ⟨h + 2, 1, none⟩ hg).trans a6⟩⟩, ⟨⟨by simpa using b1, by simpa using b2⟩, ⟨by simpa using b3, by simpa using b4⟩, ⟨by simpa using b5, by simpa using b6⟩⟩, by simpa using hs⟩
set_option maxRecDepth 400000 in
set_option maxHeartbeats 4000000 in
theorem limadd_any (s1 : Bool) (A1 : Option Addr) (n1 c1 : Nat) (l1 : List Int) (s2 : Bool) (A2 : Option Addr) (n2 c2 : Nat) (l2 : List Int) (V : Int) (w : World) (hu1 : U w A1 n1 c1 l1) (hu2 : U w A2 n2 c2 l2) (hd1 : Nt.Dig 18446744073709551616 l1) (hd2 : Nt.Dig 18446744073709551616 l2) (hr1 : rightB s1 l1 = true) (hr2 : rightB s2 l2 = true) (hn1 : n1 ≤ 1000) (hn2 : n2 ≤ 1000)
    (hV : V = sgI s1 (Nt.val 18446744073709551616 l1) + sgI s2 (Nt.val 18446744073709551616 l2)) :
    Calls Try.prog 30 #[.agg #[.bool s1, .slice A1 n1 c1], .agg #[.bool s2, .slice A2 n2 c2]] w fun e w' => ∃ A' c', e = .returned (.tuple #[.agg #[.bool (decide (V < 0)), .slice A' (Nt.dg 18446744073709551616 V.natAbs).length c'], .int .i64 0]) ∧ U w' A' (Nt.dg 18446744073709551616 V.natAbs).length c' (Nt.dg 18446744073709551616 V.natAbs) ∧ Below w.heap.size w w' := by
  obtain ⟨i0, hi0, hz0, hz1, hz2⟩ := info_parts u64_info
  obtain ⟨VN, hVN⟩ : ∃ VN, VN = V.natAbs := ⟨_, rfl⟩
  obtain ⟨VS, hVS⟩ : ∃ VS, VS = decide (V < 0) := ⟨_, rfl⟩
  rw [← hVN, ← hVS]
  obtain ⟨VD, hVD⟩ : ∃ VD, VD = Nt.dg 18446744073709551616 VN := ⟨_, rfl⟩
  rw [← hVD]
  obtain ⟨VK, hVK⟩ : ∃ VK, VK = VD.length := ⟨_, rfl⟩
  rw [← hVK]
  have HVV : Hid (VN = V.natAbs ∧ VS = decide (V < 0) ∧ VD = Nt.dg 18446744073709551616 VN ∧ VK = VD.length) := Lib.hid ⟨hVN, hVS, hVD, hVK⟩
  clear hVN hVS hVD hVK
  obtain ⟨g1, g2, _⟩ := right_dg hd1 hr1
  obtain ⟨g3, g4, _⟩ := right_dg hd2 hr2
  have HU1 := Lib.hid hu1
  have HU2 := Lib.hid hu2
  have HD1 := Lib.hid hd1
  have HD2 := Lib.hid hd2
  have HG1 := Lib.hid g1
  have HG2 := Lib.hid g3
  have HV := Lib.hid hV
  have HRI1 := Lib.hid (fun x (hb : Below w.heap.size w x) => right_any s1 A1 n1 c1 l1 x (hu1.below hb) (by omega))
  have HRI2 := Lib.hid (fun x (hb : Below w.heap.size w x) => right_any s2 A2 n2 c2 l2 x (hu2.below hb) (by omega))
  rw [hr1] at HRI1
  rw [hr2] at HRI2
  have hln1 := hu1.1
  have hln2 := hu2.1
  have HSZ := Lib.hid (fun x (hb : Below w.heap.size w x) => sizes_any A1 n1 c1 l1 A2 n2 c2 l2 x (hu1.below hb) (hu2.below hb) (by omega) (by omega) hd1 hd2 g1 g3)
  have HB1 := Lib.hid ((((Below.refl w.heap.size w).alloc (Nat.le_refl _) (.cells #[.bool s1, .slice A1 n1 c1] 24)).alloc (by simp) (.cells #[.bool s2, .slice A2 n2 c2] 24)).alloc (by simp; omega) (.cells #[.bool false, .slice none 0 0] 24))
  have HS1 : Hid (Box3 w.heap.size s1 A1 n1 c1 s2 A2 n2 c2 (((w.alloc (.cells #[.bool s1, .slice A1 n1 c1] 24)).alloc (.cells #[.bool s2, .slice A2 n2 c2] 24)).alloc (.cells #[.bool false, .slice none 0 0] 24))) := Lib.hid (by
    have h1 : Below (w.heap.size + 2) ((w.alloc (.cells #[.bool s1, .slice A1 n1 c1] 24)).alloc (.cells #[.bool s2, .slice A2 n2 c2] 24)) (((w.alloc (.cells #[.bool s1, .slice A1 n1 c1] 24)).alloc (.cells #[.bool s2, .slice A2 n2 c2] 24)).alloc (.cells #[.bool false, .slice none 0 0] 24)) := (Below.refl _ _).alloc (by simp) _
    refine ⟨⟨⟨(h1.cell (p := ⟨w.heap.size, 0, none⟩) (by show w.heap.size < _; omega)).trans (by simp), (h1.cell (p := ⟨w.heap.size, 1, none⟩) (by show w.heap.size < _; omega)).trans (by simp)⟩, ⟨(h1.cell (p := ⟨w.heap.size + 1, 0, none⟩) (by show w.heap.size + 1 < _; omega)).trans (by simp), (h1.cell (p := ⟨w.heap.size + 1, 1, none⟩) (by show w.heap.size + 1 < _; omega)).trans (by simp)⟩, ⟨?_, ?_⟩⟩, ⟨⟨(h1.frozen (p := ⟨w.heap.size, 0, none⟩) (by show w.heap.size < _; omega)).trans (by simp), (h1.frozen (p := ⟨w.heap.size, 1, none⟩) (by show w.heap.size < _; omega)).trans (by simp)⟩, ⟨(h1.frozen (p := ⟨w.heap.size + 1, 0, none⟩) (by show w.heap.size + 1 < _; omega)).trans (by simp), (h1.frozen (p := ⟨w.heap.size + 1, 1, none⟩) (by show w.heap.size + 1 < _; omega)).trans (by simp)⟩, ⟨?_, ?_⟩⟩, by simp⟩ <;> rw [show w.heap.size + 2 = ((w.alloc (.cells #[.bool s1, .slice A1 n1 c1] 24)).alloc (.cells #[.bool s2, .slice A2 n2 c2] 24)).heap.size by simp] <;> generalize ((w.alloc (.cells #[.bool s1, .slice A1 n1 c1] 24)).alloc (.cells #[.bool s2, .slice A2 n2 c2] 24)) = W <;> simp)
  clear hu1 hu2 hd1 hd2 hr1 hr2 g1 g2 g3 g4 hln1 hln2 hV
  go_enter Try.func30, Try.ntmps30
  go_wp2_with fail
  refine (HRI1.out _ HB1.out).mono ?_
  rintro e w1 ⟨rfl, hb⟩
  have HB2 := Lib.hid (HB1.out.trans (hb.mono HB1.out.size))
  have HS2 := Lib.hid (HS1.out.below hb)
  clear HB1 HS1 hb
  obtain ⟨⟨⟨a1, a2⟩, ⟨a3, a4⟩, ⟨a5, a6⟩⟩, _, _⟩ := HS2.out
  go_wp2_with fail
  refine (HRI2.out _ HB2.out).mono ?_
  rintro e w2 ⟨rfl, hb⟩
  have HB3 := Lib.hid (HB2.out.trans (hb.mono HB2.out.size))
  have HS3 := Lib.hid (HS2.out.below hb)
  clear HB2 HS2 hb a1 a2 a3 a4 a5 a6 HRI1 HRI2
  obtain ⟨⟨⟨a1, a2⟩, ⟨a3, a4⟩, ⟨a5, a6⟩⟩, _, _⟩ := HS3.out
  go_wp2_with fail
  refine (HSZ.out _ HB3.out).mono ?_
  rintro e w3 ⟨T, rfl, hT, hb⟩
  have HB4 := Lib.hid (HB3.out.trans (hb.mono HB3.out.size))
  have HS4 := Lib.hid (HS3.out.below hb)
  have HTT := Lib.hid hT
  clear HB3 HS3 hb a1 a2 a3 a4 a5 a6 HSZ hT
  obtain ⟨⟨⟨a1, a2⟩, ⟨a3, a4⟩, ⟨a5, a6⟩⟩, ⟨⟨b1, b2⟩, ⟨b3, b4⟩, ⟨b5, b6⟩⟩, hs4⟩ := HS4.out
  go_upto_if 25 with fail
  go_cut [26, 27] (fun _ _ wx => ∃ (sa sb : Bool) (Aa Ab : Option Addr) (na ca nb cb : Nat) (la lb : List Int), Hid (Box3 w.heap.size sa Aa na ca sb Ab nb cb wx) ∧ Hid (U w Aa na ca la ∧ U w Ab nb cb lb) ∧ Hid (Nt.Dig 18446744073709551616 la ∧ Nt.Dig 18446744073709551616 lb) ∧ Hid (Nt.val 18446744073709551616 lb ≤ Nt.val 18446744073709551616 la) ∧ Hid (nb ≤ na) ∧ (na ≤ 1000) ∧ Hid (V = sgI sa (Nt.val 18446744073709551616 la) + sgI sb (Nt.val 18446744073709551616 lb)) ∧ Hid (Below w.heap.size w wx))
  case first =>
    by_cases hT0 : T < 0
    · have hd : decide (T < 0) = true := decide_eq_true hT0
      have HT := Lib.hid (HTT.out.1 hT0)
      have HN2 : Hid (n1 ≤ n2) := Lib.hid (by
        have e1 := congrArg List.length HG1.out
        have e2 := congrArg List.length HG2.out
        rw [HU1.out.1] at e1
        rw [HU2.out.1] at e2
        exact Nat.le_of_not_lt (fun hlt => by have := Nt.len_lt 18446744073709551616 (by decide) (Nt.val 18446744073709551616 l2) (Nt.val 18446744073709551616 l1) (by omega); have := HT.out; omega))
      go_wp2_with fail
      go_meet
      exact ⟨s2, s1, A2, A1, n2, c2, n1, c1, l2, l1, Lib.hid HS4.out.swap, Lib.hid ⟨HU2.out, HU1.out⟩, Lib.hid ⟨HD2.out, HD1.out⟩, Lib.hid (Nat.le_of_lt HT.out), HN2, hn2, Lib.hid (by rw [HV.out, Int.add_comm]), Lib.hid ((((HB4.out.setCell (p := ⟨w.heap.size, 0, none⟩) (Nat.le_refl _) _).setCell (p := ⟨w.heap.size, 1, none⟩) (Nat.le_refl _) _).setCell (p := ⟨w.heap.size + 1, 0, none⟩) (Nat.le_succ _) _).setCell (p := ⟨w.heap.size + 1, 1, none⟩) (Nat.le_succ _) _)⟩
    · have hd : decide (T < 0) = false := decide_eq_false hT0
      have HT : Hid (Nt.val 18446744073709551616 l2 ≤ Nt.val 18446744073709551616 l1) := Lib.hid (Nat.le_of_not_lt (fun h => hT0 (HTT.out.2 h)))
      have HN1 : Hid (n2 ≤ n1) := Lib.hid (by
        have e1 := congrArg List.length HG1.out
        have e2 := congrArg List.length HG2.out
        rw [HU1.out.1] at e1
        rw [HU2.out.1] at e2
        exact Nat.le_of_not_lt (fun hlt => by have := Nt.len_lt 18446744073709551616 (by decide) (Nt.val 18446744073709551616 l1) (Nt.val 18446744073709551616 l2) (by omega); have := HT.out; omega))
      go_wp2_with fail
      go_meet
      exact ⟨s1, s2, A1, A2, n1, c1, n2, c2, l1, l2, HS4, Lib.hid ⟨HU1.out, HU2.out⟩, Lib.hid ⟨HD1.out, HD2.out⟩, HT, HN1, hn1, HV, HB4⟩
  case rest =>
    clear HS4 HB4 HTT HV HU1 HU2 HD1 HD2 HG1 HG2
    obtain ⟨sa, sb, Aa, Ab, na, ca, nb, cb, la, lb, HS, HU, HD, HLE, HNN, hna, HV, HB⟩ := hcut
    obtain ⟨⟨⟨a1, a2⟩, ⟨a3, a4⟩, ⟨a5, a6⟩⟩, _, hsz⟩ := HS.out
    go_wp2_with (first
      | (refine wpList_make_full _ rfl (.tmp 31) (.tmp 31) 22 rfl wc.heap.size 55 i0 _ 1 Try.underlying22 hi0 hz0 hz1 .i64 .i64 _ _ (na + 1) rfl rfl rfl rfl (by rw [hz2]; omega) (by simp only [maxLen]; omega) (Nat.le_refl _) ?_; intro w1 hown1 hg1; have HB1 := Lib.hid ((Below.refl wc.heap.size wc).grown hg1 (Nat.le_refl _) (fun k hk => by cases hk)); have HS1 := Lib.hid (HS.out.below HB1.out); have ROW := Lib.hid (Row.made hown1); clear hown1 hg1; obtain ⟨⟨⟨d1, d2⟩, ⟨d3, d4⟩, ⟨d5, d6⟩⟩, _, _⟩ := HS1.out)
      | (refine (behind_any Ab nb cb w1).mono ?_; rintro e w2 ⟨rfl, hw2⟩; have HB2 := Lib.hid (show Below w1.heap.size w1 w2 by rw [hw2]; exact (Below.refl _ _).alloc (Nat.le_refl _) _); have HS2 := Lib.hid (HS1.out.below HB2.out); have HCL : Hid (w2.cell? ⟨w1.heap.size, 0, none⟩ = some (.slice Ab nb cb) ∧ w1.heap.size < w2.heap.size) := Lib.hid (by rw [hw2]; simp); clear hw2; obtain ⟨⟨⟨g1, g2⟩, ⟨g3, g4⟩, ⟨g5, g6⟩⟩, _, _⟩ := HS2.out))
    have HBW := Lib.hid (HB.out.trans ((HB1.out.trans (HB2.out.mono HB1.out.size)).mono HB.out.size))
    have HROW := Lib.hid (((RowC.of ROW.out).below HB2.out).base (base' := w.heap.size) HB.out.size)
    obtain ⟨gb, hgb⟩ : ∃ gb, gb = w1.heap.size := ⟨_, rfl⟩
    obtain ⟨go, hgo⟩ : ∃ go, go = wc.heap.size := ⟨_, rfl⟩
    have HGO : Hid (w.heap.size + 2 < go ∧ go < gb) := Lib.hid (by have h1 := (World.ownsRow.lt ROW.out wc.heap.size rfl).2; omega)
    rw [← hgb] at HCL ⊢
    rw [← hgo] at HROW ⊢
    clear hgb hgo ROW HB1 HB2 HB HS HS1
    obtain ⟨m, hm⟩ : ∃ m, m = (sa == sb || nb == 0) := ⟨_, rfl⟩
    have HM := Lib.hid hm
    clear hm
    go_loopw [8, 39] (fun cv iv wr => ∃ (i c : Nat) (o : List Int), iv = .int .i64 i ∧ cv = .int .u64 c ∧ i ≤ na ∧ Hid (c ≤ 1) ∧ Hid (AInv m la lb i c o) ∧ Hid (RowC wr w.heap.size go (na + 1) (na + 1) o) ∧ Hid (Nt.Dig 18446744073709551616 o) ∧ Hid (Box3 w.heap.size sa Aa na ca sb Ab nb cb wr) ∧ Hid (wr.cell? ⟨gb, 0, none⟩ = some (.slice Ab nb cb)) ∧ Hid (Below w.heap.size w wr)) (fun _ iv _ => na - (intOf iv).toNat)
    case atStart => exact ⟨0, 0, List.replicate (na + 1) 0, rfl, rfl, Nat.zero_le _, Lib.hid (by omega), Lib.hid (AInv.start _ _ _ _), HROW, Lib.hid (fun z hz => by rw [(List.mem_replicate.1 hz).2]; decide), HS2, Lib.hid HCL.out.1, HBW⟩
    case round =>
      clear HROW HS2 HCL HBW g1 g2 g3 g4 g5 g6 d1 d2 d3 d4 d5 d6
      obtain ⟨i, c, o, rfl, rfl, hi, HC, HI, HR, HO, HS, HCL, HB⟩ := hrel
      obtain ⟨⟨⟨a1, a2⟩, ⟨a3, a4⟩, ⟨a5, a6⟩⟩, _, hsz⟩ := HS.out
      by_cases hlt : i < na
      · obtain ⟨x, hx⟩ : ∃ x, la[i]? = some x := ⟨_, List.getElem?_eq_getElem (by have := HU.out.1.1; omega)⟩
        obtain ⟨ad, rfl, _, hcx⟩ := (HU.out.1.below HB.out).2.2.2 i x hx
        obtain ⟨y, hy⟩ : ∃ y, y = (lb[i]?).getD 0 := ⟨_, rfl⟩
        have HXB := Lib.hid (HD.out.1 x (List.mem_of_getElem? hx))
        have HYB : Hid (0 ≤ y ∧ y < 18446744073709551616) := Lib.hid (by
          rw [hy]
          cases h : lb[i]? with
          | none => exact ⟨by decide, by decide⟩
          | some z => exact HD.out.2 z (List.mem_of_getElem? h))
        have HCALL : Hid (Calls Try.prog 98 #[.int .i64 i, .pointer (some ⟨gb, 0, none⟩)] wr fun e w' => e = .returned (.int .u64 y) ∧ wr = w') := Lib.hid (by
          rw [hy]
          exact behind1_any Ab nb cb gb i lb wr (HU.out.2.below HB.out) HCL.out (by have := HNN.out; omega) (by omega))
        obtain ⟨Z, hZ⟩ : ∃ Z, Z = stZ m x y c := ⟨_, rfl⟩
        obtain ⟨C, hC⟩ : ∃ C, C = stC m x y c := ⟨_, rfl⟩
        have hol := HR.out.len
        have HNX : Hid (AInv m la lb (i + 1) C (o.set i (Z : Int))) := Lib.hid (by
          have h := AInv.step HI.out hx (by omega) HXB.out (by rw [← hy]; exact HYB.out) HC.out
          rw [← hy, ← hZ, ← hC] at h
          exact h)
        have HCN : Hid (C ≤ 1) := Lib.hid (by rw [hC]; exact stC_le m x y c HXB.out.2 HYB.out.2 HC.out)
        have HZN : Hid (Nt.Dig 18446744073709551616 (o.set i (Z : Int))) := Lib.hid (HO.out.set i Z (by omega) (by rw [hZ]; have := stZ_lt m x y c; omega))
        obtain ⟨v0, hv0⟩ : ∃ v0, o[i]? = some v0 := ⟨_, List.getElem?_eq_getElem (by omega)⟩
        have hcv := HR.out.cell i v0 hv0
        have hfr := HR.out.free i
        have HRN := Lib.hid (HR.out.set i (Z : Int))
        have HSN := Lib.hid (HS.out.store HGO.out.1 i (.int .u64 (Z : Int)))
        have HCLN : Hid ((wr.setCell ⟨go, i, none⟩ (.int .u64 (Z : Int))).cell? ⟨gb, 0, none⟩ = some (.slice Ab nb cb)) := Lib.hid ((World.cell?_setCell_other _ _ _ _ (by have := HGO.out.2; intro e; injection e with e1; omega)).trans HCL.out)
        have HBN := Lib.hid (HB.out.setCell (p := ⟨go, i, none⟩) (by have := HGO.out.1; show w.heap.size ≤ go; omega) (.int .u64 (Z : Int)))
        have hbs : (sa == sb || nb == 0) = m := HM.out.symm
        cases m
        · have hs1 : (sa == sb) = false := by simp at hbs; simp [hbs.1]
          have hs2 : ((nb : Int) == 0) = false := by simp at hbs; simp; omega
          have hrun := run_sub64 x y c HC.out
          rw [← stZ_f, ← stC_f, ← hZ, ← hC] at hrun
          clear hZ hC hv0 hbs hx hy hol
          go_wp2_with (refine HCALL.out.mono ?_; rintro e w5 ⟨rfl, rfl⟩)
          exact ⟨⟨i + 1, C, _, by go_num, rfl, hlt, HCN, HNX, HRN, HZN, HSN, HCLN, HBN⟩, by simp [intOf]; omega⟩
        · have hrun := run_add64 x y c HC.out
          rw [← stZ_t, ← stC_t, ← hZ, ← hC] at hrun
          clear hZ hC hv0 hx hy hol
          by_cases hq : (sa == sb) = true
          · clear hbs
            go_wp2_with (refine HCALL.out.mono ?_; rintro e w5 ⟨rfl, rfl⟩)
            exact ⟨⟨i + 1, C, _, by go_num, rfl, hlt, HCN, HNX, HRN, HZN, HSN, HCLN, HBN⟩, by simp [intOf]; omega⟩
          · have hs1 : (sa == sb) = false := by simpa using hq
            rw [hs1, Bool.false_or] at hbs
            have hs2 : ((nb : Int) == 0) = true := by simp at hbs; simp; omega
            clear hbs hq
            go_wp2_with (refine HCALL.out.mono ?_; rintro e w5 ⟨rfl, rfl⟩)
            exact ⟨⟨i + 1, C, _, by go_num, rfl, hlt, HCN, HNX, HRN, HZN, HSN, HCLN, HBN⟩, by simp [intOf]; omega⟩
      · obtain rfl : na = i := by omega
        have hol := HR.out.len
        obtain ⟨v0, hv0⟩ : ∃ v0, o[na]? = some v0 := ⟨_, List.getElem?_eq_getElem (by omega)⟩
        have hcv := HR.out.cell na v0 hv0
        have hfr := HR.out.free na
        have HRN := Lib.hid (HR.out.set na (c : Int))
        have HSN := Lib.hid (HS.out.store HGO.out.1 na (.int .u64 (c : Int)))
        have HBN := Lib.hid (HB.out.setCell (p := ⟨go, na, none⟩) (by have := HGO.out.1; show w.heap.size ≤ go; omega) (.int .u64 (c : Int)))
        have HFI := AInv.finish HI.out HU.out.1.1 (by have := HU.out.2.1; have := HNN.out; omega) hol HO.out HLE.out
        obtain ⟨N, hN⟩ : ∃ N, N = Nt.val 18446744073709551616 (o.set na (c : Int)) := ⟨_, rfl⟩
        have hZN : Nt.Dig 18446744073709551616 (o.set na (c : Int)) := HO.out.set na c (by omega) (by have := HC.out; omega)
        have hVN : V = sgI sa N := by rw [HV.out, sgI_sum sa sb na nb la lb HU.out.2.1 HLE.out, ← HM.out, hN, HFI]
        have hV1 : N = VN := by rw [HVV.out.1, hVN, sgI_abs]
        have hV2 : (decide (VN ≠ 0) && sa) = VS := by rw [HVV.out.2.1, hVN, sgI_neg, hV1]
        subst hV1
        have HLEN : (Nt.dg 18446744073709551616 N).length ≤ 4096 := by
          have h1 := Nt.val_lt 18446744073709551616 (by decide) _ hZN
          rw [← hN, List.length_set, hol] at h1
          exact Nat.le_trans (Nt.dg_len _ (by decide) _ _ h1) (by omega)
        have HTO := Lib.hid (told_any sa (some ⟨go, 0, none⟩) (na + 1) (na + 1) N _ _ HRN.out.u (by omega) (by omega) hZN hN HLEN)
        rw [hV2, ← HVV.out.2.2.1, ← HVV.out.2.2.2] at HTO
        obtain ⟨⟨⟨d1, d2⟩, ⟨d3, d4⟩, ⟨d5, d6⟩⟩, _, _⟩ := HSN.out
        clear hV2 hVN HLEN hN HFI hZN hol hv0 HV
        go_wp2_with fail
        refine HTO.out.mono ?_
        rintro e w5 ⟨A5, c5, rfl, hu5, hb5⟩
        have HS5 := HSN.out.below hb5
        obtain ⟨⟨⟨e1, e2⟩, ⟨e3, e4⟩, ⟨e5, e6⟩⟩, ⟨⟨f1, f2⟩, ⟨f3, f4⟩, ⟨f5, f6⟩⟩, _⟩ := HS5
        have hO := int_store (w1 := w5) (g := w.heap.size + 2) e5 e6 (.bool VS) (.slice A5 VK c5)
        have HO5 := Lib.hid hO
        have HU5 := Lib.hid (hO.1 _ _ _ _ hu5)
        have HB5 := Lib.hid (hO.2.1 _ _ (show w.heap.size ≤ w.heap.size + 2 by omega) (HBN.out.trans (hb5.mono HBN.out.size)))
        clear hO hu5 hb5
        go_wp2
        refine bodyPost_ret (v := .tuple #[.agg #[.bool VS, .slice A5 VK c5], .int .i64 0]) (by simp [results, Try.results30, go_sem, HO5.out.2.2.1, HO5.out.2.2.2]) rfl ⟨A5, c5, rfl, HU5.out, HB5.out⟩
end Go.Proofs.Ytclnmheplecknaa

namespace Go.Proofs.Ytclnmheplecknaa
open Go.RowKit
/-- One limb more: what is put, and what is carried. -/
theorem up_step {by_ i x low V A : Nat} (hb : by_ ≤ 30) (hx : x < 18446744073709551616) (hl : low < 2 ^ by_) (h : V + 18446744073709551616 ^ i * low = 2 ^ by_ * A) :
    (V + 18446744073709551616 ^ i * ((x * 2 ^ by_) % 18446744073709551616 + low)) + 18446744073709551616 ^ (i + 1) * (x / 2 ^ (64 - by_)) = 2 ^ by_ * (A + 18446744073709551616 ^ i * x) := by
  have e : (x * 2 ^ by_) % 18446744073709551616 + 18446744073709551616 * (x / 2 ^ (64 - by_)) = x * 2 ^ by_ := by
    have h1 : (18446744073709551616 : Nat) = 2 ^ (64 - by_) * 2 ^ by_ := by rw [← Nat.pow_add, show 64 - by_ + by_ = 64 by omega]
    have h2 : x * 2 ^ by_ / 18446744073709551616 = x / 2 ^ (64 - by_) := by
      rw [h1, Nat.mul_div_mul_right _ _ (Nat.two_pow_pos _)]
    rw [← h2]
    exact Nat.mod_add_div _ _
  generalize (x * 2 ^ by_) % 18446744073709551616 = M at *
  generalize x / 2 ^ (64 - by_) = Q at *
  have h3 := congrArg (18446744073709551616 ^ i * ·) e
  simp only [Nat.mul_add] at h3 ⊢
  rw [Nat.pow_succ, Nat.mul_assoc, ← h]
  have h4 : 18446744073709551616 ^ i * (x * 2 ^ by_) = 2 ^ by_ * (18446744073709551616 ^ i * x) := by rw [Nat.mul_comm x, Nat.mul_left_comm]
  omega
theorem up_bounds {by_ x low : Nat} (hb1 : 2 ≤ by_) (hb : by_ ≤ 30) (hx : x < 18446744073709551616) (hl : low < 2 ^ by_) : (x * 2 ^ by_) % 18446744073709551616 + low < 18446744073709551616 ∧ x / 2 ^ (64 - by_) < 2 ^ by_ := by
  constructor
  · have h1 : (18446744073709551616 : Nat) = 2 ^ (64 - by_) * 2 ^ by_ := by rw [← Nat.pow_add, show 64 - by_ + by_ = 64 by omega]
    rw [h1, Nat.mul_mod_mul_right]
    have h2 : x % 2 ^ (64 - by_) < 2 ^ (64 - by_) := Nat.mod_lt _ (Nat.two_pow_pos _)
    have h3 := Nat.mul_le_mul_right (2 ^ by_) (show x % 2 ^ (64 - by_) + 1 ≤ 2 ^ (64 - by_) from h2)
    rw [Nat.add_mul] at h3
    omega
  · have h1 : (18446744073709551616 : Nat) = 2 ^ by_ * 2 ^ (64 - by_) := by rw [← Nat.pow_add, show by_ + (64 - by_) = 64 by omega]
    exact Nat.div_lt_of_lt_mul (by rw [Nat.mul_comm, ← h1]; exact hx)
set_option maxRecDepth 400000 in
set_option maxHeartbeats 4000000 in
theorem lup_any (A : Option Addr) (n c b : Nat) (l : List Int) (w : World) (hu : U w A n c l) (hn : n ≤ 1000) (hd : Nt.Dig 18446744073709551616 l) (hb1 : 2 ≤ b) (hb2 : b ≤ 30) :
    Calls Try.prog 64 #[.slice A n c, .int .i64 b] w fun e w' => ∃ A' c' o, e = .returned (.slice A' (n + 1) c') ∧ U w' A' (n + 1) c' o ∧ c' ≤ 9223372036854775807 ∧ Nt.Dig 18446744073709551616 o ∧ Nt.val 18446744073709551616 o = 2 ^ b * Nt.val 18446744073709551616 l ∧ Below w.heap.size w w' := by
  obtain ⟨i0, hi0, hz0, hz1, hz2⟩ := info_parts u64_info
  have HU := Lib.hid hu
  have HD := Lib.hid hd
  have HLEN := Lib.hid hu.1
  have q1 : (b : Int).tdiv 64 = 0 := Int.tdiv_eq_zero_of_lt (by omega) (by omega)
  have q2 : (b : Int).tmod 64 = (b : Int) := Int.tmod_eq_of_lt (by omega) (by omega)
  have q3 : (b : Int) / 64 = 0 := by omega
  have q4 : (b : Int) % 64 = (b : Int) := by omega
  clear hu hd
  go_enter Try.func64, Try.ntmps64
  go_wp2_with (refine wpList_make_own _ rfl (.tmp 10) (.tmp 16) 22 rfl w.heap.size 55 i0 _ 1 Try.underlying22 hi0 hz0 hz1 .i64 .i64 _ (n + 1) rfl rfl (by omega) (by rw [hz2]; omega) (by simp only [maxLen]; omega) (Nat.le_refl _) ?_; intro w1 hown1 hg1; have HB1 := Lib.hid ((Below.refl w.heap.size w).grown hg1 (Nat.le_refl _) (fun k hk => by cases hk)); have HOWN1 := Lib.hid hown1; clear hown1 hg1)
  go_loopw [5, 6, 20] (fun ov lv iv wr => ∃ (i low : Nat) (o : List Int), iv = .int .i64 i ∧ lv = .int .u64 low ∧ ov = .slice (some ⟨w.heap.size, 0, none⟩) i (n + 1) ∧ i ≤ n ∧ Hid (low < 2 ^ b) ∧ Hid (wr.ownsRow w.heap.size 55 1 (.slice (some ⟨w.heap.size, 0, none⟩) i (n + 1)) i (o.map (Value.int .u64))) ∧ Hid (Nt.Dig 18446744073709551616 o) ∧ Hid (Nt.val 18446744073709551616 o + 18446744073709551616 ^ i * low = 2 ^ b * Nt.val 18446744073709551616 (l.take i)) ∧ Hid (Below w.heap.size w wr)) (fun _ _ iv _ => n - (intOf iv).toNat)
  case atStart => exact ⟨0, 0, [], rfl, rfl, rfl, Nat.zero_le _, Lib.hid (Nat.two_pow_pos _), HOWN1, Lib.hid (fun z hz => by cases hz), Lib.hid (by simp [Nt.val]), HB1⟩
  case round =>
    clear HOWN1 HB1
    obtain ⟨i, low, o, rfl, rfl, rfl, hi, HL, HOWN, HO, HV, HB⟩ := hrel
    have HOL : Hid (o.length = i) := Lib.hid (by have := HOWN.out.1; simpa using this)
    by_cases hlt : i < n
    · obtain ⟨x, hx⟩ : ∃ x, l[i]? = some x := ⟨_, List.getElem?_eq_getElem (by have := HLEN.out; omega)⟩
      obtain ⟨ad, rfl, _, hcx⟩ := (HU.out.below HB.out).2.2.2 i x hx
      have HXB := Lib.hid (HD.out x (List.mem_of_getElem? hx))
      obtain ⟨M, hM⟩ : ∃ M : Nat, M = x.toNat * 2 ^ b % 18446744073709551616 := ⟨_, rfl⟩
      have hshl : IntKind.u64.wrap (x * 2 ^ b) = (M : Int) := by
        have hxb := HXB.out
        obtain ⟨xn, rfl⟩ : ∃ xn : Nat, x = xn := ⟨x.toNat, by omega⟩
        rw [hM, IntKind.wrap_u64]; simp
      have hMb : M < 18446744073709551616 := by rw [hM]; exact Nat.mod_lt _ (by decide)
      have hxn : x.toNat < 18446744073709551616 := by have := HXB.out; omega
      have HUB := up_bounds hb1 hb2 hxn HL.out
      rw [← hM] at HUB
      have hlb : low < 18446744073709551616 := by omega
      have hor : bits BinOp.or IntKind.u64 (M : Int) (low : Int) = ((M + low : Nat) : Int) := by
        rw [u64_or_nat M low hMb hlb, Nat.or_comm, hM, Nt.or_high low x.toNat b HL.out (by omega), Nat.add_comm]
      have HST := up_step hb2 hxn HL.out HV.out
      rw [← hM] at HST
      obtain ⟨z, hz⟩ : ∃ z, z = M + low := ⟨_, rfl⟩
      obtain ⟨q, hq⟩ : ∃ q, q = x.toNat / 2 ^ (64 - b) := ⟨_, rfl⟩
      rw [← hz] at hor HUB HST
      rw [← hq] at HUB HST
      have hs6 : IntKind.i64.wrap ((64 : Int) - (b : Int)) = ((64 - b : Nat) : Int) := by rw [IntKind.wrap_i64]; omega
      have hs7 : (64 : Int) - (b : Int) = ((64 - b : Nat) : Int) := by omega
      have hs8 : x / 2 ^ (64 - b) = (q : Int) := by
        have hxb := HXB.out
        obtain ⟨xn, rfl⟩ : ∃ xn : Nat, x = xn := ⟨x.toNat, by omega⟩
        rw [hq]; simp
      have OWN2 : Hid ((wr.alloc (.cells #[.int .u64 (z : Int)] 55)).ownsRow w.heap.size 55 1 (.slice (some ⟨w.heap.size, 0, none⟩) i (n + 1)) i (o.map (Value.int .u64))) := Lib.hid (HOWN.out.alloc _)
      have CELLS2 := Lib.hid (cell1U wr (z : Int) 55)
      have HBA := Lib.hid (HB.out.alloc HB.out.size (.cells #[.int .u64 (z : Int)] 55))
      have HON : Hid (Nt.Dig 18446744073709551616 (o ++ [(z : Int)])) := Lib.hid (fun y hy => by
        rcases List.mem_append.1 hy with h | h
        · exact HO.out y h
        · have : y = z := by simpa using h
          subst this
          have := HUB.1; omega)
      have HVN : Hid (Nt.val 18446744073709551616 (o ++ [(z : Int)]) + 18446744073709551616 ^ (i + 1) * q = 2 ^ b * Nt.val 18446744073709551616 (l.take (i + 1))) := Lib.hid (by
        rw [Nt.val_append, HOL.out, val_snoc _ l i x hx, ← HST]
        simp [Nt.val])
      have HQN : Hid (q < 2 ^ b) := Lib.hid HUB.2
      clear hM hMb hxn HUB hlb HST hz hq hx
      go_wp2_with (at_builtin; refine wpList_append_fits _ rfl (.tmp 24) (.tmp 31) 22 rfl w.heap.size 55 i0 1 Try.underlying22 hi0 hz1 w.heap.size i (n + 1) (o.map (Value.int .u64)) rfl OWN2.out ⟨wr.heap.size, 0, none⟩ 1 1 [Value.int .u64 (z : Int)] rfl CELLS2.out.1 CELLS2.out.2.1 CELLS2.out.2.2 (by omega) ?_; intro w3 hown3 hg3; have HOWN3 := Lib.hid hown3; have HB3 := Lib.hid (HBA.out.grown hg3 HBA.out.size (fun k hk => by cases hk; exact Nat.le_refl _)); clear hown3 hg3)
      exact ⟨⟨i + 1, q, o ++ [(z : Int)], by go_num, rfl, rfl, hlt, HQN, Lib.hid (by rw [List.map_append]; exact HOWN3.out), HON, HVN, HB3⟩, by simp [intOf]; omega⟩
    · obtain rfl : n = i := by omega
      have OWN2 : Hid ((wr.alloc (.cells #[.int .u64 (low : Int)] 55)).ownsRow w.heap.size 55 1 (.slice (some ⟨w.heap.size, 0, none⟩) n (n + 1)) n (o.map (Value.int .u64))) := Lib.hid (HOWN.out.alloc _)
      have CELLS2 := Lib.hid (cell1U wr (low : Int) 55)
      have HBA := Lib.hid (HB.out.alloc HB.out.size (.cells #[.int .u64 (low : Int)] 55))
      have HON : Hid (Nt.Dig 18446744073709551616 (o ++ [(low : Int)])) := Lib.hid (fun y hy => by
        rcases List.mem_append.1 hy with h | h
        · exact HO.out y h
        · have : y = low := by simpa using h
          subst this
          have h1 := HL.out
          have h2 : (2 : Nat) ^ b ≤ 2 ^ 30 := Nat.pow_le_pow_right (by decide) hb2
          omega)
      have HVN : Hid (Nt.val 18446744073709551616 (o ++ [(low : Int)]) = 2 ^ b * Nt.val 18446744073709551616 l) := Lib.hid (by
        have h1 := HV.out
        rw [List.take_of_length_le (by have := HLEN.out; omega)] at h1
        rw [Nt.val_append, HOL.out, ← h1]
        simp [Nt.val])
      go_wp2_with (at_builtin; refine wpList_append_fits _ rfl (.tmp 39) (.tmp 41) 22 rfl w.heap.size 55 i0 1 Try.underlying22 hi0 hz1 w.heap.size n (n + 1) (o.map (Value.int .u64)) rfl OWN2.out ⟨wr.heap.size, 0, none⟩ 1 1 [Value.int .u64 (low : Int)] rfl CELLS2.out.1 CELLS2.out.2.1 CELLS2.out.2.2 (by omega) ?_; intro w3 hown3 hg3; have HOWN3 := Lib.hid hown3; have HB3 := Lib.hid (HBA.out.grown hg3 HBA.out.size (fun k hk => by cases hk; exact Nat.le_refl _)); clear hown3 hg3)
      have HR3 : Hid (RowC w3 w.heap.size w.heap.size (n + 1) (n + 1) (o ++ [(low : Int)])) := Lib.hid (by
        have h := HOWN3.out
        rw [show [Value.int .u64 (low : Int)] = [(low : Int)].map (Value.int .u64) from rfl, ← List.map_append] at h
        exact h)
      go_ret
      exact ⟨_, _, _, rfl, HR3.out.u, by omega, HON.out, HVN.out, HB3.out⟩
end Go.Proofs.Ytclnmheplecknaa

namespace Go.Proofs.Ytclnmheplecknaa
open Go.RowKit
set_option maxRecDepth 400000 in
set_option maxHeartbeats 4000000 in
theorem shift_any (s : Bool) (A : Option Addr) (n c b : Nat) (l : List Int) (w : World) (hu : U w A n c l) (hn : n ≤ 1000) (hd : Nt.Dig 18446744073709551616 l) (hr : rightB s l = true) (hb1 : 2 ≤ b) (hb2 : b ≤ 30) :
    Calls Try.prog 32 #[.agg #[.bool s, .slice A n c], .int .i64 b] w fun e w' => ∃ A' c', e = .returned (.tuple #[.agg #[.bool s, .slice A' (Nt.dg 18446744073709551616 (2 ^ b * Nt.val 18446744073709551616 l)).length c'], .int .i64 0]) ∧ U w' A' (Nt.dg 18446744073709551616 (2 ^ b * Nt.val 18446744073709551616 l)).length c' (Nt.dg 18446744073709551616 (2 ^ b * Nt.val 18446744073709551616 l)) ∧ Below w.heap.size w w' := by
  obtain ⟨g1, g2, g3⟩ := right_dg hd hr
  have HU := Lib.hid hu
  have HBI := Lib.hid (fun x (hb : Below w.heap.size w x) => bits_any s A n c l x (hu.below hb) (by omega) hd hr)
  have hln := hu.1
  have HCL := Lib.hid (fun x (hb : Below w.heap.size w x) => lup_any A n c b l x (hu.below hb) hn hd hb1 hb2)
  obtain ⟨N, hN⟩ : ∃ N, N = 2 ^ b * Nt.val 18446744073709551616 l := ⟨_, rfl⟩
  rw [← hN] at HCL ⊢
  have h2b : 0 < 2 ^ b := Nat.two_pow_pos _
  have hn0 : n = 0 → N = 0 ∧ s = false := fun h0 => by
    have e : l = [] := List.eq_nil_of_length_eq_zero (by omega)
    subst e
    refine ⟨by rw [hN]; simp [Nt.val], ?_⟩
    cases s
    · rfl
    · exact absurd rfl (g3 rfl)
  have hn1 : n ≠ 0 → N ≠ 0 := fun h0 hz => by
    have hv : Nt.val 18446744073709551616 l = 0 := by
      rcases Nat.mul_eq_zero.1 (hN.symm.trans hz) with h | h
      · omega
      · exact h
    rw [g1, hv, Nt.dg_zero] at hln
    simp at hln
    omega
  have HN0 := Lib.hid hn0
  have HTO : Hid (∀ x A' c' o, U x A' (n + 1) c' o → c' ≤ 9223372036854775807 → Nt.Dig 18446744073709551616 o → Nt.val 18446744073709551616 o = N → Calls Try.prog 61 #[.bool s, .slice A' (n + 1) c'] x fun e w' => ∃ A' c', e = .returned (.tuple #[.agg #[.bool (decide (N ≠ 0) && s), .slice A' (Nt.dg 18446744073709551616 N).length c'], .int .i64 0]) ∧ U w' A' (Nt.dg 18446744073709551616 N).length c' (Nt.dg 18446744073709551616 N) ∧ Below x.heap.size x w') := Lib.hid (fun x A' c' o h hc hdo hv => told_any s A' (n + 1) c' N o x h hc (by omega) hdo hv.symm (by
    have h1 := Nt.val_lt 18446744073709551616 (by decide) _ hdo
    rw [hv, h.1] at h1
    exact Nat.le_trans (Nt.dg_len _ (by decide) _ _ h1) (by omega)))
  by_cases h0 : n = 0
  · obtain ⟨hN0, hs0⟩ := hn0 h0
    subst hs0
    rw [hN0]
    subst h0
    have HB1 := Lib.hid (((Below.refl w.heap.size w).alloc (Nat.le_refl _) (.cells #[.bool false, .slice A 0 c] 24)).alloc (by simp) (.cells #[.bool false, .slice none 0 0] 24))
    have hS1 : (((w.alloc (.cells #[.bool false, .slice A 0 c] 24)).alloc (.cells #[.bool false, .slice none 0 0] 24)).cell? ⟨w.heap.size + 1, 0, none⟩ = some (.bool false) ∧ ((w.alloc (.cells #[.bool false, .slice A 0 c] 24)).alloc (.cells #[.bool false, .slice none 0 0] 24)).cell? ⟨w.heap.size + 1, 1, none⟩ = some (.slice none 0 0)) ∧ (((w.alloc (.cells #[.bool false, .slice A 0 c] 24)).alloc (.cells #[.bool false, .slice none 0 0] 24)).frozen? ⟨w.heap.size + 1, 0, none⟩ = false ∧ ((w.alloc (.cells #[.bool false, .slice A 0 c] 24)).alloc (.cells #[.bool false, .slice none 0 0] 24)).frozen? ⟨w.heap.size + 1, 1, none⟩ = false) ∧ w.heap.size + 1 < ((w.alloc (.cells #[.bool false, .slice A 0 c] 24)).alloc (.cells #[.bool false, .slice none 0 0] 24)).heap.size := ⟨⟨by simp, by simp⟩, ⟨by simp, by simp⟩, by simp⟩
    have HS1 := Lib.hid hS1
    clear hu hd hr g1 g2 g3 hln hN hS1 hn0 hn1 h2b HTO HN0 HCL HU hN0
    go_enter Try.func32, Try.ntmps32
    go_wp2_with fail
    refine (HBI.out _ HB1.out).mono ?_
    rintro e w1 ⟨T, rfl, hT1, hT2, hb⟩
    obtain rfl : T = 0 := by omega
    obtain ⟨⟨p1, p2⟩, ⟨p3, p4⟩, p5⟩ := HS1.out
    have q1 := (hb.cell (p := ⟨w.heap.size + 1, 0, none⟩) p5).trans p1
    have q2 := (hb.cell (p := ⟨w.heap.size + 1, 1, none⟩) p5).trans p2
    have q3 := (hb.frozen (p := ⟨w.heap.size + 1, 0, none⟩) p5).trans p3
    have q4 := (hb.frozen (p := ⟨w.heap.size + 1, 1, none⟩) p5).trans p4
    have HB2 := Lib.hid (HB1.out.trans (hb.mono HB1.out.size))
    have hO := int_store (w1 := w1) (g := w.heap.size + 1) q1 q2 (.bool false) (.slice none 0 0)
    have HO := Lib.hid hO
    have HB4 := Lib.hid (hO.2.1 _ _ (show w.heap.size ≤ w.heap.size + 1 by omega) HB2.out)
    clear hO hb p1 p2 p3 p4 p5 HBI HS1 HB1 hT1 hT2
    go_wp2
    refine bodyPost_ret (v := .tuple #[.agg #[.bool false, .slice none 0 0], .int .i64 0]) (by simp [results, Try.results32, go_sem, HO.out.2.2.1, HO.out.2.2.2]) rfl ⟨none, 0, by rw [Nt.dg_zero]; rfl, by rw [Nt.dg_zero]; exact U_none _, HB4.out⟩
  · have hns := hn1 h0
    have hse : (decide (N ≠ 0) && s) = s := by rw [decide_eq_true hns, Bool.true_and]
    rw [hse] at HTO
    obtain ⟨D, hD⟩ : ∃ D, D = Nt.dg 18446744073709551616 N := ⟨_, rfl⟩
    obtain ⟨K, hK⟩ : ∃ K, K = D.length := ⟨_, rfl⟩
    rw [← hD, ← hK] at HTO ⊢
    have HN := Lib.hid h0
    have HB1 := Lib.hid (((Below.refl w.heap.size w).alloc (Nat.le_refl _) (.cells #[.bool s, .slice A n c] 24)).alloc (by simp) (.cells #[.bool false, .slice none 0 0] 24))
    have hT : ∀ x x', ((x.cell? ⟨w.heap.size, 0, none⟩ = some (.bool s) ∧ x.cell? ⟨w.heap.size, 1, none⟩ = some (.slice A n c)) ∧ (x.cell? ⟨w.heap.size + 1, 0, none⟩ = some (.bool false) ∧ x.cell? ⟨w.heap.size + 1, 1, none⟩ = some (.slice none 0 0)) ∧ (x.frozen? ⟨w.heap.size + 1, 0, none⟩ = false ∧ x.frozen? ⟨w.heap.size + 1, 1, none⟩ = false) ∧ Hid (Below w.heap.size w x ∧ w.heap.size + 1 < x.heap.size)) → Below x.heap.size x x' →
        ((x'.cell? ⟨w.heap.size, 0, none⟩ = some (.bool s) ∧ x'.cell? ⟨w.heap.size, 1, none⟩ = some (.slice A n c)) ∧ (x'.cell? ⟨w.heap.size + 1, 0, none⟩ = some (.bool false) ∧ x'.cell? ⟨w.heap.size + 1, 1, none⟩ = some (.slice none 0 0)) ∧ (x'.frozen? ⟨w.heap.size + 1, 0, none⟩ = false ∧ x'.frozen? ⟨w.heap.size + 1, 1, none⟩ = false) ∧ Hid (Below w.heap.size w x' ∧ w.heap.size + 1 < x'.heap.size)) := by
      rintro x x' ⟨⟨h1, h2⟩, ⟨h3, h4⟩, ⟨h5, h6⟩, h⟩ hb
      obtain ⟨h7, h8⟩ := h.out
      exact ⟨⟨(hb.cell (p := ⟨w.heap.size, 0, none⟩) (by show w.heap.size < _; omega)).trans h1, (hb.cell (p := ⟨w.heap.size, 1, none⟩) (by show w.heap.size < _; omega)).trans h2⟩, ⟨(hb.cell (p := ⟨w.heap.size + 1, 0, none⟩) h8).trans h3, (hb.cell (p := ⟨w.heap.size + 1, 1, none⟩) h8).trans h4⟩, ⟨(hb.frozen (p := ⟨w.heap.size + 1, 0, none⟩) h8).trans h5, (hb.frozen (p := ⟨w.heap.size + 1, 1, none⟩) h8).trans h6⟩, Lib.hid ⟨h7.trans (hb.mono h7.size), Nat.lt_of_lt_of_le h8 hb.size⟩⟩
    have hS1 : ((((w.alloc (.cells #[.bool s, .slice A n c] 24)).alloc (.cells #[.bool false, .slice none 0 0] 24)).cell? ⟨w.heap.size, 0, none⟩ = some (.bool s) ∧ ((w.alloc (.cells #[.bool s, .slice A n c] 24)).alloc (.cells #[.bool false, .slice none 0 0] 24)).cell? ⟨w.heap.size, 1, none⟩ = some (.slice A n c)) ∧ (((w.alloc (.cells #[.bool s, .slice A n c] 24)).alloc (.cells #[.bool false, .slice none 0 0] 24)).cell? ⟨w.heap.size + 1, 0, none⟩ = some (.bool false) ∧ ((w.alloc (.cells #[.bool s, .slice A n c] 24)).alloc (.cells #[.bool false, .slice none 0 0] 24)).cell? ⟨w.heap.size + 1, 1, none⟩ = some (.slice none 0 0)) ∧ (((w.alloc (.cells #[.bool s, .slice A n c] 24)).alloc (.cells #[.bool false, .slice none 0 0] 24)).frozen? ⟨w.heap.size + 1, 0, none⟩ = false ∧ ((w.alloc (.cells #[.bool s, .slice A n c] 24)).alloc (.cells #[.bool false, .slice none 0 0] 24)).frozen? ⟨w.heap.size + 1, 1, none⟩ = false) ∧ Hid (Below w.heap.size w ((w.alloc (.cells #[.bool s, .slice A n c] 24)).alloc (.cells #[.bool false, .slice none 0 0] 24)) ∧ w.heap.size + 1 < ((w.alloc (.cells #[.bool s, .slice A n c] 24)).alloc (.cells #[.bool false, .slice none 0 0] 24)).heap.size)) := ⟨⟨by simp, by simp⟩, ⟨by simp, by simp⟩, ⟨by simp, by simp⟩, Lib.hid ⟨HB1.out, by simp⟩⟩
    have HS1 := Lib.hid hS1
    have HTT := Lib.hid hT
    clear hu hd hr g1 g2 g3 hln hN hT hS1 hn0 hn1 h2b hns hse hD hK h0
    go_enter Try.func32, Try.ntmps32
    go_wp2_with fail
    refine (HBI.out _ HB1.out).mono ?_
    rintro e w1 ⟨T, rfl, hT1, hT2, hb⟩
    have hS2 := HTT.out _ _ HS1.out hb
    have HS2 := Lib.hid hS2
    have HS2D := Lib.hid (HTT.out _ _ hS2 (Below.refl w1.heap.size w1).drew)
    obtain ⟨⟨p1, p2⟩, ⟨p3, p4⟩, ⟨p5, p6⟩, _⟩ := hS2
    have hTp : 0 < T := by have := HN.out; omega
    have hTl : T ≤ 64000 := by omega
    have hc1 : ((T : Int) == 0) = false := by simp; omega
    have hc2 : decide ((262144 : Int) - (T : Int) < (b : Int)) = false := decide_eq_false (by omega)
    have hc3 : ¬ ((262144 : Int) - (T : Int) < (b : Int)) := by omega
    have hc4 : ¬ ((T : Int) = 0) := by omega
    have HC1 : Hid (Calls Try.prog 64 #[.slice A n c, .int .i64 b] w1.drew fun e w' => ∃ A' c', e = .returned (.slice A' (n + 1) c') ∧ Hid (∃ o, U w' A' (n + 1) c' o ∧ c' ≤ 9223372036854775807 ∧ Nt.Dig 18446744073709551616 o ∧ Nt.val 18446744073709551616 o = N) ∧ Hid ((w'.cell? ⟨w.heap.size, 0, none⟩ = some (.bool s) ∧ w'.cell? ⟨w.heap.size, 1, none⟩ = some (.slice A n c)) ∧ (w'.cell? ⟨w.heap.size + 1, 0, none⟩ = some (.bool false) ∧ w'.cell? ⟨w.heap.size + 1, 1, none⟩ = some (.slice none 0 0)) ∧ (w'.frozen? ⟨w.heap.size + 1, 0, none⟩ = false ∧ w'.frozen? ⟨w.heap.size + 1, 1, none⟩ = false) ∧ Hid (Below w.heap.size w w' ∧ w.heap.size + 1 < w'.heap.size)) ∧ (w'.cell? ⟨w.heap.size, 0, none⟩ = some (.bool s) ∧ w'.cell? ⟨w.heap.size, 1, none⟩ = some (.slice A n c))) := Lib.hid (by
      refine (HCL.out _ HS2D.out.2.2.2.out.1).mono ?_
      rintro e w' ⟨A', c', o, rfl, hu', hc', hdo, hvo, hbb⟩
      have hf := HTT.out _ _ HS2D.out hbb
      exact ⟨A', c', rfl, Lib.hid ⟨o, hu', hc', hdo, hvo⟩, Lib.hid hf, hf.1⟩)
    have HC2 : Hid (∀ x A' c', Hid (∃ o, U x A' (n + 1) c' o ∧ c' ≤ 9223372036854775807 ∧ Nt.Dig 18446744073709551616 o ∧ Nt.val 18446744073709551616 o = N) → Hid ((x.cell? ⟨w.heap.size, 0, none⟩ = some (.bool s) ∧ x.cell? ⟨w.heap.size, 1, none⟩ = some (.slice A n c)) ∧ (x.cell? ⟨w.heap.size + 1, 0, none⟩ = some (.bool false) ∧ x.cell? ⟨w.heap.size + 1, 1, none⟩ = some (.slice none 0 0)) ∧ (x.frozen? ⟨w.heap.size + 1, 0, none⟩ = false ∧ x.frozen? ⟨w.heap.size + 1, 1, none⟩ = false) ∧ Hid (Below w.heap.size w x ∧ w.heap.size + 1 < x.heap.size)) → Calls Try.prog 61 #[.bool s, .slice A' (n + 1) c'] x fun e w' => ∃ A2 c2, e = .returned (.tuple #[.agg #[.bool s, .slice A2 K c2], .int .i64 0]) ∧ Hid (U w' A2 K c2 D) ∧ ((w'.cell? ⟨w.heap.size, 0, none⟩ = some (.bool s) ∧ w'.cell? ⟨w.heap.size, 1, none⟩ = some (.slice A n c)) ∧ (w'.cell? ⟨w.heap.size + 1, 0, none⟩ = some (.bool false) ∧ w'.cell? ⟨w.heap.size + 1, 1, none⟩ = some (.slice none 0 0)) ∧ (w'.frozen? ⟨w.heap.size + 1, 0, none⟩ = false ∧ w'.frozen? ⟨w.heap.size + 1, 1, none⟩ = false) ∧ Hid (Below w.heap.size w w' ∧ w.heap.size + 1 < w'.heap.size))) := Lib.hid (fun x A' c' h hf => by
      obtain ⟨o, h1, h2, h3, h4⟩ := h.out
      refine (HTO.out x A' c' o h1 h2 h3 h4).mono ?_
      rintro e w' ⟨A2, c2, rfl, hu', hbb⟩
      exact ⟨A2, c2, rfl, Lib.hid hu', HTT.out _ _ hf.out hbb⟩)
    have HS3 := Lib.hid HS2.out.1
    clear hb HTT HTO HCL HBI HS1 HS2 HS2D HB1 HU p3 p4 p5 p6 hT2
    go_wp2_with fail
    go_region_held3 (fun x => x.cell? ⟨w.heap.size, 0, none⟩ = some (.bool s) ∧ x.cell? ⟨w.heap.size, 1, none⟩ = some (.slice A n c)) ((first | assumption | exact HS3.out | exact hq0 | exact ⟨(World.cell?_setCell_other _ _ _ _ (by simp)).trans hq0.1, (World.cell?_setCell_other _ _ _ _ (by simp)).trans hq0.2⟩ | exact ⟨(World.cell?_setCell_other _ _ _ _ (by simp)).trans ((World.cell?_setCell_other _ _ _ _ (by simp)).trans hq0.1), (World.cell?_setCell_other _ _ _ _ (by simp)).trans ((World.cell?_setCell_other _ _ _ _ (by simp)).trans hq0.2)⟩)) (first
      | (go_at_call 64; refine HC1.out.mono ?_; rintro e w2 ⟨A3, c3, rfl, hu3, hf3, hq⟩)
      | (go_at_call 61; refine (HC2.out _ _ _ hu3 hf3).mono ?_; rintro e w3 ⟨A4, c4, rfl, hu4, hq0, ⟨p3, p4⟩, ⟨p5, p6⟩, hq1⟩))
    have hO := int_store (w1 := w3) (g := w.heap.size + 1) p3 p4 (.bool s) (.slice A4 K c4)
    have HO := Lib.hid hO
    have HU4 := Lib.hid (hO.1 _ _ _ _ hu4.out)
    have HB4 := Lib.hid (hO.2.1 _ _ (show w.heap.size ≤ w.heap.size + 1 by omega) hq1.out.1)
    clear hO p3 p4 p5 p6 hq0 hq1 hu4
    go_wp2
    refine bodyPost_ret (v := .tuple #[.agg #[.bool s, .slice A4 K c4], .int .i64 0]) (by simp [results, Try.results32, go_sem, HO.out.2.2.1, HO.out.2.2.2]) rfl ⟨A4, c4, rfl, HU4.out, HB4.out⟩
end Go.Proofs.Ytclnmheplecknaa

namespace Go.Proofs.Ytclnmheplecknaa
open Go.RowKit
/-- They lie in blocks apart. -/
def Dj (a b : Value) : Prop := ∀ k, a.ownBlock = some k → b.ownBlock ≠ some k
theorem Dj.symm {a b : Value} (h : Dj a b) : Dj b a := fun k hb ha => h k ha hb
theorem Dj.nil (b : Value) : Dj (.slice none 0 0) b := fun k h => by simp [Value.ownBlock] at h
def Four (B w : World) (v1 v2 v3 v4 : Value) (l1 l2 l3 l4 : List Int) : Prop :=
  Below B.heap.size B w ∧ (w.ownsRow B.heap.size 2 1 v1 l1.length (l1.map (Value.int .i64)) ∧ w.ownsRow B.heap.size 2 1 v2 l2.length (l2.map (Value.int .i64)) ∧ w.ownsRow B.heap.size 2 1 v3 l3.length (l3.map (Value.int .i64)) ∧ w.ownsRow B.heap.size 2 1 v4 l4.length (l4.map (Value.int .i64))) ∧
  (Dj v1 v2 ∧ Dj v1 v3 ∧ Dj v1 v4 ∧ Dj v2 v3 ∧ Dj v2 v4 ∧ Dj v3 v4)
theorem Four.start (B w : World) (hb : Below B.heap.size B w) : Four B w (.slice none 0 0) (.slice none 0 0) (.slice none 0 0) (.slice none 0 0) [] [] [] [] :=
  ⟨hb, ⟨World.ownsRow_nil _ _ _ _, World.ownsRow_nil _ _ _ _, World.ownsRow_nil _ _ _ _, World.ownsRow_nil _ _ _ _⟩, ⟨Dj.nil _, Dj.nil _, Dj.nil _, Dj.nil _, Dj.nil _, Dj.nil _⟩⟩
theorem Four.drewN {B w : World} {v1 v2 v3 v4 : Value} {l1 l2 l3 l4 : List Int} (h : Four B w v1 v2 v3 v4 l1 l2 l3 l4) (m : Nat) : Four B (w.drewN m) v1 v2 v3 v4 l1 l2 l3 l4 :=
  ⟨h.1.trans ⟨rfl, rfl, rfl, Nat.le_refl _, fun _ _ => rfl⟩, h.2⟩
theorem Four.alloc {B w : World} {v1 v2 v3 v4 : Value} {l1 l2 l3 l4 : List Int} (h : Four B w v1 v2 v3 v4 l1 l2 l3 l4) (o : Obj) : Four B (w.alloc o) v1 v2 v3 v4 l1 l2 l3 l4 :=
  ⟨h.1.alloc h.1.size _, ⟨h.2.1.1.alloc _, h.2.1.2.1.alloc _, h.2.1.2.2.1.alloc _, h.2.1.2.2.2.alloc _⟩, h.2.2⟩
theorem Dj.next {B w : World} {v v' u : Value} {n : Nat} {xs : List Value} (h : Dj v u) (hu : w.ownsRow B.heap.size 2 1 u n xs) (hl : v'.ownBlock = v.ownBlock ∨ v'.ownBlock = some w.heap.size) : Dj v' u := fun k hk hk2 => by
  rcases hl with h1 | h1
  · exact h k (h1.symm.trans hk) hk2
  · have h2 : k = w.heap.size := by rw [h1] at hk; exact (Option.some.inj hk).symm
    have := (World.ownsRow.lt hu k hk2).2
    omega
theorem Dj.off {v u : Value} (h : Dj v u) : u.ownBlock = none ∨ u.ownBlock ≠ v.ownBlock := by
  cases hu : u.ownBlock with
  | none => exact .inl rfl
  | some k => exact .inr (fun e => h k e.symm hu)
/-- One row has grown by one number; it goes behind the others. -/
theorem Four.next {B w w' : World} {v1 v2 v3 v4 v' : Value} {l1 l2 l3 l4 : List Int} {x : Int} (h : Four B w v1 v2 v3 v4 l1 l2 l3 l4)
    (ho : w'.ownsRow B.heap.size 2 1 v' (l1.length + 1) (l1.map (Value.int .i64) ++ [.int .i64 x])) (hg : w.grownBy w' v1.ownBlock) (hl : v'.ownBlock = v1.ownBlock ∨ v'.ownBlock = some w.heap.size) :
    Four B w' v2 v3 v4 v' l2 l3 l4 (l1 ++ [x]) := by
  obtain ⟨hb, ⟨o1, o2, o3, o4⟩, d12, d13, d14, d23, d24, d34⟩ := h
  refine ⟨hb.grown hg hb.size (fun k hk => (World.ownsRow.lt o1 k hk).1), ⟨o2.kept hg d12.off, o3.kept hg d13.off, o4.kept hg d14.off, ?_⟩, d23, d24, (d12.next o2 hl).symm, d34, (d13.next o3 hl).symm, (d14.next o4 hl).symm⟩
  rw [List.length_append, List.map_append]
  exact ho
theorem Four.size {B w : World} {v1 v2 v3 v4 : Value} {l1 l2 l3 l4 : List Int} (h : Four B w v1 v2 v3 v4 l1 l2 l3 l4) : B.heap.size ≤ w.heap.size := h.1.size
/-- A whole row put behind one of one's own: the row may have no memory at all. -/
theorem append_row {ops : Array Oper} {rest : List Oper} {o : Oper} {a : Act} {Q : Exit → Act → World → Prop} (w : World) (hgd : o.guard = none) (s x : Operand) (t : TypeId)
    (ho : o.op = .call { callee := .builtin .append, args := #[s, x], argTypes := #[t, t] })
    (base : Nat) (e : TypeId) (i : TypeInfo) (z : Value) (size bytes : Nat) (ht : Try.prog.underlying t = some (.slice e)) (hi : Try.prog.info? e = some i) (hz : i.zero = some z)
    (hsize : i.size = size) (hby : i.bytes = bytes) (hzs : z.cells.size = size) (hsz : 0 < size)
    (v : Value) (n : Nat) (xs : List Value) (hs : a.eval s = v) (hown : w.ownsRow base e size v n xs)
    (ao : Option Addr) (m c : Nat) (news : List Value) (hx : a.eval x = .slice ao m c) (hl : news.length = m * size) (hnone : ao = none → m = 0 ∧ c = 0)
    (hnews : ∀ ad, ao = some ad → ∀ j u, news[j]? = some u → w.cell? (ad.add j) = some u) (h1 : ∀ u ∈ news, u.oneCell' = true)
    (h63 : n + m ≤ maxLen) (hbytes : (n + m) * bytes ≤ 140737488355328) (hbase : base ≤ w.heap.size)
    (h : ∀ v' w', w'.ownsRow base e size v' (n + m) (xs ++ news) → w.grownBy w' v.ownBlock → (v'.ownBlock = v.ownBlock ∨ v'.ownBlock = some w.heap.size) → wpList Try.prog ops Q rest (a.put o.dst v') w') : wpList Try.prog ops Q (o :: rest) a w := by
  cases ao with
  | some ad => exact wpList_append_own_at w hgd s x t ho base e i z size bytes ht hi hz hsize hby hzs hsz v n xs hs hown ad m c news hx hl (hnews ad rfl) h1 h63 hbytes hbase fun v' w' h1 h2 _ h4 => h v' w' h1 h2 h4
  | none =>
    obtain ⟨rfl, rfl⟩ := hnone rfl
    have hnil : news = [] := List.eq_nil_of_length_eq_zero (by rw [hl, Nat.zero_mul])
    subst hnil
    exact wpList_append_own_none hgd s x t ho base e i size ht hi v n xs hs hown hx (h v w (by rw [List.append_nil]; exact hown) ⟨rfl, rfl, rfl, Nat.le_refl _, fun _ _ _ => rfl⟩ (.inl rfl))
theorem UL.news {w : World} {A : Option Addr} {n c : Nat} {l : List Int} (h : UL w A n c l) : (l.map (Value.int .i64)).length = n * 1 ∧ (A = none → n = 0 ∧ c = 0) ∧ (∀ ad, A = some ad → ∀ j u, (l.map (Value.int .i64))[j]? = some u → w.cell? (ad.add j) = some u) ∧ (∀ u ∈ l.map (Value.int .i64), u.oneCell' = true) := by
  refine ⟨by rw [List.length_map, Nat.mul_one]; exact h.1, fun h0 => ?_, fun ad hA j u hj => ?_, fun u hu => ?_⟩
  · have := h.2.2.1 h0
    have := h.2.1
    omega
  · rw [List.getElem?_map] at hj
    obtain ⟨x, hx, rfl⟩ := Option.map_eq_some_iff.1 hj
    obtain ⟨ad2, e2, _, hc2⟩ := h.2.2.2 j x hx
    rw [hA] at e2
    obtain rfl := Option.some.inj e2
    exact hc2
  · obtain ⟨x, _, rfl⟩ := List.mem_map.1 hu
    rfl
/-- A row that has just been made of some numbers. -/
theorem own_lit (w : World) (l : List Int) (hl : l.length ≤ 1000000) : (w.alloc (.cells (l.map (Value.int .i64)).toArray 2)).ownsRow w.heap.size 2 1 (.slice (some ⟨w.heap.size, 0, none⟩) l.length l.length) l.length (l.map (Value.int .i64)) :=
  ⟨by simp, .inr ⟨w.heap.size, l.length, (l.map (Value.int .i64)).toArray, rfl, Nat.le_refl _, heap_alloc_new w _, Nat.le_refl _, by simp only [maxLen]; omega, by simp, by rw [List.take_of_length_le (by simp)]⟩⟩
/-- What lies in a box of a number. -/
def Box1 (g : Nat) (s : Bool) (A : Option Addr) (n c : Nat) (x : World) : Prop := x.cell? ⟨g, 0, none⟩ = some (.bool s) ∧ x.cell? ⟨g, 1, none⟩ = some (.slice A n c) ∧ g < x.heap.size
theorem Box1.below {g : Nat} {s : Bool} {A : Option Addr} {n c : Nat} {x x' : World} (h : Box1 g s A n c x) (hb : Below x.heap.size x x') : Box1 g s A n c x' :=
  ⟨(hb.cell (p := ⟨g, 0, none⟩) h.2.2).trans h.1, (hb.cell (p := ⟨g, 1, none⟩) h.2.2).trans h.2.1, Nat.lt_of_lt_of_le h.2.2 hb.size⟩
theorem Box1.new (w : World) (s : Bool) (A : Option Addr) (n c : Nat) (t : TypeId) : Box1 w.heap.size s A n c (w.alloc (.cells #[.bool s, .slice A n c] t)) := ⟨by simp, by simp, by simp⟩
end Go.Proofs.Ytclnmheplecknaa

/-
  Plain: limbs of sums and differences.
  Plain: one step of a sum and of a difference, limb by limb.
  Plain: rows added place by place, turned, with a nought ahead: what Whole tells of them.
  Walks: limb's Bits and up.
  Walks: Len64 and LeadingZeros64.
  Walks: limb's behind and its closure.
  Add64 and Sub64: what they tell.
  Walk: limb's sizes.
  Walk: limb's Neg.
  Walks: slices' Clone of limbs; limb's Neg.
  Walks: limb's told; slices' Clip and Clone of limbs.
-/
import Derived.Test.YtclnmheplecknaaR1
import Derived.Deep.RegionHeld3
import Derived.Deep.QuietTactic
import Derived.BigQuiet
import Derived.Lib.Walk
import Derived.Lib.BitFns
import Derived.Deep.Light
set_option linter.unusedVariables false
set_option linter.unusedSimpArgs false
namespace Go.Proofs.Ytclnmheplecknaa
open Go.RowKit
theorem U.cut {w : World} {A : Option Addr} {n c : Nat} {l : List Int} (h : U w A n c l) (k : Nat) (hk : k ≤ n) : U w A k c (l.take k) := by
  obtain ⟨h1, h2, h3, h4⟩ := h
  refine ⟨by rw [List.length_take, Nat.min_eq_left (by omega)], by omega, h3, fun j x hj => h4 j x ?_⟩
  rw [List.getElem?_take] at hj
  split at hj
  · exact hj
  · cases hj
theorem U.clip {w : World} {A : Option Addr} {n c : Nat} {l : List Int} (h : U w A n c l) : U w A n n l :=
  ⟨h.1, Nat.le_refl _, fun hA => by have := h.2.2.1 hA; have := h.2.1; omega, h.2.2.2⟩
set_option maxRecDepth 100000 in
theorem clip_any (A : Option Addr) (n c : Nat) (w : World) (hnc : n ≤ c) (hc : c ≤ 9223372036854775807) : Calls Try.prog 99 #[.slice A n c] w fun e w' => e = .returned (.slice A n n) ∧ w = w' := by
  go_enter Try.func99, Try.ntmps99
  go_wp2
  go_ret
  exact ⟨rfl, rfl⟩
set_option maxRecDepth 400000 in
set_option maxHeartbeats 4000000 in
theorem told_any (neg : Bool) (A : Option Addr) (n c N : Nat) (o : List Int) (w : World) (hu : U w A n c o) (hc : c ≤ 9223372036854775807) (hn : n ≤ 1000000000) (hd : Nt.Dig 18446744073709551616 o) (hN : N = Nt.val 18446744073709551616 o) (hlen : (Nt.dg 18446744073709551616 N).length ≤ 4096) :
    Calls Try.prog 61 #[.bool neg, .slice A n c] w fun e w' => ∃ A' c', e = .returned (.tuple #[.agg #[.bool (decide (N ≠ 0) && neg), .slice A' (Nt.dg 18446744073709551616 N).length c'], .int .i64 0]) ∧ U w' A' (Nt.dg 18446744073709551616 N).length c' (Nt.dg 18446744073709551616 N) ∧ Below w.heap.size w w' := by
  have hl := hu.1
  have hroom := hu.2.1
  have hba := (Below.refl w.heap.size w).alloc (Nat.le_refl _) (.cells #[.bool false, .slice none 0 0] 24)
  have HB := Lib.hid hba
  have HU := Lib.hid (hu.below hba)
  have HBA := Lib.hid (fun ob => (Below.refl w.heap.size w).alloc (Nat.le_refl _) ob)
  have HUA := Lib.hid (fun ob => hu.below ((Below.refl w.heap.size w).alloc (Nat.le_refl _) ob))
  have HK : Hid (∀ k : Nat, k ≤ n → (∀ x, x ∈ o.drop k → x = 0) → (k = 0 ∨ ∃ x, o[k - 1]? = some x ∧ x ≠ 0) → o.take k = Nt.dg 18446744073709551616 N ∧ (Nt.dg 18446744073709551616 N).length = k) := Lib.hid (fun k hk hz ht => by
    have h := trimmed o k hd hz ht (by omega)
    rw [← hN] at h
    exact ⟨h, by rw [← h, List.length_take, Nat.min_eq_left (by omega)]⟩)
  have HZ0 : Hid ((Nt.dg 18446744073709551616 N).length = 0 ↔ N = 0) := Lib.hid ⟨fun h => by
    have h2 := List.eq_nil_of_length_eq_zero h
    have h3 := Nt.val_dg 18446744073709551616 (by decide) N
    rw [h2] at h3
    exact h3.symm, fun h => by rw [h, Nt.dg_zero]; rfl⟩
  have hst := int_store (w1 := w.alloc (.cells #[.bool false, .slice none 0 0] 24)) (g := w.heap.size) (b0 := false) (A0 := none) (n0 := 0) (c0 := 0) (by simp) (by simp)
  have HST := Lib.hid hst
  have HL := Lib.hid hl
  have HLEN := Lib.hid hlen
  generalize (Nt.dg 18446744073709551616 N) = D at *
  clear hu hd hba hst hl hN hlen
  go_enter Try.func61, Try.ntmps61
  go_wp2_with fail
  go_loop [1] (fun v => ∃ k : Nat, k ≤ n ∧ v = .slice A k c ∧ Hid (∀ x, x ∈ o.drop k → x = 0)) (fun v => lenV v)
  case atStart => exact ⟨n, Nat.le_refl _, rfl, Lib.hid (fun x hx => by rw [← HL.out, List.drop_length] at hx; cases hx)⟩
  case round =>
    obtain ⟨k, hk, rfl, HZ⟩ := hrel
    rcases k with _ | k
    · obtain ⟨q1, q2⟩ := HK.out 0 hk HZ.out (.inl rfl)
      have hD : D = [] := List.eq_nil_of_length_eq_zero q2
      have hN0 := HZ0.out.1 q2
      subst hD
      subst hN0
      clear q1 q2
      go_wp2
      first
        | (refine bodyPost_ret (v := .tuple #[.agg #[.bool false, .slice none 0 0], .int .i64 0]) (by simp [results, Try.results61, go_sem]) rfl ⟨none, 0, rfl, U_none _, HB.out⟩)
        | (refine bodyPost_ret (v := .tuple #[.agg #[.bool false, .slice none 0 0], .int .i64 0]) (by simp [results, Try.results61, go_sem, (HST.out (.bool false) (.slice none 0 0)).2.2.1, (HST.out (.bool false) (.slice none 0 0)).2.2.2]) rfl ⟨none, 0, rfl, U_none _, (HST.out (.bool false) (.slice none 0 0)).2.1 _ _ (Nat.le_refl _) HB.out⟩)
    · obtain ⟨x, hx⟩ : ∃ x, o[k]? = some x := ⟨_, List.getElem?_eq_getElem (by have := HL.out; omega)⟩
      obtain ⟨ad, rfl, _, hcx⟩ := HU.out.2.2.2 k x hx
      by_cases h0 : x = 0
      · subst h0
        have HZ2 := Lib.hid (drop_zero o k hx HZ.out)
        clear hx
        go_wp2_with fail
        go_round
        case rel => exact ⟨k, by omega, rfl, HZ2⟩
        case measure => simp [lenV]
      · obtain ⟨q1, q2⟩ := HK.out (k + 1) hk HZ.out (.inr ⟨x, by simpa using hx, h0⟩)
        have hx0 : (x == 0) = false := by simpa using h0
        have HU3 : Hid (∀ ob, U (w.alloc ob) (some ad) (k + 1) (k + 1) D) := Lib.hid (fun ob => by
          have h2 := (HUA.out ob).cut (k + 1) hk
          rw [q1] at h2
          exact h2.clip)
        have hk4 : ¬ 4096 < (k : Int) + 1 := by have := HLEN.out; omega
        have hk5 : decide (4096 < (k : Int) + 1) = false := decide_eq_false hk4
        have hk6 : ((k : Int) + 1 == 0) = false := by simp; omega
        have HN0 : Hid (decide (N ≠ 0) = true) := Lib.hid (decide_eq_true (fun h => by have := HZ0.out.2 h; omega))
        have HQ := Lib.hid q2
        have HCL := Lib.hid (fun x => clip_any (some ad) (k + 1) c x (by omega) hc)
        clear hx q1 q2
        go_wp2_with fail
        refine (HCL.out _).mono ?_
        rintro e w' ⟨rfl, rfl⟩
        go_wp2
        have hO := HST.out (.bool neg) (.slice (some ad) (k + 1) (k + 1))
        refine bodyPost_ret (v := .tuple #[.agg #[.bool neg, .slice (some ad) (k + 1) (k + 1)], .int .i64 0]) (by simp [results, Try.results61, go_sem, hO.2.2.1, hO.2.2.2]) rfl ?_
        refine ⟨some ad, k + 1, by rw [HN0.out, Bool.true_and, HQ.out], ?_, ?_⟩
        · rw [HQ.out]; exact HU3.out _
        · exact HBA.out _
end Go.Proofs.Ytclnmheplecknaa

namespace Go.Proofs.Ytclnmheplecknaa
open Go.RowKit
set_option maxRecDepth 100000 in
set_option maxHeartbeats 2000000 in
theorem clone_limbs (A : Option Addr) (n c : Nat) (l : List Int) (w : World) (hn : n ≤ 100000000) (hu : U w A n c l) :
    Calls Try.prog 62 #[.slice A n c] w fun e w' => ∃ A' c', e = .returned (.slice A' n c') ∧ U w' A' n c' l ∧ c' ≤ 9223372036854775807 ∧ Below w.heap.size w w' := by
  obtain ⟨i0, hi0, hz0, hz1, hz2⟩ := info_parts u64_info
  have en1 : ∀ (w : World), (binOp .eql 22 (.slice none 0 0) (.slice none 0 0)).run Try.prog w = .ok (.bool true) w := fun _ => rfl
  have en2 : ∀ (w : World) (a : Addr) (n c : Nat), (binOp .eql 22 (.slice (some a) n c) (.slice none 0 0)).run Try.prog w = .ok (.bool false) w := fun _ _ _ _ => rfl
  rcases A with _ | ad
  · obtain rfl : c = 0 := hu.2.2.1 rfl
    obtain rfl : n = 0 := by have := hu.2.1; omega
    obtain rfl : l = [] := List.eq_nil_of_length_eq_zero hu.1
    clear hu
    go_enter Try.func62, Try.ntmps62
    go_wp2
    go_ret
    exact ⟨_, _, rfl, U_none _, by decide, Below.refl _ _⟩
  · have HL : Hid ((l.map (Value.int .u64)).length = n * 1) := Lib.hid (by rw [List.length_map, Nat.mul_one]; exact hu.1)
    have HC : Hid (∀ j u, (l.map (Value.int .u64))[j]? = some u → (w.alloc (.cells #[] 55)).cell? (ad.add j) = some u) := Lib.hid (fun j u hj => by
      rw [List.getElem?_map] at hj
      obtain ⟨x, hx, rfl⟩ := Option.map_eq_some_iff.1 hj
      obtain ⟨ad2, e2, _, hc2⟩ := (hu.below ((Below.refl w.heap.size w).alloc (Nat.le_refl _) (.cells #[] 55))).2.2.2 j x hx
      obtain rfl := Option.some.inj e2
      exact hc2)
    have H1 : Hid (∀ u ∈ l.map (Value.int .u64), u.oneCell' = true) := Lib.hid (fun u hu => by obtain ⟨x, _, rfl⟩ := List.mem_map.1 hu; rfl)
    have HNIL : Hid ((w.alloc (.cells #[] 55)).ownsRow w.heap.size 55 1 (.slice (some ⟨w.heap.size, 0, none⟩) 0 0) 0 []) := Lib.hid ⟨by simp, .inr ⟨w.heap.size, 0, #[], rfl, Nat.le_refl _, (by show (w.heap.push _)[w.heap.size]? = _; simp), by simp, by simp [maxLen], by simp, by simp⟩⟩
    have HB1 := Lib.hid ((Below.refl w.heap.size w).alloc (Nat.le_refl _) (.cells #[] 55))
    generalize hlv : l.map (Value.int .u64) = lv at *
    have HLV := Lib.hid hlv
    clear hu hlv
    go_enter Try.func62, Try.ntmps62
    go_wp2_with (at_builtin; refine wpList_append_own _ rfl (.tmp 5) (.tmp 6) _ rfl w.heap.size 55 i0 _ 1 8 Try.underlying22 hi0 hz0 hz1 hz2 rfl (Nat.le_refl 1) (.slice (some ⟨w.heap.size, 0, none⟩) 0 0) 0 [] rfl HNIL.out ad n c lv rfl HL.out HC.out H1.out (by simp only [maxLen]; omega) (by omega) (by simp) ?_; intro v' w3 hown hg _)
    rw [Nat.zero_add, List.nil_append] at hown
    have HO := Lib.hid hown
    have HB := Lib.hid (HB1.out.grown hg HB1.out.size (fun k hk => by cases hk; exact Nat.le_refl _))
    rw [← HLV.out] at hown
    obtain ⟨A', c', hv, hu'⟩ := U.of_own hown
    have hcap : c' ≤ 9223372036854775807 := by
      rcases hown.2 with ⟨h, _⟩ | ⟨g', cap', cur, h, _, _, _, hm, _⟩
      · rw [hv] at h; injection h with _ _ h3; omega
      · rw [hv] at h; injection h with _ _ h3; simp only [maxLen] at hm; omega
    subst hv
    have HU := Lib.hid hu'
    clear hown hg hu'
    go_wp2
    go_ret
    exact ⟨_, _, rfl, HU.out, hcap, HB.out⟩
end Go.Proofs.Ytclnmheplecknaa

namespace Go.Proofs.Ytclnmheplecknaa
open Go.RowKit
set_option maxRecDepth 400000 in
set_option maxHeartbeats 4000000 in
theorem neg_any (s : Bool) (A : Option Addr) (n c : Nat) (l : List Int) (w : World) (hu : U w A n c l) (hn : n ≤ 1000000) (hd : Nt.Dig 18446744073709551616 l) (hr : rightB s l = true) :
    Calls Try.prog 31 #[.agg #[.bool s, .slice A n c]] w fun e w' => ∃ A' c', e = .returned (.tuple #[.agg #[.bool (decide (Nt.val 18446744073709551616 l ≠ 0) && !s), .slice A' n c'], .int .i64 0]) ∧ U w' A' n c' l ∧ Below w.heap.size w w' := by
  obtain ⟨g1, g2, _⟩ := right_dg hd hr
  have HU := Lib.hid hu
  have HRI := Lib.hid (fun x (hb : Below w.heap.size w x) => right_any s A n c l x (hu.below hb) (by omega))
  rw [hr] at HRI
  have hln := hu.1
  have HCL := Lib.hid (fun x (hb : Below w.heap.size w x) => clone_limbs A n c l x (by omega) (hu.below hb))
  obtain ⟨N, hN⟩ : ∃ N, N = Nt.val 18446744073709551616 l := ⟨_, rfl⟩
  have HTO : Hid (∀ x A' c', U x A' n c' l → c' ≤ 9223372036854775807 → Calls Try.prog 61 #[.bool (!s), .slice A' n c'] x fun e w' => ∃ A' c', e = .returned (.tuple #[.agg #[.bool (decide (N ≠ 0) && !s), .slice A' n c'], .int .i64 0]) ∧ U w' A' n c' l ∧ Below x.heap.size x w') := Lib.hid (fun x A' c' h hc => by
    have ht := told_any (!s) A' n c' N l x h hc (by omega) hd hN (by rw [hN, ← g1]; exact g2)
    rw [hN] at ht ⊢
    rw [← g1, hln] at ht
    exact ht)
  rw [← hN]
  generalize (decide (N ≠ 0) && !s) = RS at HTO ⊢
  have HB1 := Lib.hid (((Below.refl w.heap.size w).alloc (Nat.le_refl _) (.cells #[.bool s, .slice A n c] 24)).alloc (by simp) (.cells #[.bool false, .slice none 0 0] 24))
  have hT : ∀ x x', ((x.cell? ⟨w.heap.size, 0, none⟩ = some (.bool s) ∧ x.cell? ⟨w.heap.size, 1, none⟩ = some (.slice A n c)) ∧ (x.cell? ⟨w.heap.size + 1, 0, none⟩ = some (.bool false) ∧ x.cell? ⟨w.heap.size + 1, 1, none⟩ = some (.slice none 0 0)) ∧ (x.frozen? ⟨w.heap.size + 1, 0, none⟩ = false ∧ x.frozen? ⟨w.heap.size + 1, 1, none⟩ = false) ∧ Hid (Below w.heap.size w x ∧ w.heap.size + 1 < x.heap.size)) → Below x.heap.size x x' →
      ((x'.cell? ⟨w.heap.size, 0, none⟩ = some (.bool s) ∧ x'.cell? ⟨w.heap.size, 1, none⟩ = some (.slice A n c)) ∧ (x'.cell? ⟨w.heap.size + 1, 0, none⟩ = some (.bool false) ∧ x'.cell? ⟨w.heap.size + 1, 1, none⟩ = some (.slice none 0 0)) ∧ (x'.frozen? ⟨w.heap.size + 1, 0, none⟩ = false ∧ x'.frozen? ⟨w.heap.size + 1, 1, none⟩ = false) ∧ Hid (Below w.heap.size w x' ∧ w.heap.size + 1 < x'.heap.size)) := by
    rintro x x' ⟨⟨h1, h2⟩, ⟨h3, h4⟩, ⟨h5, h6⟩, h⟩ hb
    obtain ⟨h7, h8⟩ := h.out
    exact ⟨⟨(hb.cell (p := ⟨w.heap.size, 0, none⟩) (by show w.heap.size < _; omega)).trans h1, (hb.cell (p := ⟨w.heap.size, 1, none⟩) (by show w.heap.size < _; omega)).trans h2⟩, ⟨(hb.cell (p := ⟨w.heap.size + 1, 0, none⟩) h8).trans h3, (hb.cell (p := ⟨w.heap.size + 1, 1, none⟩) h8).trans h4⟩, ⟨(hb.frozen (p := ⟨w.heap.size + 1, 0, none⟩) h8).trans h5, (hb.frozen (p := ⟨w.heap.size + 1, 1, none⟩) h8).trans h6⟩, Lib.hid ⟨h7.trans (hb.mono h7.size), Nat.lt_of_lt_of_le h8 hb.size⟩⟩
  have hS1 : ((((w.alloc (.cells #[.bool s, .slice A n c] 24)).alloc (.cells #[.bool false, .slice none 0 0] 24)).cell? ⟨w.heap.size, 0, none⟩ = some (.bool s) ∧ ((w.alloc (.cells #[.bool s, .slice A n c] 24)).alloc (.cells #[.bool false, .slice none 0 0] 24)).cell? ⟨w.heap.size, 1, none⟩ = some (.slice A n c)) ∧ (((w.alloc (.cells #[.bool s, .slice A n c] 24)).alloc (.cells #[.bool false, .slice none 0 0] 24)).cell? ⟨w.heap.size + 1, 0, none⟩ = some (.bool false) ∧ ((w.alloc (.cells #[.bool s, .slice A n c] 24)).alloc (.cells #[.bool false, .slice none 0 0] 24)).cell? ⟨w.heap.size + 1, 1, none⟩ = some (.slice none 0 0)) ∧ (((w.alloc (.cells #[.bool s, .slice A n c] 24)).alloc (.cells #[.bool false, .slice none 0 0] 24)).frozen? ⟨w.heap.size + 1, 0, none⟩ = false ∧ ((w.alloc (.cells #[.bool s, .slice A n c] 24)).alloc (.cells #[.bool false, .slice none 0 0] 24)).frozen? ⟨w.heap.size + 1, 1, none⟩ = false) ∧ Hid (Below w.heap.size w ((w.alloc (.cells #[.bool s, .slice A n c] 24)).alloc (.cells #[.bool false, .slice none 0 0] 24)) ∧ w.heap.size + 1 < ((w.alloc (.cells #[.bool s, .slice A n c] 24)).alloc (.cells #[.bool false, .slice none 0 0] 24)).heap.size)) := ⟨⟨by simp, by simp⟩, ⟨by simp, by simp⟩, ⟨by simp, by simp⟩, Lib.hid ⟨HB1.out, by simp⟩⟩
  have HS1 := Lib.hid hS1
  have HTT := Lib.hid hT
  clear hu hd hr g1 g2 hln hN hT hS1
  go_enter Try.func31, Try.ntmps31
  go_wp2_with fail
  refine (HRI.out _ HB1.out).mono ?_
  rintro e w1 ⟨rfl, hb⟩
  have hS2 := HTT.out _ _ HS1.out hb
  have HS2 := Lib.hid (HTT.out _ _ hS2 (Below.refl w1.heap.size w1).drew)
  obtain ⟨⟨p1, p2⟩, ⟨p3, p4⟩, ⟨p5, p6⟩, _⟩ := hS2
  have HC1 : Hid (Calls Try.prog 62 #[.slice A n c] w1.drew fun e w' => ∃ A' c', e = .returned (.slice A' n c') ∧ Hid (U w' A' n c' l ∧ c' ≤ 9223372036854775807) ∧ Hid ((w'.cell? ⟨w.heap.size, 0, none⟩ = some (.bool s) ∧ w'.cell? ⟨w.heap.size, 1, none⟩ = some (.slice A n c)) ∧ (w'.cell? ⟨w.heap.size + 1, 0, none⟩ = some (.bool false) ∧ w'.cell? ⟨w.heap.size + 1, 1, none⟩ = some (.slice none 0 0)) ∧ (w'.frozen? ⟨w.heap.size + 1, 0, none⟩ = false ∧ w'.frozen? ⟨w.heap.size + 1, 1, none⟩ = false) ∧ Hid (Below w.heap.size w w' ∧ w.heap.size + 1 < w'.heap.size)) ∧ (w'.cell? ⟨w.heap.size, 0, none⟩ = some (.bool s) ∧ w'.cell? ⟨w.heap.size, 1, none⟩ = some (.slice A n c))) := Lib.hid (by
    refine (HCL.out _ HS2.out.2.2.2.out.1).mono ?_
    rintro e w' ⟨A', c', rfl, hu', hc', hbb⟩
    have hf := HTT.out _ _ HS2.out hbb
    exact ⟨A', c', rfl, Lib.hid ⟨hu', hc'⟩, Lib.hid hf, hf.1⟩)
  have HC2 : Hid (∀ x A' c', Hid (U x A' n c' l ∧ c' ≤ 9223372036854775807) → Hid ((x.cell? ⟨w.heap.size, 0, none⟩ = some (.bool s) ∧ x.cell? ⟨w.heap.size, 1, none⟩ = some (.slice A n c)) ∧ (x.cell? ⟨w.heap.size + 1, 0, none⟩ = some (.bool false) ∧ x.cell? ⟨w.heap.size + 1, 1, none⟩ = some (.slice none 0 0)) ∧ (x.frozen? ⟨w.heap.size + 1, 0, none⟩ = false ∧ x.frozen? ⟨w.heap.size + 1, 1, none⟩ = false) ∧ Hid (Below w.heap.size w x ∧ w.heap.size + 1 < x.heap.size)) → Calls Try.prog 61 #[.bool (!s), .slice A' n c'] x fun e w' => ∃ A2 c2, e = .returned (.tuple #[.agg #[.bool RS, .slice A2 n c2], .int .i64 0]) ∧ Hid (U w' A2 n c2 l) ∧ ((w'.cell? ⟨w.heap.size, 0, none⟩ = some (.bool s) ∧ w'.cell? ⟨w.heap.size, 1, none⟩ = some (.slice A n c)) ∧ (w'.cell? ⟨w.heap.size + 1, 0, none⟩ = some (.bool false) ∧ w'.cell? ⟨w.heap.size + 1, 1, none⟩ = some (.slice none 0 0)) ∧ (w'.frozen? ⟨w.heap.size + 1, 0, none⟩ = false ∧ w'.frozen? ⟨w.heap.size + 1, 1, none⟩ = false) ∧ Hid (Below w.heap.size w w' ∧ w.heap.size + 1 < w'.heap.size))) := Lib.hid (fun x A' c' h hf => by
    refine (HTO.out x A' c' h.out.1 h.out.2).mono ?_
    rintro e w' ⟨A2, c2, rfl, hu', hbb⟩
    exact ⟨A2, c2, rfl, Lib.hid hu', HTT.out _ _ hf.out hbb⟩)
  have HS3 := Lib.hid HS2.out.1
  clear hb HTT HTO HCL HRI HS1 HS2 HB1 HU p3 p4 p5 p6
  go_wp2_with fail
  go_region_held3 (fun x => x.cell? ⟨w.heap.size, 0, none⟩ = some (.bool s) ∧ x.cell? ⟨w.heap.size, 1, none⟩ = some (.slice A n c)) ((first | assumption | exact HS3.out | exact hq0 | exact ⟨(World.cell?_setCell_other _ _ _ _ (by simp)).trans hq0.1, (World.cell?_setCell_other _ _ _ _ (by simp)).trans hq0.2⟩ | exact ⟨(World.cell?_setCell_other _ _ _ _ (by simp)).trans ((World.cell?_setCell_other _ _ _ _ (by simp)).trans hq0.1), (World.cell?_setCell_other _ _ _ _ (by simp)).trans ((World.cell?_setCell_other _ _ _ _ (by simp)).trans hq0.2)⟩)) (first
    | (go_at_call 62; refine HC1.out.mono ?_; rintro e w2 ⟨A3, c3, rfl, hu3, hf3, hq⟩)
    | (go_at_call 61; refine (HC2.out _ _ _ hu3 hf3).mono ?_; rintro e w3 ⟨A4, c4, rfl, hu4, hq0, ⟨p3, p4⟩, ⟨p5, p6⟩, hq1⟩))
  have hO := int_store (w1 := w3) (g := w.heap.size + 1) p3 p4 (.bool RS) (.slice A4 n c4)
  have HO := Lib.hid hO
  have HU4 := Lib.hid (hO.1 _ _ _ _ hu4.out)
  have HB4 := Lib.hid (hO.2.1 _ _ (show w.heap.size ≤ w.heap.size + 1 by omega) hq1.out.1)
  clear hO p3 p4 p5 p6 hq0 hq1 hu4
  go_wp2
  refine bodyPost_ret (v := .tuple #[.agg #[.bool RS, .slice A4 n c4], .int .i64 0]) (by simp [results, Try.results31, go_sem, HO.out.2.2.1, HO.out.2.2.2]) rfl ⟨A4, c4, rfl, HU4.out, HB4.out⟩
end Go.Proofs.Ytclnmheplecknaa

namespace Go.Proofs.Ytclnmheplecknaa
open Go.RowKit
/-- The digits from the top on are alike as far as one looks. -/
theorem top_all {l l' : List Int} (hl : l.length = l'.length) (h : l.drop 0 = l'.drop 0) : l = l' := by simpa using h
set_option maxRecDepth 100000 in
set_option maxHeartbeats 4000000 in
/-- Below 0 just where the first number is less (of canonical digits). -/
theorem sizes_any (A : Option Addr) (n c : Nat) (l : List Int) (A' : Option Addr) (n' c' : Nat) (l' : List Int) (w : World) (hu : U w A n c l) (hu' : U w A' n' c' l') (hn : n ≤ 1000000) (hn' : n' ≤ 1000000) (hd : Nt.Dig 18446744073709551616 l) (hd' : Nt.Dig 18446744073709551616 l')
    (hl : l = Nt.dg 18446744073709551616 (Nt.val 18446744073709551616 l)) (hl' : l' = Nt.dg 18446744073709551616 (Nt.val 18446744073709551616 l')) :
    Calls Try.prog 57 #[.slice A n c, .slice A' n' c'] w fun e w' => ∃ T : Int, e = .returned (.int .i64 T) ∧ (T < 0 ↔ Nt.val 18446744073709551616 l < Nt.val 18446744073709551616 l') ∧ Below w.heap.size w w' := by
  have hln := hu.1
  have hln' := hu'.1
  by_cases hne : n = n'
  · subst hne
    have HU := Lib.hid hu
    have HU' := Lib.hid hu'
    have HL := Lib.hid hln
    have HL' := Lib.hid hln'
    have HLT := Lib.hid (fun i x y (h1 : l[i]? = some x) (h2 : l'[i]? = some y) (h : l.drop (i + 1) = l'.drop (i + 1)) => (⟨fun hxy => Nt.val_lt_of 18446744073709551616 (by decide) l l' hd hd' i x y h1 h2 h hxy, fun hxy => Nt.val_lt_of 18446744073709551616 (by decide) l' l hd' hd i y x h2 h1 h.symm hxy⟩ : (x < y → Nt.val 18446744073709551616 l < Nt.val 18446744073709551616 l') ∧ (y < x → Nt.val 18446744073709551616 l' < Nt.val 18446744073709551616 l)))
    have hs : ((n : Int) == (n : Int)) = true := by simp
    clear hu hu' hl hl' hd hd' hln hln'
    go_enter Try.func57, Try.ntmps57
    go_wp2_with fail
    go_loopw [20] (fun iv wr => ∃ i : Nat, i ≤ n ∧ iv = .int .i64 i ∧ Hid (l.drop (n - i) = l'.drop (n - i)) ∧ Hid (Below w.heap.size w wr)) (fun iv _ => n - (intOf iv).toNat)
    case atStart => exact ⟨0, Nat.zero_le _, rfl, Lib.hid (by rw [List.drop_eq_nil_of_le (by have := HL.out; omega), List.drop_eq_nil_of_le (by have := HL'.out; omega)]), Lib.hid (Below.refl _ _)⟩
    case round =>
      obtain ⟨i, hi, rfl, HE, HB⟩ := hrel
      by_cases hlt : i < n
      · obtain ⟨j, hj⟩ : ∃ j : Nat, j = n - 1 - i := ⟨_, rfl⟩
        obtain ⟨x, hx⟩ : ∃ x, l[j]? = some x := ⟨_, List.getElem?_eq_getElem (by have := HL.out; omega)⟩
        obtain ⟨y, hy⟩ : ∃ y, l'[j]? = some y := ⟨_, List.getElem?_eq_getElem (by have := HL'.out; omega)⟩
        obtain ⟨ad, rfl, _, hc1⟩ := (HU.out.below HB.out).2.2.2 j x hx
        obtain ⟨ad', rfl, _, hc2⟩ := (HU'.out.below HB.out).2.2.2 j y hy
        have hs1 : (n : Int) - 1 - (i : Int) = (j : Int) := by omega
        have hs2 : IntKind.i64.wrap ((n : Int) - 1) = (n : Int) - 1 := by rw [IntKind.wrap_i64]; omega
        have hs3 : IntKind.i64.wrap ((n : Int) - 1 - (i : Int)) = (j : Int) := by rw [IntKind.wrap_i64]; omega
        have hjn : j < n := by omega
        have hE2 := HE.out
        rw [show n - i = j + 1 by omega] at hE2
        have HC := Lib.hid (HLT.out j x y hx hy hE2)
        have HEN : Hid (x = y → l.drop (n - (i + 1)) = l'.drop (n - (i + 1))) := Lib.hid (fun hxy => by
          rw [show n - (i + 1) = j by omega, List.drop_eq_getElem_cons (show j < l.length by have := HL.out; omega), List.drop_eq_getElem_cons (show j < l'.length by have := HL'.out; omega), hE2]
          rw [List.getElem?_eq_getElem (by have := HL.out; omega)] at hx
          rw [List.getElem?_eq_getElem (by have := HL'.out; omega)] at hy
          rw [Option.some.inj hx, Option.some.inj hy, hxy])
        clear hE2 hj hx hy
        go_wp2_with fail
        go_quiet (fail)
        rename_i nq
        have HD2 := Lib.hid (HB.out.trans (show Below w.heap.size wr (wr.drewN nq) from ⟨rfl, rfl, rfl, Nat.le_refl _, fun _ _ => rfl⟩))
        rcases Int.lt_trichotomy x y with h | h | h
        · have HR := Lib.hid (HC.out.1 h)
          have t1 : decide (x < y) = true := decide_eq_true h
          clear h
          go_wp2
          go_ret
          exact ⟨-1, rfl, ⟨fun _ => HR.out, fun _ => by decide⟩, HD2.out⟩
        · have HR := Lib.hid (HEN.out h)
          have t1 : decide (x < y) = false := decide_eq_false (by omega)
          have t2 : decide (y < x) = false := decide_eq_false (by omega)
          clear h
          go_wp2
          go_roundw
          case rel => exact ⟨i + 1, by omega, by go_num, HR, HD2⟩
          case measure => simp [intOf]; omega
        · have HR := Lib.hid (HC.out.2 h)
          have t1 : decide (x < y) = false := decide_eq_false (by omega)
          have t2 : decide (y < x) = true := decide_eq_true h
          clear h
          go_wp2
          go_ret
          exact ⟨1, rfl, ⟨fun h => absurd h (by decide), fun h => absurd h (Nat.lt_asymm HR.out)⟩, HD2.out⟩
      · obtain rfl : i = n := by omega
        have hE := HE.out
        rw [Nat.sub_self] at hE
        have hEq : l = l' := by simpa using hE
        have HQ := Lib.hid hEq
        clear hE hEq
        go_wp2
        go_ret
        exact ⟨0, rfl, by rw [HQ.out]; simp, HB.out⟩
  · have h1 : Nt.val 18446744073709551616 l < Nt.val 18446744073709551616 l' ↔ (n : Int) - (n' : Int) < 0 := by
      rw [hl] at hln
      rw [hl'] at hln'
      constructor
      · intro h
        rcases Nat.lt_or_gt_of_ne hne with h2 | h2
        · omega
        · have := Nt.len_lt 18446744073709551616 (by decide) (Nt.val 18446744073709551616 l') (Nt.val 18446744073709551616 l) (by rw [hln, hln']; exact h2)
          omega
      · intro h
        exact Nt.len_lt 18446744073709551616 (by decide) (Nt.val 18446744073709551616 l) (Nt.val 18446744073709551616 l') (by rw [hln, hln']; omega)
    have H1 := Lib.hid h1
    have hs : ((n : Int) == (n' : Int)) = false := by simp; omega
    clear hu hu' hl hl' hd hd' hln hln' h1 hne
    go_enter Try.func57, Try.ntmps57
    go_wp2
    go_ret
    exact ⟨(n : Int) - (n' : Int), rfl, H1.out.symm, Below.refl _ _⟩
end Go.Proofs.Ytclnmheplecknaa

namespace Go.Proofs.Ytclnmheplecknaa
open Go.RowKit
def exAdd : Array Value → Sem Value := (Extern.MathBitsCarry.rows[0]'(by decide)).2
def exSub : Array Value → Sem Value := (Extern.MathBitsCarry.rows[1]'(by decide)).2
theorem run_add64 (x y : Int) (c : Nat) (hc : c ≤ 1) (w : World) : (callFunc 59 #[.int .u64 x, .int .u64 y, .int .u64 c]).run Try.prog w = .ok (.value (.tuple #[.int .u64 (((x.toNat + y.toNat + c) % 18446744073709551616 : Nat) : Int), .int .u64 (((x.toNat + y.toNat + c) / 18446744073709551616 : Nat) : Int)])) w := by
  rw [run_callFunc_extern (e := exAdd) Try.func59 (by kernel_rfl) (by kernel_rfl) (by kernel_rfl) (by kernel_rfl)]
  rcases (by omega : c = 0 ∨ c = 1) with rfl | rfl <;> rfl
theorem run_sub64 (x y : Int) (c : Nat) (hc : c ≤ 1) (w : World) : (callFunc 60 #[.int .u64 x, .int .u64 y, .int .u64 c]).run Try.prog w = .ok (.value (.tuple #[.int .u64 (((x.toNat + 18446744073709551616 - y.toNat - c) % 18446744073709551616 : Nat) : Int), .int .u64 (((if x.toNat < y.toNat + c then 1 else 0 : Nat)) : Int)])) w := by
  rw [run_callFunc_extern (e := exSub) Try.func60 (by kernel_rfl) (by kernel_rfl) (by kernel_rfl) (by kernel_rfl)]
  rcases (by omega : c = 0 ∨ c = 1) with rfl | rfl <;> rfl
end Go.Proofs.Ytclnmheplecknaa

namespace Go.Proofs.Ytclnmheplecknaa
open Go.RowKit
set_option maxRecDepth 100000 in
theorem behind_any (A : Option Addr) (n c : Nat) (w : World) : Calls Try.prog 58 #[.slice A n c] w fun e w' => e = .returned (.func (.func 98) #[] #[.pointer (some ⟨w.heap.size, 0, none⟩)]) ∧ w' = w.alloc (.cells #[.slice A n c] 22) := by
  go_enter Try.func58, Try.ntmps58
  go_wp2
  go_ret
  exact ⟨by simp, rfl⟩
set_option maxRecDepth 100000 in
theorem behind1_any (A : Option Addr) (n c g i : Nat) (l : List Int) (w : World) (hu : U w A n c l) (hc : w.cell? ⟨g, 0, none⟩ = some (.slice A n c)) (hn : n ≤ 1000000) (hi : i ≤ 1000000) :
    Calls Try.prog 98 #[.int .i64 i, .pointer (some ⟨g, 0, none⟩)] w fun e w' => e = .returned (.int .u64 ((l[i]?).getD 0)) ∧ w = w' := by
  by_cases h : i < n
  · obtain ⟨x, hx⟩ : ∃ x, l[i]? = some x := ⟨_, List.getElem?_eq_getElem (by have := hu.1; omega)⟩
    obtain ⟨ad, rfl, _, hcx⟩ := hu.2.2.2 i x hx
    rw [hx]
    clear hu hx
    go_enter Try.func98, Try.ntmps98
    go_wp2
    go_ret
    exact ⟨rfl, rfl⟩
  · rw [List.getElem?_eq_none (by have := hu.1; omega)]
    have hd : decide ((i : Int) < (n : Int)) = false := decide_eq_false (by omega)
    clear hu
    go_enter Try.func98, Try.ntmps98
    go_wp2
    go_ret
    exact ⟨rfl, rfl⟩
end Go.Proofs.Ytclnmheplecknaa

namespace Go.Proofs.Ytclnmheplecknaa
open Go.RowKit
set_option maxRecDepth 100000 in
theorem t8_size : (Lib.len8tab.size : Int) = 256 := by
  have : Lib.len8tab.size = 256 := by decide
  omega
theorem wrap_two (k a b : Nat) (hk : k ≤ 56) (ha : a ≤ 8) (hb : b = k + a) : RowKit.wrap64 ((k : Int) + RowKit.wrap64 (a : Int)) = (b : Int) := by
  unfold RowKit.wrap64
  omega
theorem wrap_low (a : Nat) (ha : a ≤ 8) : RowKit.wrap64 (RowKit.wrap64 (a : Int)) = (a : Int) := by
  unfold RowKit.wrap64
  omega
theorem wrap_low1 (a : Nat) (ha : a ≤ 8) : RowKit.wrap64 (a : Int) = (a : Int) := by
  unfold RowKit.wrap64
  omega
theorem t8_get (y : Int) (h : y.toNat < Lib.len8tab.size) : ((Lib.len8tab[y.toNat]'h).toNat : Int) = Lib.len8 y := by
  unfold Lib.len8
  rw [getElem?_pos Lib.len8tab y.toNat h]
  rfl
set_option maxHeartbeats 32000000 in
set_option maxRecDepth 1000000 in
theorem len64_bits (x : Int) (w : World) (h0 : 0 ≤ x) (h1 : x ≤ 18446744073709551615) :
    Calls Try.prog 142 #[.int .u64 x] w fun e w' => e = .returned (.int .i64 (Lib.bitLen x.toNat)) ∧ w' = w := by
  go_enter Try.func142, Try.ntmps142
  go_wp2
  all_goals first
    | (go_ret; refine ⟨congrArg Ending.returned (congrArg (Value.int IntKind.i64) ?_), rfl⟩; go_light)
    | (exfalso
       go_light
       have hs := t8_size
       omega)
  all_goals first
    | (rw [t8_get (x / 4294967296 / 65536 / 256) _, Lib.len8_of (x / 4294967296 / 65536 / 256) (by omega) (by omega)]
       have e : (x / 4294967296 / 65536 / 256).toNat = x.toNat / 72057594037927936 := by omega
       have l := Lib.bitLen_le8' (x / 4294967296 / 65536 / 256) (by omega) (by omega)
       have s := Lib.bitLen_shift56 x.toNat (by omega) (by omega)
       rw [e] at l ⊢
       exact wrap_two 56 _ _ (by decide) l s)
    | (rw [t8_get (x / 4294967296 / 65536) _, Lib.len8_of (x / 4294967296 / 65536) (by omega) (by omega)]
       have e : (x / 4294967296 / 65536).toNat = x.toNat / 281474976710656 := by omega
       have l := Lib.bitLen_le8' (x / 4294967296 / 65536) (by omega) (by omega)
       have s := Lib.bitLen_shift48 x.toNat (by omega) (by omega)
       rw [e] at l ⊢
       exact wrap_two 48 _ _ (by decide) l s)
    | (rw [t8_get (x / 4294967296 / 256) _, Lib.len8_of (x / 4294967296 / 256) (by omega) (by omega)]
       have e : (x / 4294967296 / 256).toNat = x.toNat / 1099511627776 := by omega
       have l := Lib.bitLen_le8' (x / 4294967296 / 256) (by omega) (by omega)
       have s := Lib.bitLen_shift40 x.toNat (by omega) (by omega)
       rw [e] at l ⊢
       exact wrap_two 40 _ _ (by decide) l s)
    | (rw [t8_get (x / 4294967296) _, Lib.len8_of (x / 4294967296) (by omega) (by omega)]
       have e : (x / 4294967296).toNat = x.toNat / 4294967296 := by omega
       have l := Lib.bitLen_le8' (x / 4294967296) (by omega) (by omega)
       have s := Lib.bitLen_shift32 x.toNat (by omega) (by omega)
       rw [e] at l ⊢
       exact wrap_two 32 _ _ (by decide) l s)
    | (rw [t8_get (x / 65536 / 256) _, Lib.len8_of (x / 65536 / 256) (by omega) (by omega)]
       have e : (x / 65536 / 256).toNat = x.toNat / 16777216 := by omega
       have l := Lib.bitLen_le8' (x / 65536 / 256) (by omega) (by omega)
       have s := Lib.bitLen_shift24 x.toNat (by omega) (by omega)
       rw [e] at l ⊢
       exact wrap_two 24 _ _ (by decide) l s)
    | (rw [t8_get (x / 65536) _, Lib.len8_of (x / 65536) (by omega) (by omega)]
       have e : (x / 65536).toNat = x.toNat / 65536 := by omega
       have l := Lib.bitLen_le8' (x / 65536) (by omega) (by omega)
       have s := Lib.bitLen_shift16 x.toNat (by omega) (by omega)
       rw [e] at l ⊢
       exact wrap_two 16 _ _ (by decide) l s)
    | (rw [t8_get (x / 256) _, Lib.len8_of (x / 256) (by omega) (by omega)]
       have e : (x / 256).toNat = x.toNat / 256 := by omega
       have l := Lib.bitLen_le8' (x / 256) (by omega) (by omega)
       have s := Lib.bitLen_shift8 x.toNat (by omega) (by omega)
       rw [e] at l ⊢
       exact wrap_two 8 _ _ (by decide) l s)
    | (rw [t8_get x _, Lib.len8_of x (by omega) (by omega)]
       have l := Lib.bitLen_le8' x (by omega) (by omega)
       first | exact wrap_low _ l | exact wrap_two 0 _ _ (by decide) l (by omega) | exact wrap_low1 _ l)
set_option maxRecDepth 100000 in
theorem zeros64_any (x : Int) (w : World) (h0 : 0 ≤ x) (h1 : x ≤ 18446744073709551615) :
    Calls Try.prog 100 #[.int .u64 x] w fun e w' => ∃ T : Nat, e = .returned (.int .i64 ((64 : Int) - (T : Int))) ∧ T ≤ 64 ∧ (x ≠ 0 → 1 ≤ T) ∧ w = w' := by
  have HC := Lib.hid (fun w => len64_bits x w h0 h1)
  have hb : Lib.bitLen x.toNat ≤ 64 := Lib.bitLen_le _ _ (Nat.le_refl _) (by omega)
  have hb1 : x ≠ 0 → 1 ≤ Lib.bitLen x.toNat := fun h => by
    rw [Lib.bitLen, Lib.bitLenAux, if_neg (by omega)]
    omega
  obtain ⟨T, hT⟩ : ∃ T, T = Lib.bitLen x.toNat := ⟨_, rfl⟩
  rw [← hT] at HC hb hb1
  have HB := Lib.hid hb1
  have hw1 : IntKind.i64.wrap ((64 : Int) - (T : Int)) = (64 : Int) - (T : Int) := by rw [IntKind.wrap_i64]; omega
  clear hT h0 h1 hb1
  go_enter Try.func100, Try.ntmps100
  go_wp2_with (refine (HC.out _).mono ?_; rintro e w1 ⟨rfl, rfl⟩)
  go_ret
  exact ⟨T, rfl, hb, HB.out, rfl⟩
end Go.Proofs.Ytclnmheplecknaa

namespace Go.Proofs.Ytclnmheplecknaa
open Go.RowKit
set_option maxRecDepth 100000 in
set_option maxHeartbeats 4000000 in
theorem bits_any (s : Bool) (A : Option Addr) (n c : Nat) (l : List Int) (w : World) (hu : U w A n c l) (hn : n ≤ 1000000) (hd : Nt.Dig 18446744073709551616 l) (hr : rightB s l = true) :
    Calls Try.prog 63 #[.agg #[.bool s, .slice A n c]] w fun e w' => ∃ T : Nat, e = .returned (.tuple #[.int .i64 T, .int .i64 0]) ∧ T ≤ 64 * n ∧ (T = 0 ↔ n = 0) ∧ Below w.heap.size w w' := by
  have HRI := Lib.hid (fun x (hb : Below w.heap.size w x) => right_any s A n c l x (hu.below hb) (by omega))
  rw [hr] at HRI
  have HB1 := Lib.hid ((Below.refl w.heap.size w).alloc (Nat.le_refl _) (.cells #[.bool s, .slice A n c] 24))
  have hln := hu.1
  have HU := Lib.hid hu
  have hlt1 : w.heap.size < (w.alloc (.cells #[.bool s, .slice A n c] 24)).heap.size := by simp
  have x0 : (w.alloc (.cells #[.bool s, .slice A n c] 24)).cell? ⟨w.heap.size, 0, none⟩ = some (.bool s) := by simp
  have x1 : (w.alloc (.cells #[.bool s, .slice A n c] 24)).cell? ⟨w.heap.size, 1, none⟩ = some (.slice A n c) := by simp
  by_cases h0 : n = 0
  · subst h0
    clear hu hd hr hln
    go_enter Try.func63, Try.ntmps63
    go_wp2_with fail
    refine (HRI.out _ HB1.out).mono ?_
    rintro e w1 ⟨rfl, hb⟩
    have HB2 := Lib.hid (HB1.out.trans (hb.mono HB1.out.size))
    clear hb
    go_wp2
    go_ret2
    exact ⟨0, by simp, by omega, by simp, HB2.out⟩
  · obtain ⟨j, hj⟩ : ∃ j : Nat, j = n - 1 := ⟨_, rfl⟩
    obtain ⟨x, hx⟩ : ∃ x, l[j]? = some x := ⟨_, List.getElem?_eq_getElem (by omega)⟩
    have hxb := hd x (List.mem_of_getElem? hx)
    have hx0 : x ≠ 0 := by
      intro h
      unfold rightB at hr
      rw [if_neg (by omega), hln, show n - 1 = j by omega, hx, h] at hr
      simp at hr
    have HZ := Lib.hid (fun w => zeros64_any x w hxb.1 (by omega))
    have HX0 := Lib.hid hx0
    have HUX : Hid (∀ w', Below w.heap.size w w' → ∃ ad, A = some ad ∧ w'.cell? (ad.add j) = some (.int .u64 x)) := Lib.hid (fun w' hb => by
      obtain ⟨ad, e1, _, e2⟩ := (hu.below hb).2.2.2 j x hx
      exact ⟨ad, e1, e2⟩)
    have hs2 : IntKind.i64.wrap ((n : Int) - 1) = (j : Int) := by rw [IntKind.wrap_i64]; omega
    have hs3 : IntKind.i64.wrap ((64 : Int) * (n : Int)) = (64 : Int) * (n : Int) := by rw [IntKind.wrap_i64]; omega
    have hs1 : (n : Int) - 1 = (j : Int) := by omega
    have hgt : (0 : Int) < (n : Int) := by omega
    have hjn : j < n := by omega
    have HN := Lib.hid h0
    clear hu hd hr hln hx hxb hx0 hj h0
    go_enter Try.func63, Try.ntmps63
    go_wp2_with fail
    refine (HRI.out _ HB1.out).mono ?_
    rintro e w1 ⟨rfl, hb⟩
    have HB2 := Lib.hid (HB1.out.trans (hb.mono HB1.out.size))
    have y0 := (hb.cell (p := ⟨w.heap.size, 0, none⟩) hlt1).trans x0
    have y1 := (hb.cell (p := ⟨w.heap.size, 1, none⟩) hlt1).trans x1
    obtain ⟨ad, rfl, hcx⟩ := HUX.out _ HB2.out
    clear hb x0 x1 hlt1
    go_wp2_with (refine (HZ.out _).mono ?_; rintro e w2 ⟨T, rfl, hT1, hT2, rfl⟩)
    have hs5 : (64 : Int) * (n : Int) - (64 - (T : Int)) = ((64 * n - (64 - T) : Nat) : Int) := by omega
    have hs4 : IntKind.i64.wrap ((64 : Int) * (n : Int) - (64 - (T : Int))) = ((64 * n - (64 - T) : Nat) : Int) := by rw [IntKind.wrap_i64]; omega
    go_wp2
    go_ret2
    exact ⟨64 * n - (64 - T), congrArg (fun z => Ending.returned (Value.tuple #[.int .i64 z, .int .i64 0])) hs5, by omega, by have := hT2 HX0.out; omega, HB2.out⟩
end Go.Proofs.Ytclnmheplecknaa

namespace Go.Proofs.Ytclnmheplecknaa
theorem sv_add (P : Int) : ∀ a b : List Int, a.length = b.length → sv P (List.zipWith (· + ·) a b) = sv P a + sv P b
  | [], [], _ => by simp [sv]
  | x :: a, y :: b, h => by
    have ih := sv_add P a b (by simpa using h)
    simp only [List.zipWith_cons_cons, sv, ih, Int.mul_add]
    omega
  | [], y :: b, h => by simp at h
  | x :: a, [], h => by simp at h
theorem sv_zero (P : Int) (l : List Int) : sv P (0 :: l) = P * sv P l := by simp [sv]
theorem row_wide {b : Nat} {r : List Int} (hb1 : 2 ≤ b) (hb2 : b ≤ 30) (hr : L64 r) (K : Nat) (hK : 63 + 30 * r.length < 64 * K) : (Nt.dg 18446744073709551616 (sv ((2 ^ b : Nat) : Int) r).natAbs).length ≤ K := by
  refine Nt.dg_len _ (by decide) K _ ?_
  have hP : 2 ≤ 2 ^ b := Nat.le_trans (by decide) (Nat.pow_le_pow_right (show 0 < 2 by decide) (show 1 ≤ b by omega))
  have h := up_dn b r
  have h1 := Nt.sumP_le (2 ^ b) 9223372036854775808 hP (Nt.pos false) r (fun x hx => Nt.pos_le false x (hr x hx))
  have h2 := Nt.sumP_le (2 ^ b) 9223372036854775808 hP (Nt.pos true) r (fun x hx => Nt.pos_le true x (hr x hx))
  have h3 : 9223372036854775808 * (2 ^ b) ^ r.length ≤ 2 ^ (63 + 30 * r.length) := by
    rw [Nat.pow_add, ← Nat.pow_mul]
    exact Nat.mul_le_mul (by decide) (Nat.pow_le_pow_right (by decide) (Nat.mul_le_mul_right _ hb2))
  have h4 : 2 ^ (63 + 30 * r.length) < 18446744073709551616 ^ K := by
    rw [show (18446744073709551616 : Nat) = 2 ^ 64 by decide, ← Nat.pow_mul]
    exact two_pow_lt _ _ hK
  unfold upN dnN at h
  generalize 18446744073709551616 ^ K = Q at *
  generalize 2 ^ (63 + 30 * r.length) = Q2 at *
  generalize 9223372036854775808 * (2 ^ b) ^ r.length = Q3 at *
  omega
/-- What Whole tells of a row of at most 1000 numbers: the canonical limbs of the value's size. -/
theorem wide_of {b : Nat} {r : List Int} {V : Int} (hb1 : 2 ≤ b) (hb2 : b ≤ 30) (hr : L64 r) (hlen : r.length ≤ 1000) (hV : sv ((2 ^ b : Nat) : Int) r = V) : wE (b : Int) r = 0 ∧ wS (b : Int) r = decide (V < 0) ∧ wL (b : Int) r = Nt.dg 18446744073709551616 V.natAbs ∧ (Nt.dg 18446744073709551616 V.natAbs).length ≤ 500 := by
  have h := row_wide hb1 hb2 hr 500 (by omega)
  rw [hV] at h
  obtain ⟨e1, e2, e3⟩ := whole_of hb1 hb2 hV (Nat.le_trans h (by decide))
  exact ⟨e1, e2, e3, h⟩
end Go.Proofs.Ytclnmheplecknaa

namespace Go.Proofs.Ytclnmheplecknaa
theorem val_snoc (B : Nat) (l : List Int) (i : Nat) (x : Int) (h : l[i]? = some x) : Nt.val B (l.take (i + 1)) = Nt.val B (l.take i) + B ^ i * x.toNat := by
  have hi := (List.getElem?_eq_some_iff.1 h).1
  rw [List.take_add_one, h, Option.toList_some, Nt.val_append, List.length_take, Nat.min_eq_left (by omega)]
  simp [Nt.val]
theorem val_over (B : Nat) (l : List Int) (i : Nat) (h : l[i]? = none) : Nt.val B (l.take (i + 1)) = Nt.val B (l.take i) := by
  have hi := List.getElem?_eq_none_iff.1 h
  rw [List.take_of_length_le (by omega), List.take_of_length_le (by omega)]
theorem val_next (B : Nat) (l : List Int) (i : Nat) : Nt.val B (l.take (i + 1)) = Nt.val B (l.take i) + B ^ i * ((l[i]?).getD 0).toNat := by
  cases h : l[i]? with
  | none => rw [val_over B l i h]; simp
  | some x => rw [val_snoc B l i x h]; rfl
theorem add_next {B i x y c V A C : Nat} (hB : 0 < B) (h : V + B ^ i * c = A + C) : (V + B ^ i * ((x + y + c) % B)) + B ^ (i + 1) * ((x + y + c) / B) = (A + B ^ i * x) + (C + B ^ i * y) := by
  rw [Nat.pow_succ, Nat.mul_assoc]
  have h1 := Nat.mod_add_div (x + y + c) B
  have h2 : B ^ i * ((x + y + c) % B) + B ^ i * (B * ((x + y + c) / B)) = B ^ i * (x + y + c) := by rw [← Nat.mul_add, h1]
  rw [Nat.mul_add, Nat.mul_add] at h2
  omega
theorem sub_next {B i x y c V A C : Nat} (hx : x < B) (hy : y < B) (hc : c ≤ 1) (h : V + C = A + B ^ i * c) : (V + B ^ i * ((x + B - y - c) % B)) + (C + B ^ i * y) = (A + B ^ i * x) + B ^ (i + 1) * (if x < y + c then 1 else 0) := by
  have e : (x + B - y - c) % B + y + c = x + B * (if x < y + c then 1 else 0) := by
    split
    · rename_i hlt
      rw [Nat.mod_eq_of_lt (by omega)]
      omega
    · rename_i hge
      rw [show x + B - y - c = (x - y - c) + B by omega, Nat.add_mod_right, Nat.mod_eq_of_lt (by omega)]
      omega
  rw [Nat.pow_succ, Nat.mul_assoc]
  have h2 := congrArg (B ^ i * ·) e
  rw [Nat.mul_add, Nat.mul_add, Nat.mul_add] at h2
  omega
end Go.Proofs.Ytclnmheplecknaa

namespace Go.Proofs.Ytclnmheplecknaa
open Go.RowKit
/-- The value of a sign and a size. -/
def sgI (s : Bool) (n : Nat) : Int := if s = true then -(n : Int) else (n : Int)
theorem sgI_abs (s : Bool) (n : Nat) : (sgI s n).natAbs = n := by unfold sgI; split <;> omega
theorem sgI_neg (s : Bool) (n : Nat) : decide (sgI s n < 0) = (decide (n ≠ 0) && s) := by
  unfold sgI
  cases s
  · simp
  · by_cases h : n = 0
    · subst h; simp
    · have h1 : (-(n : Int)) < 0 := by omega
      simp only [if_true, decide_eq_true h1, decide_eq_true h, Bool.and_true]
/-- How far the limbs of the answer are right: a sum (m), or a difference. -/
def AInv (m : Bool) (a b : List Int) (i c : Nat) (o : List Int) : Prop :=
  if m = true then Nt.val 18446744073709551616 (o.take i) + 18446744073709551616 ^ i * c = Nt.val 18446744073709551616 (a.take i) + Nt.val 18446744073709551616 (b.take i)
  else Nt.val 18446744073709551616 (o.take i) + Nt.val 18446744073709551616 (b.take i) = Nt.val 18446744073709551616 (a.take i) + 18446744073709551616 ^ i * c
theorem AInv.start (m : Bool) (a b o : List Int) : AInv m a b 0 0 o := by unfold AInv; split <;> simp [Nt.val]
/-- What one step puts. -/
def stZ (m : Bool) (x y : Int) (c : Nat) : Nat := if m = true then (x.toNat + y.toNat + c) % 18446744073709551616 else (x.toNat + 18446744073709551616 - y.toNat - c) % 18446744073709551616
def stC (m : Bool) (x y : Int) (c : Nat) : Nat := if m = true then (x.toNat + y.toNat + c) / 18446744073709551616 else (if x.toNat < y.toNat + c then 1 else 0 : Nat)
theorem stZ_f (x y : Int) (c : Nat) : stZ false x y c = (x.toNat + 18446744073709551616 - y.toNat - c) % 18446744073709551616 := by unfold stZ; rw [if_neg (by decide)]
theorem stZ_t (x y : Int) (c : Nat) : stZ true x y c = (x.toNat + y.toNat + c) % 18446744073709551616 := by unfold stZ; rw [if_pos rfl]
theorem stC_f (x y : Int) (c : Nat) : stC false x y c = (if x.toNat < y.toNat + c then 1 else 0 : Nat) := by unfold stC; rw [if_neg (by decide)]
theorem stC_t (x y : Int) (c : Nat) : stC true x y c = (x.toNat + y.toNat + c) / 18446744073709551616 := by unfold stC; rw [if_pos rfl]
theorem stZ_lt (m : Bool) (x y : Int) (c : Nat) : stZ m x y c < 18446744073709551616 := by unfold stZ; split <;> exact Nat.mod_lt _ (by decide)
theorem stC_le (m : Bool) (x y : Int) (c : Nat) (hx : x < 18446744073709551616) (hy : y < 18446744073709551616) (hc : c ≤ 1) : stC m x y c ≤ 1 := by
  unfold stC
  split
  · omega
  · split <;> omega
theorem AInv.step {m : Bool} {a b o : List Int} {i c : Nat} {x : Int} (h : AInv m a b i c o) (hx : a[i]? = some x) (hl : i < o.length) (hxb : 0 ≤ x ∧ x < 18446744073709551616) (hyb : 0 ≤ (b[i]?).getD 0 ∧ (b[i]?).getD 0 < 18446744073709551616) (hc : c ≤ 1) :
    AInv m a b (i + 1) (stC m x ((b[i]?).getD 0) c) (o.set i ((stZ m x ((b[i]?).getD 0) c : Nat) : Int)) := by
  have e1 : (o.set i ((stZ m x ((b[i]?).getD 0) c : Nat) : Int))[i]? = some ((stZ m x ((b[i]?).getD 0) c : Nat) : Int) := by
    rw [List.getElem?_set_self hl]
  have e2 : (o.set i ((stZ m x ((b[i]?).getD 0) c : Nat) : Int)).take i = o.take i := by rw [List.take_set_of_le (Nat.le_refl _)]
  unfold AInv at *
  rw [val_next _ a i, val_next _ b i, val_next _ (o.set i _) i, e1, e2, hx]
  simp only [Option.getD_some, Int.toNat_natCast]
  cases m
  · simp only [stZ, stC, if_neg (show ¬ (false = true) by decide)] at *
    exact sub_next (by omega) (by omega) hc h
  · simp only [stZ, stC, if_true] at *
    exact add_next (by decide) h
/-- The end: the limbs of the answer. -/
theorem AInv.finish {m : Bool} {a b o : List Int} {n c : Nat} (h : AInv m a b n c o) (ha : a.length = n) (hb : b.length ≤ n) (ho : o.length = n + 1) (hd : Nt.Dig 18446744073709551616 o) (hle : Nt.val 18446744073709551616 b ≤ Nt.val 18446744073709551616 a) :
    Nt.val 18446744073709551616 (o.set n (c : Int)) = if m = true then Nt.val 18446744073709551616 a + Nt.val 18446744073709551616 b else Nt.val 18446744073709551616 a - Nt.val 18446744073709551616 b := by
  have e0 : (o.set n (c : Int)).take (n + 1) = o.set n (c : Int) := List.take_of_length_le (by simp; omega)
  have e1 : (o.set n (c : Int))[n]? = some (c : Int) := by rw [List.getElem?_set_self (by omega)]
  have e2 : (o.set n (c : Int)).take n = o.take n := by rw [List.take_set_of_le (Nat.le_refl _)]
  have e3 := val_next 18446744073709551616 (o.set n (c : Int)) n
  rw [e0, e1, e2] at e3
  simp only [Option.getD_some, Int.toNat_natCast] at e3
  unfold AInv at h
  rw [List.take_of_length_le (show a.length ≤ n by omega), List.take_of_length_le hb] at h
  cases m
  · simp only [if_neg (show ¬ (false = true) by decide)] at *
    have hlt := Nt.val_lt 18446744073709551616 (by decide) (o.take n) (fun x hx => hd x (List.mem_of_mem_take hx))
    rw [List.length_take, Nat.min_eq_left (by omega)] at hlt
    have hc : c = 0 := by
      rcases Nat.eq_zero_or_pos c with h0 | h0
      · exact h0
      · have := Nat.mul_le_mul_left (18446744073709551616 ^ n) h0
        generalize 18446744073709551616 ^ n * c = Q at *
        generalize 18446744073709551616 ^ n = Q2 at *
        omega
    subst hc
    rw [Nat.mul_zero] at h e3
    omega
  · simp only [if_true] at *
    omega
theorem sgI_sum (sa sb : Bool) (na nb : Nat) (a b : List Int) (hnb : b.length = nb) (hle : Nt.val 18446744073709551616 b ≤ Nt.val 18446744073709551616 a) :
    sgI sa (Nt.val 18446744073709551616 a) + sgI sb (Nt.val 18446744073709551616 b) = sgI sa (if (sa == sb || nb == 0) = true then Nt.val 18446744073709551616 a + Nt.val 18446744073709551616 b else Nt.val 18446744073709551616 a - Nt.val 18446744073709551616 b) := by
  by_cases h0 : nb = 0
  · have hb0 : b = [] := List.eq_nil_of_length_eq_zero (by omega)
    subst hb0
    simp only [h0, beq_self_eq_true, Bool.or_true, if_true, Nt.val]
    unfold sgI
    cases sa <;> cases sb <;> simp
  · have h1 : (nb == 0) = false := by simp [h0]
    rw [h1, Bool.or_false]
    unfold sgI
    cases sa <;> cases sb <;> simp <;> omega
end Go.Proofs.Ytclnmheplecknaa

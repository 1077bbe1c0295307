/-
  Walk: halves.
  Walks: digit, limbs.
-/
import Derived.Test.YtgockebgcbmgoaaNatw
set_option linter.unusedVariables false
set_option linter.unusedSimpArgs false
namespace Go.Proofs.Ytgockebgcbmgoaa
open Go.RowKit

/-- Two cells that are new, as one appends them. -/
theorem two_cells (w : World) (p q : Int) (t : TypeId) : ([Value.int .u64 p, .int .u64 q] : List Value).length = 2 * 1 ∧ (∀ j u, ([Value.int .u64 p, .int .u64 q] : List Value)[j]? = some u → (w.alloc (.cells #[Value.int .u64 p, .int .u64 q] t)).cell? ((⟨w.heap.size, 0, none⟩ : Addr).add j) = some u) ∧ (∀ u ∈ ([Value.int .u64 p, .int .u64 q] : List Value), u.oneCell' = true) := by
  refine ⟨rfl, fun j u hu => ?_, fun u hu => ?_⟩
  · rw [cell_new]
    rcases j with _ | _ | j
    · simpa using hu
    · simpa using hu
    · simp at hu
  · simp at hu
    rcases hu with rfl | rfl <;> rfl
set_option maxRecDepth 400000 in
set_option maxHeartbeats 1000000 in
theorem halves_any (A : Option Addr) (n c : Nat) (l : List Int) (w : World) (h : U w A n c l) (hl : n ≤ 1000000000) (hd : Nt.Dig 18446744073709551616 l) :
    Calls Try.prog 84 #[.slice A n c] w (HPost (Nt.val 18446744073709551616 l) w) := by
  obtain ⟨i0, hi0, hz0, hz1, hz2⟩ := info_parts u64_info
  have HU := Lib.hid h
  have HN := Lib.hid h.1
  have HD := Lib.hid hd
  have HV := Lib.hid (Nt.hv_val l hd)
  have HVD := Lib.hid (Nt.hv_dig l hd)
  clear h hd
  go_enter Try.func84, Try.ntmps84
  go_wp2_with fail
  go_loopw [3, 4] (fun v i wr => ∃ k : Nat, k ≤ n ∧ i = .int .i64 k ∧ wr.ownsRow w.heap.size 46 1 v (2 * k) ((Nt.hv (l.take k)).map (Value.int .u64)) ∧ Below w.heap.size w wr) (fun _ i _ => n - (intOf i).toNat)
  case atStart => exact ⟨0, Nat.zero_le _, rfl, by rw [List.take_zero]; exact ⟨by simp [Nt.hv], .inl ⟨rfl, rfl⟩⟩, Below.refl _ _⟩
  case round =>
    obtain ⟨k, hk, rfl, hown, hb⟩ := hrel
    have HOWN := Lib.hid hown
    have HB := Lib.hid hb
    clear hown hb
    by_cases hlt : k < n
    · obtain ⟨x, hx⟩ : ∃ x, l[k]? = some x := ⟨_, List.getElem?_eq_getElem (by have := HN.out; omega)⟩
      have hxr := HD.out x (List.mem_of_getElem? hx)
      obtain ⟨ad, rfl, hblk, hc⟩ := (HU.out.below HB.out).2.2.2 k x hx
      have HX := Lib.hid hx
      have hr1 : Int.tmod x 4294967296 = x % 4294967296 := Int.tmod_eq_emod_of_nonneg hxr.1
      have hr2 : IntKind.u64.wrap (Int.tdiv x 4294967296) = x / 4294967296 := by rw [IntKind.wrap_u64, Int.tdiv_eq_ediv_of_nonneg hxr.1]; omega
      have HXR := Lib.hid hxr
      clear hx hblk hxr
      obtain ⟨v3, hv3⟩ : ∃ v3, v3 = u3 := ⟨_, rfl⟩
      have own2 : (wr.drew.alloc (.cells #[.int .u64 (x % 4294967296), .int .u64 (x / 4294967296)] 46)).ownsRow w.heap.size 46 1 u3 (2 * k) ((Nt.hv (l.take k)).map (Value.int .u64)) := HOWN.out.drew.alloc _
      have cells2 := two_cells wr.drew (x % 4294967296) (x / 4294967296) 46
      have size2 : w.heap.size ≤ (wr.drew.alloc (.cells #[.int .u64 (x % 4294967296), .int .u64 (x / 4294967296)] 46)).heap.size := Nat.le_trans HB.out.size (Nat.le_of_lt (alloc_lt wr.drew _))
      have OWN2 := Lib.hid own2
      have CELLS2 := Lib.hid cells2
      have SIZE2 := Lib.hid size2
      have h63 : 2 * k + 2 ≤ maxLen := by simp only [maxLen]; omega
      have H63 := Lib.hid h63
      clear own2 cells2 size2 h63 hv3
      go_wp2_with fail
      go_region_law (refine step_append_lies (wr.drew.alloc (.cells #[.int .u64 (x % 4294967296), .int .u64 (x / 4294967296)] 46)) rfl (.tmp 11) (.tmp 22) _ rfl w.heap.size 46 i0 _ 1 8 Try.underlying59 hi0 hz0 hz1 hz2 rfl (Nat.le_refl 1) u3 (2 * k) ((Nt.hv (l.take k)).map (Value.int .u64)) rfl OWN2.out ⟨wr.heap.size, 0, none⟩ 2 2 [Value.int .u64 (x % 4294967296), .int .u64 (x / 4294967296)] rfl CELLS2.out.1 CELLS2.out.2.1 CELLS2.out.2.2 (Nat.le_succ 1) H63.out (by omega) SIZE2.out _ rfl ?_; intro g cap w1 hown1 hg1 hor hgl)
      all_goals
        have hown3 : w1.ownsRow w.heap.size 46 1 (.slice (some ⟨g, 0, none⟩) (2 * (k + 1)) cap) (2 * (k + 1)) ((Nt.hv (l.take (k + 1))).map (Value.int .u64)) := by
          rw [Nt.hv_take l k x HX.out, List.map_append]
          exact hown1
        have hb3 : Below w.heap.size w w1 := ((HB.out.drew).alloc HB.out.size _).grown hg1 SIZE2.out (fun b hb => (OWN2.out.lt b hb).1)
        have HOWN3 := Lib.hid hown3
        have HB3 := Lib.hid hb3
        clear hown3 hb3 hown1 hg1 hor hgl
        go_frame
        go_wp2
        go_roundw
        case rel => exact ⟨k + 1, by omega, by go_num, HOWN3.out, HB3.out⟩
        case measure => simp [intOf]; omega
    · have hkn : k = n := by omega
      subst hkn
      have hown := HOWN.out
      rw [List.take_of_length_le (Nat.le_of_eq HN.out)] at hown
      obtain ⟨A', c', hv3, hu3⟩ := U.of_own hown
      have HU3 := Lib.hid hu3
      clear hu3 hown HOWN
      subst hv3
      go_wp2_with fail
      refine (low_any A' (2 * k) c' (Nt.hv l) _ HU3.out (by omega) HVD.out).mono ?_
      rintro e w4 ⟨rfl, hu4, rfl⟩
      rw [HV.out] at hu4 ⊢
      have HU4 := Lib.hid hu4
      clear hu4
      go_wp2
      go_ret
      exact ⟨A', c', rfl, HU4.out, HB.out⟩
end Go.Proofs.Ytgockebgcbmgoaa

namespace Go.Proofs.Ytgockebgcbmgoaa
open Go.RowKit

namespace Nt
/-- Digits to 2^32 as digits to 2^64. -/
def lm : List Int → List Int
  | [] => []
  | [x] => [x]
  | x :: y :: l => (x + 4294967296 * y) :: lm l
theorem lm_dig : ∀ l : List Int, Dig 4294967296 l → Dig 18446744073709551616 (lm l)
  | [], _ => fun y hy => by cases hy
  | [x], h => fun y hy => by
    have hx := h.head
    simp only [lm] at hy
    rcases List.mem_cons.1 hy with rfl | hy
    · omega
    · cases hy
  | x :: z :: l, h => fun y hy => by
    have hx := h.head
    have hz := h.tail.head
    simp only [lm] at hy
    rcases List.mem_cons.1 hy with rfl | hy
    · omega
    · exact lm_dig l h.tail.tail y hy
theorem lm_val : ∀ l : List Int, Dig 4294967296 l → val 18446744073709551616 (lm l) = val 4294967296 l
  | [], _ => rfl
  | [x], h => by simp [lm, val]
  | x :: y :: l, h => by
    have hx := h.head
    have hy := h.tail.head
    simp only [lm, val, lm_val l h.tail.tail]
    generalize val 4294967296 l = v
    omega
theorem lm_take : ∀ (j : Nat) (l : List Int) (h : 2 * j < l.length), lm (l.take (2 * (j + 1))) = lm (l.take (2 * j)) ++ [l[2 * j] + 4294967296 * (l[2 * j + 1]?.getD 0)]
  | 0, [], h => absurd h (by simp)
  | 0, [x], h => by simp [lm]
  | 0, x :: y :: l, h => by simp [lm]
  | j + 1, [], h => absurd h (by simp)
  | j + 1, [x], h => absurd h (by simp)
  | j + 1, x :: y :: l, h => by
    have hl : 2 * j < l.length := by simp at h; omega
    have ih := lm_take j l hl
    change lm (x :: y :: l.take (2 * (j + 1))) = lm (x :: y :: l.take (2 * j)) ++ [l[2 * j] + 4294967296 * (l[2 * j + 1]?.getD 0)]
    simp only [lm, List.cons_append, ih]
end Nt
set_option maxRecDepth 400000 in
theorem digit_yes (A : Option Addr) (n c : Nat) (l : List Int) (w : World) (i : Nat) (x : Int) (h : U w A n c l) (hl : n ≤ 4000000000) (hx : l[i]? = some x) : Calls Try.prog 86 #[.slice A n c, .int .i64 i] w fun e w' => e = .returned (.int .u64 x) ∧ w = w' := by
  have hi : i < n := by rw [← h.1]; exact (List.getElem?_eq_some_iff.1 hx).1
  obtain ⟨ad, rfl, _, hc⟩ := h.2.2.2 i x hx
  clear h hx
  go_enter Try.func86, Try.ntmps86
  go_wp2
  go_ret
  exact ⟨rfl, rfl⟩
set_option maxRecDepth 400000 in
theorem digit_no (A : Option Addr) (n c : Nat) (w : World) (i : Nat) (hi : n ≤ i) (hb : i < 4000000000) : Calls Try.prog 86 #[.slice A n c, .int .i64 i] w fun e w' => e = .returned (.int .u64 0) ∧ w = w' := by
  have hi2 : ¬ i < n := by omega
  go_enter Try.func86, Try.ntmps86
  go_wp2
  go_ret
  exact ⟨rfl, rfl⟩
theorem one_cell (w : World) (p : Int) (t : TypeId) : ([Value.int .u64 p] : List Value).length = 1 * 1 ∧ (∀ j u, ([Value.int .u64 p] : List Value)[j]? = some u → (w.alloc (.cells #[Value.int .u64 p] t)).cell? ((⟨w.heap.size, 0, none⟩ : Addr).add j) = some u) ∧ (∀ u ∈ ([Value.int .u64 p] : List Value), u.oneCell' = true) := by
  refine ⟨rfl, fun j u hu => ?_, fun u hu => ?_⟩
  · rw [cell_new]
    rcases j with _ | j
    · simpa using hu
    · simp at hu
  · simp at hu
    subst hu; rfl
set_option maxRecDepth 400000 in
set_option maxHeartbeats 1000000 in
theorem limbs_any (A : Option Addr) (n c : Nat) (l : List Int) (w : World) (h : U w A n c l) (hl : n ≤ 1000000000) (hd : Nt.Dig 4294967296 l) :
    Calls Try.prog 85 #[.slice A n c] w (NatPost (Nt.val 4294967296 l) w) := by
  obtain ⟨i0, hi0, hz0, hz1, hz2⟩ := info_parts u64_info
  have HU := Lib.hid h
  have HN := Lib.hid h.1
  have HD := Lib.hid hd
  have HV := Lib.hid (Nt.lm_val l hd)
  have HVD := Lib.hid (Nt.lm_dig l hd)
  clear h hd
  go_enter Try.func85, Try.ntmps85
  go_wp2_with fail
  go_loopw [3, 4] (fun v i wr => ∃ j : Nat, 2 * j ≤ n + 1 ∧ i = .int .i64 ((2 * j : Nat) : Int) ∧ wr.ownsRow w.heap.size 46 1 v j ((Nt.lm (l.take (2 * j))).map (Value.int .u64)) ∧ Below w.heap.size w wr) (fun _ i _ => n + 1 - (intOf i).toNat)
  case atStart => exact ⟨0, Nat.zero_le _, rfl, by rw [List.take_zero]; exact ⟨by simp [Nt.lm], .inl ⟨rfl, rfl⟩⟩, Below.refl _ _⟩
  case round =>
    obtain ⟨j, hj, rfl, hown, hb⟩ := hrel
    have HOWN := Lib.hid hown
    have HB := Lib.hid hb
    clear hown hb
    have hlow : ∀ z v : Int, 0 ≤ z → z < 4294967296 → 0 ≤ v → v < 4294967296 → IntKind.u64.wrap (4294967296 * z) = 4294967296 * z ∧ IntKind.u64.wrap (v + 4294967296 * z) = v + 4294967296 * z := fun z v h1 h2 h3 h4 => by rw [IntKind.wrap_u64, IntKind.wrap_u64]; omega
    have HLOW := Lib.hid hlow
    clear hlow
    have step : ∀ (hlt : 2 * j < n) (q : Int), q = l[2 * j]'(by have := HN.out; omega) + 4294967296 * (l[2 * j + 1]?.getD 0) → ∀ (w0 : World) (v1 : Value) (w1 : World), w0 = wr.alloc (.cells #[.int .u64 q] 46) → w1.ownsRow w.heap.size 46 1 v1 (j + 1) ((Nt.lm (l.take (2 * j))).map (Value.int .u64) ++ [.int .u64 q]) → w0.grownBy w1 u3.ownBlock → w1.ownsRow w.heap.size 46 1 v1 (j + 1) ((Nt.lm (l.take (2 * (j + 1)))).map (Value.int .u64)) ∧ Below w.heap.size w w1 := by
      intro hlt q hq w0 v1 w1 hw0 hown1 hg1
      constructor
      · rw [Nt.lm_take j l (by have := HN.out; omega), List.map_append, ← hq]; exact hown1
      · subst hw0
        exact ((HB.out).alloc HB.out.size _).grown hg1 (Nat.le_trans HB.out.size (Nat.le_of_lt (alloc_lt _ _))) (fun b hb => (HOWN.out.lt b hb).1)
    have STEP := Lib.hid step
    clear step
    by_cases hlt : 2 * j < n
    · obtain ⟨x, hx⟩ : ∃ x, l[2 * j]? = some x := ⟨_, List.getElem?_eq_getElem (by have := HN.out; omega)⟩
      have hxr := HD.out x (List.mem_of_getElem? hx)
      obtain ⟨ad, rfl, hblk, hc⟩ := (HU.out.below HB.out).2.2.2 (2 * j) x hx
      have hxe : l[2 * j]'(by have := HN.out; omega) = x := (List.getElem?_eq_some_iff.1 hx).2
      have HXE := Lib.hid hxe
      have HXR := Lib.hid hxr
      clear hx hblk hxe hxr
      by_cases hodd : 2 * j + 1 < n
      · obtain ⟨z, hz⟩ : ∃ z, l[2 * j + 1]? = some z := ⟨_, List.getElem?_eq_getElem (by have := HN.out; omega)⟩
        have hzr := HD.out z (List.mem_of_getElem? hz)
        obtain ⟨ad', e, hblk, hc2⟩ := (HU.out.below HB.out).2.2.2 (2 * j + 1) z hz
        obtain rfl : ad = ad' := Option.some.inj e
        have hc3 : wr.cell? ⟨ad.block, ad.off + (2 * j + 1), none⟩ = some (.int .u64 z) := by
          have h0 := hc2; unfold Addr.add at h0; rw [if_neg (by omega)] at h0; exact h0
        have HZ := Lib.hid hz
        obtain ⟨hw1, hw2⟩ := HLOW.out z x (by have := hzr.1; exact this) (by have := hzr.2; exact this) (by have := HXR.out.1; exact this) (by have := HXR.out.2; exact this)
        have OWN2 := Lib.hid (HOWN.out.alloc (.cells #[.int .u64 (x + 4294967296 * z)] 46))
        have CELLS2 := Lib.hid (one_cell wr (x + 4294967296 * z) 46)
        have SIZE2 := Lib.hid (Nat.le_trans HB.out.size (Nat.le_of_lt (alloc_lt wr (.cells #[.int .u64 (x + 4294967296 * z)] 46))))
        have H63 := Lib.hid (show j + 1 ≤ maxLen by simp only [maxLen]; omega)
        clear hz hblk e hzr
        go_wp2_with (at_builtin; refine wpList_append_own _ rfl (.tmp 29) (.tmp 31) _ rfl w.heap.size 46 i0 _ 1 8 Try.underlying59 hi0 hz0 hz1 hz2 rfl (Nat.le_refl 1) u3 j ((Nt.lm (l.take (2 * j))).map (Value.int .u64)) rfl OWN2.out ⟨wr.heap.size, 0, none⟩ 1 1 [Value.int .u64 (x + 4294967296 * z)] rfl CELLS2.out.1 CELLS2.out.2.1 CELLS2.out.2.2 H63.out (by omega) SIZE2.out ?_; intro v1 w1 hown1 hg1 _)
        have hs := STEP.out hlt _ (by rw [HXE.out, HZ.out]; rfl) _ v1 w1 rfl hown1 hg1
        have HS := Lib.hid hs
        clear hs hown1 hg1
        go_roundw
        case rel => exact ⟨j + 1, by omega, by go_num, HS.out.1, HS.out.2⟩
        case measure => simp [intOf]; omega
      · have hz : l[2 * j + 1]? = none := List.getElem?_eq_none (by have := HN.out; omega)
        have HZ := Lib.hid hz
        have OWN2 := Lib.hid (HOWN.out.alloc (.cells #[.int .u64 x] 46))
        have CELLS2 := Lib.hid (one_cell wr x 46)
        have SIZE2 := Lib.hid (Nat.le_trans HB.out.size (Nat.le_of_lt (alloc_lt wr (.cells #[.int .u64 x] 46))))
        have H63 := Lib.hid (show j + 1 ≤ maxLen by simp only [maxLen]; omega)
        clear hz
        go_wp2_with (at_builtin; refine wpList_append_own _ rfl (.tmp 29) (.tmp 31) _ rfl w.heap.size 46 i0 _ 1 8 Try.underlying59 hi0 hz0 hz1 hz2 rfl (Nat.le_refl 1) u3 j ((Nt.lm (l.take (2 * j))).map (Value.int .u64)) rfl OWN2.out ⟨wr.heap.size, 0, none⟩ 1 1 [Value.int .u64 x] rfl CELLS2.out.1 CELLS2.out.2.1 CELLS2.out.2.2 H63.out (by omega) SIZE2.out ?_; intro v1 w1 hown1 hg1 _)
        have hs := STEP.out hlt x (by rw [HXE.out, HZ.out]; simp) _ v1 w1 rfl hown1 hg1
        have HS := Lib.hid hs
        clear hs hown1 hg1
        go_roundw
        case rel => exact ⟨j + 1, by omega, by go_num, HS.out.1, HS.out.2⟩
        case measure => simp [intOf]; omega
    · have hown := HOWN.out
      rw [List.take_of_length_le (by have := HN.out; omega)] at hown
      obtain ⟨A', c', hv3, hu3⟩ := U.of_own hown
      have HU3 := Lib.hid hu3
      clear hu3 hown HOWN STEP
      subst hv3
      go_wp2_with fail
      refine (trim_any A' j c' (Nt.lm l) _ HU3.out (by omega) HVD.out).mono ?_
      rintro e w4 ⟨A4, c4, rfl, hu4, hb4⟩
      rw [HV.out] at hu4 ⊢
      have HU4 := Lib.hid hu4
      have HB4 := Lib.hid (HB.out.trans (hb4.mono HB.out.size))
      clear hu4 hb4
      go_wp2
      go_ret
      exact ⟨A4, c4, rfl, HU4.out, HB4.out⟩
end Go.Proofs.Ytgockebgcbmgoaa

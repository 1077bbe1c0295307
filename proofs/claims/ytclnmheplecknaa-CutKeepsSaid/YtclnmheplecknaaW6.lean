/-
  Walks: Num by value: Plus, Less.
  Walks: whole numbers by value: made of one limb, held against one another, lent.
  Walks: lists of u64 that are lent, with marks behind their ends; held against one another; copied.
  Walks: lists of i64 that are lent, with marks behind their ends; held against one another; copied.
-/
import Derived.Test.YtclnmheplecknaaW5
import Derived.Deep.QuietTactic
import Derived.BigQuiet
set_option linter.unusedVariables false
set_option linter.unusedSimpArgs false
namespace Go.Proofs.Ytclnmheplecknaa
open Go.RowKit
theorem mark_any (i : Nat) (hi : i < 1000) (w : World) : Calls Try.prog 42 #[.int .i64 1, .int .i64 i] w fun e w' => e = .returned (.int .i64 (8000024 + (i : Int))) ∧ w = w' := by
  go_enter Try.func42, Try.ntmps42
  go_wp2
  go_ret
  exact ⟨by simp, rfl⟩
theorem i64_info : (Try.prog.info? 2).map (fun i => (i.zero, i.size, i.bytes)) = some (some (.int .i64 0), 1, 8) := by kernel_rfl
theorem UL.of_own {w : World} {base : Nat} {e : TypeId} {v : Value} {n : Nat} {l : List Int} (h : w.ownsRow base e 1 v n (l.map (Value.int .i64))) : ∃ A c, v = .slice A n c ∧ UL w A n c l := by
  have hl : l.length = n := by have := h.1; simp at this; omega
  rcases Nat.eq_zero_or_pos n with hn | hn
  · subst hn
    have hnil : l = [] := List.eq_nil_of_length_eq_zero hl
    subst hnil
    rcases h.2 with ⟨rfl, _⟩ | ⟨g, cap, cur, rfl, _⟩
    · exact ⟨_, _, rfl, rfl, Nat.le_refl _, fun _ => rfl, fun k x hk => by simp at hk⟩
    · exact ⟨_, _, rfl, rfl, Nat.zero_le _, (fun he => by cases he), fun k x hk => by simp at hk⟩
  · obtain ⟨g, cap, hv, hc, hlt⟩ := h.form hn
    refine ⟨_, _, hv, hl, ?_, (fun he => by cases he), fun k x hk => ⟨_, rfl, hlt, h.cells (g := g) (by rw [hv]; rfl) k _ (by rw [List.getElem?_map, hk]; rfl)⟩⟩
    rcases h.2 with ⟨rfl, h0⟩ | ⟨g', cap', cur, rfl, _, _, hnc, _⟩
    · omega
    · injection hv with _ _ hc2; omega
theorem UL.take {w : World} {A : Option Addr} {n c : Nat} {l : List Int} (h : UL w A n c l) (k : Nat) (hk : k ≤ n) : UL w A k c (l.take k) := by
  obtain ⟨h1, h2, h3, h4⟩ := h
  refine ⟨by rw [List.length_take, Nat.min_eq_left (by omega)], by omega, h3, fun j x hj => h4 j x ?_⟩
  rw [List.getElem?_take] at hj
  split at hj
  · exact hj
  · cases hj
/-- A list that was lent: the numbers, and the marks behind them. -/
def LentL (w : World) (g n : Nat) (l : List Int) : Prop := l.length = n ∧ g < w.heap.size ∧ (∀ k x, l[k]? = some x → w.cell? ⟨g, k, none⟩ = some (.int .i64 x)) ∧ ∀ i, i < 12 → w.cell? ⟨g, n + i, none⟩ = some (.int .i64 (8000024 + (i : Int)))
theorem LentL.below {w w' : World} {g n : Nat} {l : List Int} (h : LentL w g n l) (hb : Below w.heap.size w w') : LentL w' g n l :=
  ⟨h.1, Nat.lt_of_lt_of_le h.2.1 hb.size, fun k x hk => (hb.cell (p := ⟨g, k, none⟩) h.2.1).trans (h.2.2.1 k x hk), fun i hi => (hb.cell (p := ⟨g, n + i, none⟩) h.2.1).trans (h.2.2.2 i hi)⟩
theorem LentL.u {w : World} {g n : Nat} {l : List Int} (h : LentL w g n l) : UL w (some ⟨g, 0, none⟩) n (n + 12) l :=
  ⟨h.1, by omega, (fun e => by cases e), fun k x hk => ⟨_, rfl, h.2.1, by have := h.2.2.1 k x hk; unfold Addr.add; split
                                                                          · rename_i h0; subst h0; exact this
                                                                          · simpa using this⟩⟩
/-- The cells of the marks. -/
def mkL (i : Nat) : List Value := (List.range i).map fun j : Nat => .int .i64 (8000024 + (j : Int))
theorem mkL_succ (i : Nat) : mkL (i + 1) = mkL i ++ [.int .i64 (8000024 + (i : Int))] := by unfold mkL; rw [List.range_succ, List.map_append]; rfl
theorem mkL_len (i : Nat) : (mkL i).length = i := by unfold mkL; simp
theorem cell1L (w : World) (p : Int) (t : TypeId) : ([Value.int .i64 p] : List Value).length = 1 * 1 ∧ (∀ j u, ([Value.int .i64 p] : List Value)[j]? = some u → (w.alloc (.cells #[Value.int .i64 p] t)).cell? ((⟨w.heap.size, 0, none⟩ : Addr).add j) = some u) ∧ (∀ u ∈ ([Value.int .i64 p] : List Value), u.oneCell' = true) := by
  refine ⟨rfl, fun j u hu => ?_, fun u hu => ?_⟩
  · rw [cell_new]
    rcases j with _ | j
    · simpa using hu
    · simp at hu
  · simp at hu
    subst hu; rfl
set_option maxRecDepth 100000 in
set_option maxHeartbeats 2000000 in
theorem lent_longs (A : Option Addr) (n c : Nat) (l : List Int) (w : World) (hn : n ≤ 1000000) (hr : UL w A n c l) :
    Calls Try.prog 17 #[.slice A n c] w fun e w' => ∃ g, e = .returned (.slice (some ⟨g, 0, none⟩) n (n + 12)) ∧ LentL w' g n l ∧ Below w.heap.size w w' := by
  obtain ⟨i0, hi0, hz0, hz1, hz2⟩ := info_parts i64_info
  have HR := Lib.hid hr
  have HLEN := Lib.hid hr.1
  have hnc := hr.2.1
  have HNA := Lib.hid (fun h : A = none => (show n = 0 ∧ c = 0 from ⟨by have := hr.2.2.1 h; omega, hr.2.2.1 h⟩))
  obtain ⟨lv, hlv⟩ : ∃ lv, lv = l.map (Value.int .i64) := ⟨_, rfl⟩
  have HLV := Lib.hid hlv
  have HLL : Hid (lv.length = n) := Lib.hid (by rw [hlv, List.length_map]; exact hr.1)
  have HCC : Hid (∀ w1, Below w.heap.size w w1 → Hid (∀ ad, A = some ad → ∀ j u, lv[j]? = some u → w1.cell? (ad.add j) = some u)) := Lib.hid (fun w1 hb => Lib.hid (fun ad hA j u hu => by
    rw [HLV.out, List.getElem?_map] at hu
    obtain ⟨x, hx, rfl⟩ := Option.map_eq_some_iff.1 hu
    obtain ⟨ad2, e2, _, hc2⟩ := (HR.out.below hb).2.2.2 j x hx
    rw [hA] at e2
    obtain rfl := Option.some.inj e2
    exact hc2))
  have FCO : Hid (∀ u ∈ lv, u.oneCell' = true) := Lib.hid (fun u hu => by rw [HLV.out] at hu; obtain ⟨j, _, rfl⟩ := List.mem_map.1 hu; rfl)
  clear hr hlv
  go_enter Try.func17, Try.ntmps17
  go_wp2_with (first
    | (refine wpList_make_own _ rfl (.const (.int .i64 0)) (.tmp 7) 27 rfl w.heap.size 2 i0 _ 1 Try.underlying27 hi0 hz0 hz1 .i64 .i64 _ (n + 12) rfl rfl (by omega) (by rw [hz2]; omega) (by simp only [maxLen]; omega) (Nat.le_refl _) ?_; intro w1 hown1 hg1; have HB1 := Lib.hid ((Below.refl w.heap.size w).grown hg1 (Nat.le_refl _) (fun k hk => by cases hk)); have HOWN1 := Lib.hid hown1; have HC := HCC.out w1 HB1.out; clear hown1 hg1)
    | (at_builtin; refine wpList_append_fits_any _ rfl (.tmp 9) (.tmp 10) 27 rfl w.heap.size 2 i0 1 Try.underlying27 hi0 hz1 w.heap.size 0 (n + 12) [] rfl HOWN1.out A n c lv rfl (by rw [HLL.out]; omega) HNA.out HC.out FCO.out (by omega) ?_; intro w2 hown2 hg2))
  rw [Nat.zero_add, List.nil_append] at hown2
  have HOWN2 := Lib.hid hown2
  have HB2 := Lib.hid (HB1.out.grown hg2 (by have := HB1.out.size; omega) (fun k hk => by cases hk; exact Nat.le_refl _))
  clear hown2 hg2 HOWN1 HC
  go_loopw [3, 4] (fun v t wr => ∃ i : Nat, i ≤ 12 ∧ t = .int .i64 i ∧ v = .slice (some ⟨w.heap.size, 0, none⟩) (n + i) (n + 12) ∧ wr.ownsRow w.heap.size 2 1 (.slice (some ⟨w.heap.size, 0, none⟩) (n + i) (n + 12)) (n + i) (lv ++ mkL i) ∧ Below w.heap.size w wr) (fun _ t _ => 12 - (intOf t).toNat)
  case atStart => exact ⟨0, by omega, rfl, rfl, by rw [show mkL 0 = [] from rfl, List.append_nil]; exact HOWN2.out, HB2.out⟩
  case round =>
    obtain ⟨i, hi, rfl, rfl, hown, hb⟩ := hrel
    have HOWN := Lib.hid hown
    have HB := Lib.hid hb
    clear hown hb
    by_cases hlt : i < 12
    · have OWN2 : Hid (∀ m : Int, (wr.alloc (.cells #[.int .i64 m] 2)).ownsRow w.heap.size 2 1 (.slice (some ⟨w.heap.size, 0, none⟩) (n + i) (n + 12)) (n + i) (lv ++ mkL i)) := Lib.hid (fun m => HOWN.out.alloc _)
      have CELLS2 := Lib.hid (fun m => cell1L wr m 2)
      have HBA : Hid (∀ m : Int, Below w.heap.size w (wr.alloc (.cells #[.int .i64 m] 2))) := Lib.hid (fun m => HB.out.alloc HB.out.size _)
      have hcv : IntKind.u64.wrap (8000024 + (i : Int)) = 8000024 + (i : Int) := by rw [IntKind.wrap_u64]; omega
      go_wp2_with (first
        | (go_at_call 42; refine (mark_any i (by omega) _).mono ?_; rintro e w' ⟨rfl, rfl⟩)
        | (at_builtin; refine wpList_append_fits _ rfl (.tmp 16) (.tmp 19) 27 rfl w.heap.size 2 i0 1 Try.underlying27 hi0 hz1 w.heap.size (n + i) (n + 12) (lv ++ mkL i) rfl (OWN2.out (8000024 + (i : Int))) ⟨wr.heap.size, 0, none⟩ 1 1 [Value.int .i64 (8000024 + (i : Int))] rfl (CELLS2.out _).1 (CELLS2.out (8000024 + (i : Int))).2.1 (CELLS2.out _).2.2 (by omega) ?_; intro w3 hown3 hg3))
      have HOWN3 : Hid (w3.ownsRow w.heap.size 2 1 (.slice (some ⟨w.heap.size, 0, none⟩) (n + (i + 1)) (n + 12)) (n + (i + 1)) (lv ++ mkL (i + 1))) := Lib.hid (by rw [mkL_succ, ← List.append_assoc]; exact hown3)
      have HB3 := Lib.hid ((HBA.out (8000024 + (i : Int))).grown hg3 (HBA.out (8000024 + (i : Int))).size (fun k hk => by cases hk; exact Nat.le_refl _))
      clear hown3 hg3
      go_wp2
      go_roundw
      case rel => exact ⟨i + 1, by omega, by go_num, rfl, HOWN3.out, HB3.out⟩
      case measure => simp [intOf]; omega
    · have hi12 : i = 12 := by omega
      subst hi12
      have hlent : LentL wr w.heap.size n l := by
        refine ⟨HLEN.out, (World.ownsRow.lt HOWN.out w.heap.size rfl).2, fun k x hk => ?_, fun i hi => ?_⟩
        · have hkn : k < n := by have := (List.getElem?_eq_some_iff.1 hk).1; have := HLEN.out; omega
          rw [World.ownsRow.cellAt HOWN.out k (by omega), List.getElem?_append_left (by rw [HLL.out]; exact hkn), HLV.out, List.getElem?_map, hk]; rfl
        · rw [World.ownsRow.cellAt HOWN.out (n + i) (by omega), List.getElem?_append_right (by rw [HLL.out]; omega), HLL.out, Nat.add_sub_cancel_left]
          unfold mkL
          rw [List.getElem?_map, List.getElem?_range hi]; rfl
      have HL := Lib.hid hlent
      clear hlent HOWN
      go_wp2
      go_ret
      exact ⟨w.heap.size, rfl, HL.out, HB.out⟩
set_option maxRecDepth 100000 in
set_option maxHeartbeats 4000000 in
theorem kept_longs (A : Option Addr) (n c g : Nat) (l : List Int) (w : World) (hn : n ≤ 1000000) (hl : LentL w g n l) (hr : UL w A n c l) :
    Calls Try.prog 21 #[.slice (some ⟨g, 0, none⟩) n (n + 12), .slice A n c] w fun e w' => e = .returned (.bool true) ∧ Below w.heap.size w w' := by
  have HL := Lib.hid hl
  have HR := Lib.hid hr
  have HLEN := Lib.hid hl.1
  clear hl hr
  go_enter Try.func21, Try.ntmps21
  go_wp2_with fail
  go_loopw [6] (fun t wr => ∃ i : Nat, i ≤ n + 12 ∧ t = .int .i64 i ∧ Below w.heap.size w wr) (fun t _ => n + 12 - (intOf t).toNat)
  case atStart => exact ⟨0, Nat.zero_le _, rfl, Below.refl _ _⟩
  case round =>
    obtain ⟨i, hi, rfl, hd⟩ := hrel
    have HD := Lib.hid hd
    have HL1 := Lib.hid (HL.out.below hd)
    have HR1 := Lib.hid (HR.out.below hd)
    clear hd
    by_cases hlt : i < n + 12
    · by_cases hin : i < n
      · obtain ⟨x, hx⟩ : ∃ x, l[i]? = some x := ⟨_, List.getElem?_eq_getElem (by have := HLEN.out; omega)⟩
        have hc1 := HL1.out.2.2.1 i x hx
        obtain ⟨ad, rfl, _, hc2⟩ := HR1.out.2.2.2 i x hx
        have hge2 : decide (n ≤ i) = false := by simp; omega
        clear hx
        go_wp2_with fail
        go_quiet (fail)
        rename_i nq
        have HD2 := Lib.hid (HD.out.trans (show Below w.heap.size wr (wr.drewN nq) from ⟨rfl, rfl, rfl, Nat.le_refl _, fun _ _ => rfl⟩))
        go_wp2
        go_roundw
        case rel => exact ⟨i + 1, by omega, by go_num, HD2.out⟩
        case measure => simp [intOf]; omega
      · obtain ⟨j, hj⟩ : ∃ j, i = n + j := ⟨i - n, by omega⟩
        have hc1 := HL1.out.2.2.2 j (by omega)
        rw [← hj] at hc1
        have HMK := Lib.hid (fun (x : World) => mark_any j (by omega) x)
        have hge1 : decide (i < n) = false := by simp; omega
        have hge2 : decide (n ≤ i) = true := by simp; omega
        have hsb : IntKind.i64.wrap ((i : Int) - (n : Int)) = (j : Int) := by rw [IntKind.wrap_i64]; omega
        have hsb2 : (i : Int) - (n : Int) = (j : Int) := by omega
        have hcv : IntKind.u64.wrap (8000024 + (j : Int)) = 8000024 + (j : Int) := by rw [IntKind.wrap_u64]; omega
        clear hj
        go_wp2_with fail
        go_quiet ((go_at_call 42; exact Calls.quiet_of_same ((HMK.out _).mono fun _ _ he => ⟨he.1, he.2.symm⟩)))
        rename_i nq
        have HD2 := Lib.hid (HD.out.trans (show Below w.heap.size wr (wr.drewN nq) from ⟨rfl, rfl, rfl, Nat.le_refl _, fun _ _ => rfl⟩))
        go_wp2
        go_roundw
        case rel => exact ⟨i + 1, by omega, by go_num, HD2.out⟩
        case measure => simp [intOf]; omega
    · have hin : i = n + 12 := by omega
      subst hin
      go_wp2
      go_ret
      exact ⟨rfl, HD.out⟩
set_option maxRecDepth 100000 in
set_option maxHeartbeats 4000000 in
theorem same_longs (A : Option Addr) (n c : Nat) (A' : Option Addr) (c' : Nat) (l : List Int) (w : World) (hn : n ≤ 1000000000) (hu : UL w A n c l) (hu' : UL w A' n c' l) :
    Calls Try.prog 15 #[.slice A n c, .slice A' n c'] w fun e w' => e = .returned (.bool true) ∧ Below w.heap.size w w' := by
  have HL := Lib.hid hu
  have HR := Lib.hid hu'
  have HLEN := Lib.hid hu.1
  clear hu hu'
  go_enter Try.func15, Try.ntmps15
  go_wp2_with fail
  go_loopw [5] (fun t wr => ∃ i : Nat, i ≤ n ∧ t = .int .i64 i ∧ Below w.heap.size w wr) (fun t _ => n - (intOf t).toNat)
  case atStart => exact ⟨0, Nat.zero_le _, rfl, Below.refl _ _⟩
  case round =>
    obtain ⟨i, hi, rfl, hd⟩ := hrel
    have HD := Lib.hid hd
    have HL1 := Lib.hid (HL.out.below hd)
    have HR1 := Lib.hid (HR.out.below hd)
    clear hd
    by_cases hin : i < n
    · obtain ⟨x, hx⟩ : ∃ x, l[i]? = some x := ⟨_, List.getElem?_eq_getElem (by have := HLEN.out; omega)⟩
      obtain ⟨ad1, rfl, _, hc1⟩ := HL1.out.2.2.2 i x hx
      obtain ⟨ad2, rfl, _, hc2⟩ := HR1.out.2.2.2 i x hx
      clear hx
      go_wp2_with fail
      go_quiet (fail)
      rename_i nq
      have HD2 := Lib.hid (HD.out.trans (show Below w.heap.size wr (wr.drewN nq) from ⟨rfl, rfl, rfl, Nat.le_refl _, fun _ _ => rfl⟩))
      go_wp2
      go_roundw
      case rel => exact ⟨i + 1, by omega, by go_num, HD2.out⟩
      case measure => simp [intOf]; omega
    · have hin : i = n := by omega
      subst hin
      go_wp2
      go_ret
      exact ⟨rfl, HD.out⟩
end Go.Proofs.Ytclnmheplecknaa

namespace Go.Proofs.Ytclnmheplecknaa
open Go.RowKit
/-- A list that was lent: the numbers, and the marks behind them. -/
def LentU (w : World) (g n : Nat) (l : List Int) : Prop := l.length = n ∧ g < w.heap.size ∧ (∀ k x, l[k]? = some x → w.cell? ⟨g, k, none⟩ = some (.int .u64 x)) ∧ ∀ i, i < 12 → w.cell? ⟨g, n + i, none⟩ = some (.int .u64 (8000024 + (i : Int)))
theorem LentU.below {w w' : World} {g n : Nat} {l : List Int} (h : LentU w g n l) (hb : Below w.heap.size w w') : LentU w' g n l :=
  ⟨h.1, Nat.lt_of_lt_of_le h.2.1 hb.size, fun k x hk => (hb.cell (p := ⟨g, k, none⟩) h.2.1).trans (h.2.2.1 k x hk), fun i hi => (hb.cell (p := ⟨g, n + i, none⟩) h.2.1).trans (h.2.2.2 i hi)⟩
theorem LentU.u {w : World} {g n : Nat} {l : List Int} (h : LentU w g n l) : U w (some ⟨g, 0, none⟩) n (n + 12) l :=
  ⟨h.1, by omega, (fun e => by cases e), fun k x hk => ⟨_, rfl, h.2.1, by have := h.2.2.1 k x hk; unfold Addr.add; split
                                                                          · rename_i h0; subst h0; exact this
                                                                          · simpa using this⟩⟩
/-- The cells of the marks. -/
def mkU (i : Nat) : List Value := (List.range i).map fun j : Nat => .int .u64 (8000024 + (j : Int))
theorem mkU_succ (i : Nat) : mkU (i + 1) = mkU i ++ [.int .u64 (8000024 + (i : Int))] := by unfold mkU; rw [List.range_succ, List.map_append]; rfl
theorem mkU_len (i : Nat) : (mkU i).length = i := by unfold mkU; simp
theorem cell1U (w : World) (p : Int) (t : TypeId) : ([Value.int .u64 p] : List Value).length = 1 * 1 ∧ (∀ j u, ([Value.int .u64 p] : List Value)[j]? = some u → (w.alloc (.cells #[Value.int .u64 p] t)).cell? ((⟨w.heap.size, 0, none⟩ : Addr).add j) = some u) ∧ (∀ u ∈ ([Value.int .u64 p] : List Value), u.oneCell' = true) := by
  refine ⟨rfl, fun j u hu => ?_, fun u hu => ?_⟩
  · rw [cell_new]
    rcases j with _ | j
    · simpa using hu
    · simp at hu
  · simp at hu
    subst hu; rfl
set_option maxRecDepth 100000 in
set_option maxHeartbeats 2000000 in
theorem lent_limbs (A : Option Addr) (n c : Nat) (l : List Int) (w : World) (hn : n ≤ 1000000) (hr : U w A n c l) :
    Calls Try.prog 34 #[.slice A n c] w fun e w' => ∃ g, e = .returned (.slice (some ⟨g, 0, none⟩) n (n + 12)) ∧ LentU w' g n l ∧ Below w.heap.size w w' := by
  obtain ⟨i0, hi0, hz0, hz1, hz2⟩ := info_parts u64_info
  have HR := Lib.hid hr
  have HLEN := Lib.hid hr.1
  have hnc := hr.2.1
  have HNA := Lib.hid (fun h : A = none => (show n = 0 ∧ c = 0 from ⟨by have := hr.2.2.1 h; omega, hr.2.2.1 h⟩))
  obtain ⟨lv, hlv⟩ : ∃ lv, lv = l.map (Value.int .u64) := ⟨_, rfl⟩
  have HLV := Lib.hid hlv
  have HLL : Hid (lv.length = n) := Lib.hid (by rw [hlv, List.length_map]; exact hr.1)
  have HCC : Hid (∀ w1, Below w.heap.size w w1 → Hid (∀ ad, A = some ad → ∀ j u, lv[j]? = some u → w1.cell? (ad.add j) = some u)) := Lib.hid (fun w1 hb => Lib.hid (fun ad hA j u hu => by
    rw [HLV.out, List.getElem?_map] at hu
    obtain ⟨x, hx, rfl⟩ := Option.map_eq_some_iff.1 hu
    obtain ⟨ad2, e2, _, hc2⟩ := (HR.out.below hb).2.2.2 j x hx
    rw [hA] at e2
    obtain rfl := Option.some.inj e2
    exact hc2))
  have FCO : Hid (∀ u ∈ lv, u.oneCell' = true) := Lib.hid (fun u hu => by rw [HLV.out] at hu; obtain ⟨j, _, rfl⟩ := List.mem_map.1 hu; rfl)
  clear hr hlv
  go_enter Try.func34, Try.ntmps34
  go_wp2_with (first
    | (refine wpList_make_own _ rfl (.const (.int .i64 0)) (.tmp 7) 22 rfl w.heap.size 55 i0 _ 1 Try.underlying22 hi0 hz0 hz1 .i64 .i64 _ (n + 12) rfl rfl (by omega) (by rw [hz2]; omega) (by simp only [maxLen]; omega) (Nat.le_refl _) ?_; intro w1 hown1 hg1; have HB1 := Lib.hid ((Below.refl w.heap.size w).grown hg1 (Nat.le_refl _) (fun k hk => by cases hk)); have HOWN1 := Lib.hid hown1; have HC := HCC.out w1 HB1.out; clear hown1 hg1)
    | (at_builtin; refine wpList_append_fits_any _ rfl (.tmp 9) (.tmp 10) 22 rfl w.heap.size 55 i0 1 Try.underlying22 hi0 hz1 w.heap.size 0 (n + 12) [] rfl HOWN1.out A n c lv rfl (by rw [HLL.out]; omega) HNA.out HC.out FCO.out (by omega) ?_; intro w2 hown2 hg2))
  rw [Nat.zero_add, List.nil_append] at hown2
  have HOWN2 := Lib.hid hown2
  have HB2 := Lib.hid (HB1.out.grown hg2 (by have := HB1.out.size; omega) (fun k hk => by cases hk; exact Nat.le_refl _))
  clear hown2 hg2 HOWN1 HC
  go_loopw [3, 4] (fun v t wr => ∃ i : Nat, i ≤ 12 ∧ t = .int .i64 i ∧ v = .slice (some ⟨w.heap.size, 0, none⟩) (n + i) (n + 12) ∧ wr.ownsRow w.heap.size 55 1 (.slice (some ⟨w.heap.size, 0, none⟩) (n + i) (n + 12)) (n + i) (lv ++ mkU i) ∧ Below w.heap.size w wr) (fun _ t _ => 12 - (intOf t).toNat)
  case atStart => exact ⟨0, by omega, rfl, rfl, by rw [show mkU 0 = [] from rfl, List.append_nil]; exact HOWN2.out, HB2.out⟩
  case round =>
    obtain ⟨i, hi, rfl, rfl, hown, hb⟩ := hrel
    have HOWN := Lib.hid hown
    have HB := Lib.hid hb
    clear hown hb
    by_cases hlt : i < 12
    · have OWN2 : Hid (∀ m : Int, (wr.alloc (.cells #[.int .u64 m] 55)).ownsRow w.heap.size 55 1 (.slice (some ⟨w.heap.size, 0, none⟩) (n + i) (n + 12)) (n + i) (lv ++ mkU i)) := Lib.hid (fun m => HOWN.out.alloc _)
      have CELLS2 := Lib.hid (fun m => cell1U wr m 55)
      have HBA : Hid (∀ m : Int, Below w.heap.size w (wr.alloc (.cells #[.int .u64 m] 55))) := Lib.hid (fun m => HB.out.alloc HB.out.size _)
      have hcv : IntKind.u64.wrap (8000024 + (i : Int)) = 8000024 + (i : Int) := by rw [IntKind.wrap_u64]; omega
      go_wp2_with (first
        | (go_at_call 42; refine (mark_any i (by omega) _).mono ?_; rintro e w' ⟨rfl, rfl⟩)
        | (at_builtin; refine wpList_append_fits _ rfl (.tmp 16) (.tmp 20) 22 rfl w.heap.size 55 i0 1 Try.underlying22 hi0 hz1 w.heap.size (n + i) (n + 12) (lv ++ mkU i) rfl (OWN2.out (8000024 + (i : Int))) ⟨wr.heap.size, 0, none⟩ 1 1 [Value.int .u64 (8000024 + (i : Int))] rfl (CELLS2.out _).1 (CELLS2.out (8000024 + (i : Int))).2.1 (CELLS2.out _).2.2 (by omega) ?_; intro w3 hown3 hg3))
      have HOWN3 : Hid (w3.ownsRow w.heap.size 55 1 (.slice (some ⟨w.heap.size, 0, none⟩) (n + (i + 1)) (n + 12)) (n + (i + 1)) (lv ++ mkU (i + 1))) := Lib.hid (by rw [mkU_succ, ← List.append_assoc]; exact hown3)
      have HB3 := Lib.hid ((HBA.out (8000024 + (i : Int))).grown hg3 (HBA.out (8000024 + (i : Int))).size (fun k hk => by cases hk; exact Nat.le_refl _))
      clear hown3 hg3
      go_wp2
      go_roundw
      case rel => exact ⟨i + 1, by omega, by go_num, rfl, HOWN3.out, HB3.out⟩
      case measure => simp [intOf]; omega
    · have hi12 : i = 12 := by omega
      subst hi12
      have hlent : LentU wr w.heap.size n l := by
        refine ⟨HLEN.out, (World.ownsRow.lt HOWN.out w.heap.size rfl).2, fun k x hk => ?_, fun i hi => ?_⟩
        · have hkn : k < n := by have := (List.getElem?_eq_some_iff.1 hk).1; have := HLEN.out; omega
          rw [World.ownsRow.cellAt HOWN.out k (by omega), List.getElem?_append_left (by rw [HLL.out]; exact hkn), HLV.out, List.getElem?_map, hk]; rfl
        · rw [World.ownsRow.cellAt HOWN.out (n + i) (by omega), List.getElem?_append_right (by rw [HLL.out]; omega), HLL.out, Nat.add_sub_cancel_left]
          unfold mkU
          rw [List.getElem?_map, List.getElem?_range hi]; rfl
      have HL := Lib.hid hlent
      clear hlent HOWN
      go_wp2
      go_ret
      exact ⟨w.heap.size, rfl, HL.out, HB.out⟩
set_option maxRecDepth 100000 in
set_option maxHeartbeats 4000000 in
theorem kept_limbs (A : Option Addr) (n c g : Nat) (l : List Int) (w : World) (hn : n ≤ 1000000) (hl : LentU w g n l) (hr : U w A n c l) :
    Calls Try.prog 41 #[.slice (some ⟨g, 0, none⟩) n (n + 12), .slice A n c] w fun e w' => e = .returned (.bool true) ∧ Below w.heap.size w w' := by
  have HL := Lib.hid hl
  have HR := Lib.hid hr
  have HLEN := Lib.hid hl.1
  clear hl hr
  go_enter Try.func41, Try.ntmps41
  go_wp2_with fail
  go_loopw [6] (fun t wr => ∃ i : Nat, i ≤ n + 12 ∧ t = .int .i64 i ∧ Below w.heap.size w wr) (fun t _ => n + 12 - (intOf t).toNat)
  case atStart => exact ⟨0, Nat.zero_le _, rfl, Below.refl _ _⟩
  case round =>
    obtain ⟨i, hi, rfl, hd⟩ := hrel
    have HD := Lib.hid hd
    have HL1 := Lib.hid (HL.out.below hd)
    have HR1 := Lib.hid (HR.out.below hd)
    clear hd
    by_cases hlt : i < n + 12
    · by_cases hin : i < n
      · obtain ⟨x, hx⟩ : ∃ x, l[i]? = some x := ⟨_, List.getElem?_eq_getElem (by have := HLEN.out; omega)⟩
        have hc1 := HL1.out.2.2.1 i x hx
        obtain ⟨ad, rfl, _, hc2⟩ := HR1.out.2.2.2 i x hx
        have hge2 : decide (n ≤ i) = false := by simp; omega
        clear hx
        go_wp2_with fail
        go_quiet (fail)
        rename_i nq
        have HD2 := Lib.hid (HD.out.trans (show Below w.heap.size wr (wr.drewN nq) from ⟨rfl, rfl, rfl, Nat.le_refl _, fun _ _ => rfl⟩))
        go_wp2
        go_roundw
        case rel => exact ⟨i + 1, by omega, by go_num, HD2.out⟩
        case measure => simp [intOf]; omega
      · obtain ⟨j, hj⟩ : ∃ j, i = n + j := ⟨i - n, by omega⟩
        have hc1 := HL1.out.2.2.2 j (by omega)
        rw [← hj] at hc1
        have HMK := Lib.hid (fun (x : World) => mark_any j (by omega) x)
        have hge1 : decide (i < n) = false := by simp; omega
        have hge2 : decide (n ≤ i) = true := by simp; omega
        have hsb : IntKind.i64.wrap ((i : Int) - (n : Int)) = (j : Int) := by rw [IntKind.wrap_i64]; omega
        have hsb2 : (i : Int) - (n : Int) = (j : Int) := by omega
        have hcv : IntKind.u64.wrap (8000024 + (j : Int)) = 8000024 + (j : Int) := by rw [IntKind.wrap_u64]; omega
        clear hj
        go_wp2_with fail
        go_quiet ((go_at_call 42; exact Calls.quiet_of_same ((HMK.out _).mono fun _ _ he => ⟨he.1, he.2.symm⟩)))
        rename_i nq
        have HD2 := Lib.hid (HD.out.trans (show Below w.heap.size wr (wr.drewN nq) from ⟨rfl, rfl, rfl, Nat.le_refl _, fun _ _ => rfl⟩))
        go_wp2
        go_roundw
        case rel => exact ⟨i + 1, by omega, by go_num, HD2.out⟩
        case measure => simp [intOf]; omega
    · have hin : i = n + 12 := by omega
      subst hin
      go_wp2
      go_ret
      exact ⟨rfl, HD.out⟩
set_option maxRecDepth 100000 in
set_option maxHeartbeats 4000000 in
theorem same_limbs (A : Option Addr) (n c : Nat) (A' : Option Addr) (c' : Nat) (l : List Int) (w : World) (hn : n ≤ 1000000000) (hu : U w A n c l) (hu' : U w A' n c' l) :
    Calls Try.prog 49 #[.slice A n c, .slice A' n c'] w fun e w' => e = .returned (.bool true) ∧ Below w.heap.size w w' := by
  have HL := Lib.hid hu
  have HR := Lib.hid hu'
  have HLEN := Lib.hid hu.1
  clear hu hu'
  go_enter Try.func49, Try.ntmps49
  go_wp2_with fail
  go_loopw [5] (fun t wr => ∃ i : Nat, i ≤ n ∧ t = .int .i64 i ∧ Below w.heap.size w wr) (fun t _ => n - (intOf t).toNat)
  case atStart => exact ⟨0, Nat.zero_le _, rfl, Below.refl _ _⟩
  case round =>
    obtain ⟨i, hi, rfl, hd⟩ := hrel
    have HD := Lib.hid hd
    have HL1 := Lib.hid (HL.out.below hd)
    have HR1 := Lib.hid (HR.out.below hd)
    clear hd
    by_cases hin : i < n
    · obtain ⟨x, hx⟩ : ∃ x, l[i]? = some x := ⟨_, List.getElem?_eq_getElem (by have := HLEN.out; omega)⟩
      obtain ⟨ad1, rfl, _, hc1⟩ := HL1.out.2.2.2 i x hx
      obtain ⟨ad2, rfl, _, hc2⟩ := HR1.out.2.2.2 i x hx
      clear hx
      go_wp2_with fail
      go_quiet (fail)
      rename_i nq
      have HD2 := Lib.hid (HD.out.trans (show Below w.heap.size wr (wr.drewN nq) from ⟨rfl, rfl, rfl, Nat.le_refl _, fun _ _ => rfl⟩))
      go_wp2
      go_roundw
      case rel => exact ⟨i + 1, by omega, by go_num, HD2.out⟩
      case measure => simp [intOf]; omega
    · have hin : i = n := by omega
      subst hin
      go_wp2
      go_ret
      exact ⟨rfl, HD.out⟩
end Go.Proofs.Ytclnmheplecknaa

namespace Go.Proofs.Ytclnmheplecknaa
open Go.RowKit
theorem U1_new (w : World) (p : Int) (t : TypeId) : U (w.alloc (.cells #[.int .u64 p] t)) (some ⟨w.heap.size, 0, none⟩) 1 1 [p] :=
  ⟨rfl, Nat.le_refl _, (fun h => by cases h), fun k x hk => by
    have h := (cell1U w p t).2.1
    rcases k with _ | k
    · refine ⟨_, rfl, by simp, ?_⟩
      exact h 0 (.int .u64 p) rfl |>.trans (by simp at hk; rw [hk])
    · simp at hk⟩
set_option maxRecDepth 100000 in
theorem small_any (s : Bool) (m : Int) (w : World) : Calls Try.prog 33 #[.bool s, .int .u64 m] w fun e w' => ∃ A, e = .returned (.agg #[.bool s, .slice A 1 1]) ∧ U w' A 1 1 [m] ∧ Below w.heap.size w w' := by
  go_enter Try.func33, Try.ntmps33
  go_wp2
  have HB := Lib.hid (((Below.refl w.heap.size w).alloc (Nat.le_refl _) (.cells #[.bool s, .slice (some ⟨w.heap.size + 1, 0, none⟩) 1 1] 24)).alloc (by simp) (.cells #[.int .u64 m] 55))
  have HU := Lib.hid (U1_new (w.alloc (.cells #[.bool s, .slice (some ⟨w.heap.size + 1, 0, none⟩) 1 1] 24)) m 55)
  rw [show (w.alloc (.cells #[.bool s, .slice (some ⟨w.heap.size + 1, 0, none⟩) 1 1] 24)).heap.size = w.heap.size + 1 by simp] at HU
  refine bodyPost_ret (v := .agg #[.bool s, .slice (some ⟨w.heap.size + 1, 0, none⟩) 1 1]) (by simp [results, Try.results33, go_sem]) rfl ⟨_, rfl, HU.out, HB.out⟩
set_option maxRecDepth 100000 in
set_option maxHeartbeats 4000000 in
theorem same_int (s : Bool) (A : Option Addr) (n c : Nat) (A' : Option Addr) (c' : Nat) (l : List Int) (w : World) (hn : n ≤ 1000000000) (hu : U w A n c l) (hu' : U w A' n c' l) :
    Calls Try.prog 20 #[.agg #[.bool s, .slice A n c], .agg #[.bool s, .slice A' n c']] w fun e w' => e = .returned (.bool true) ∧ Below w.heap.size w w' := by
  have HB1 := Lib.hid (((Below.refl w.heap.size w).alloc (Nat.le_refl _) (.cells #[.bool s, .slice A n c] 24)).alloc (by simp) (.cells #[.bool s, .slice A' n c'] 24))
  have HS := Lib.hid (fun w1 (hb : Below w.heap.size w w1) => same_limbs A n c A' c' l w1 hn (hu.below hb) (hu'.below hb))
  have hd : (s == s) = true := by simp
  clear hu hu'
  go_enter Try.func20, Try.ntmps20
  go_wp2_with fail
  refine (HS.out _ HB1.out).mono ?_
  rintro e w1 ⟨rfl, hb⟩
  have HB2 := Lib.hid (HB1.out.trans (hb.mono HB1.out.size))
  clear hb
  go_wp2
  go_ret
  exact ⟨rfl, HB2.out⟩
theorem LentU.store {w : World} {g n : Nat} {l : List Int} (h : LentU w g n l) (p : Addr) {v0 : Value} (v : Value) (hp : w.cell? p = some v0) (hne : ∀ x, v0 ≠ .int .u64 x) : LentU (w.setCell p v) g n l := by
  obtain ⟨h1, h2, h3, h4⟩ := h
  refine ⟨h1, by simpa using h2, fun k x hk => ?_, fun i hi => ?_⟩
  · have hc := h3 k x hk
    rw [World.cell?_setCell_other _ _ _ _ (fun e => by subst e; rw [hp] at hc; exact hne x (Option.some.inj hc))]
    exact hc
  · have hc := h4 i hi
    rw [World.cell?_setCell_other _ _ _ _ (fun e => by subst e; rw [hp] at hc; exact hne _ (Option.some.inj hc))]
    exact hc
set_option maxRecDepth 100000 in
set_option maxHeartbeats 4000000 in
theorem lent_int (s : Bool) (A : Option Addr) (n c : Nat) (l : List Int) (w : World) (hn : n ≤ 1000000) (hu : U w A n c l) :
    Calls Try.prog 12 #[.agg #[.bool s, .slice A n c]] w fun e w' => ∃ g, e = .returned (.agg #[.bool s, .slice (some ⟨g, 0, none⟩) n (n + 12)]) ∧ LentU w' g n l ∧ Below w.heap.size w w' := by
  have HB1 := Lib.hid (((Below.refl w.heap.size w).alloc (Nat.le_refl _) (.cells #[.bool s, .slice A n c] 24)).alloc (by simp) (.cells #[.bool false, .slice none 0 0] 24))
  have HS := Lib.hid (fun w1 (hb : Below w.heap.size w w1) => lent_limbs A n c l w1 hn (hu.below hb))
  clear hu
  go_enter Try.func12, Try.ntmps12
  go_wp2_with fail
  refine (HS.out _ HB1.out).mono ?_
  rintro e w1 ⟨g, rfl, hl, hb⟩
  have hsz : ((w.alloc (.cells #[.bool s, .slice A n c] 24)).alloc (.cells #[.bool false, .slice none 0 0] 24)).heap.size = w.heap.size + 2 := by simp
  have c0 : w1.cell? ⟨w.heap.size, 0, none⟩ = some (.bool s) := (hb.cell (p := ⟨w.heap.size, 0, none⟩) (by rw [hsz]; simp)).trans (by simp)
  have c1 : w1.cell? ⟨w.heap.size, 1, none⟩ = some (.slice A n c) := (hb.cell (p := ⟨w.heap.size, 1, none⟩) (by rw [hsz]; simp)).trans (by simp)
  have c2 : w1.cell? ⟨w.heap.size + 1, 0, none⟩ = some (.bool false) := (hb.cell (p := ⟨w.heap.size + 1, 0, none⟩) (by rw [hsz]; simp)).trans (by simp)
  have c3 : w1.cell? ⟨w.heap.size + 1, 1, none⟩ = some (.slice none 0 0) := (hb.cell (p := ⟨w.heap.size + 1, 1, none⟩) (by rw [hsz]; simp)).trans (by simp)
  have f1 : w1.frozen? ⟨w.heap.size, 1, none⟩ = false := (hb.frozen (p := ⟨w.heap.size, 1, none⟩) (by rw [hsz]; simp)).trans (by simp)
  have f2 : w1.frozen? ⟨w.heap.size + 1, 0, none⟩ = false := (hb.frozen (p := ⟨w.heap.size + 1, 0, none⟩) (by rw [hsz]; simp)).trans (by simp)
  have f3 : w1.frozen? ⟨w.heap.size + 1, 1, none⟩ = false := (hb.frozen (p := ⟨w.heap.size + 1, 1, none⟩) (by rw [hsz]; simp)).trans (by simp)
  have d2 : (w1.setCell ⟨w.heap.size, 1, none⟩ (.slice (some ⟨g, 0, none⟩) n (n + 12))).cell? ⟨w.heap.size + 1, 0, none⟩ = some (.bool false) := (World.cell?_setCell_other _ _ _ _ (by simp)).trans c2
  have d3 : (w1.setCell ⟨w.heap.size, 1, none⟩ (.slice (some ⟨g, 0, none⟩) n (n + 12))).cell? ⟨w.heap.size + 1, 1, none⟩ = some (.slice none 0 0) := (World.cell?_setCell_other _ _ _ _ (by simp)).trans c3
  have hl1 := hl.store ⟨w.heap.size, 1, none⟩ (.slice (some ⟨g, 0, none⟩) n (n + 12)) c1 (fun x hx => by cases hx)
  have hl2 := hl1.store ⟨w.heap.size + 1, 0, none⟩ (.bool s) d2 (fun x hx => by cases hx)
  have d4 := (World.cell?_setCell_other (w1.setCell ⟨w.heap.size, 1, none⟩ (.slice (some ⟨g, 0, none⟩) n (n + 12))) ⟨w.heap.size + 1, 0, none⟩ ⟨w.heap.size + 1, 1, none⟩ (.bool s) (by simp)).trans d3
  have hl3 := hl2.store ⟨w.heap.size + 1, 1, none⟩ (.slice (some ⟨g, 0, none⟩) n (n + 12)) d4 (fun x hx => by cases hx)
  have HL := Lib.hid hl3
  have HB2 := Lib.hid ((((HB1.out.trans (hb.mono HB1.out.size)).setCell (p := ⟨w.heap.size, 1, none⟩) (Nat.le_refl _) (.slice (some ⟨g, 0, none⟩) n (n + 12))).setCell (p := ⟨w.heap.size + 1, 0, none⟩) (by simp) (.bool s)).setCell (p := ⟨w.heap.size + 1, 1, none⟩) (by simp) (.slice (some ⟨g, 0, none⟩) n (n + 12)))
  have HOUT := int_store (w1 := w1.setCell ⟨w.heap.size, 1, none⟩ (.slice (some ⟨g, 0, none⟩) n (n + 12))) (g := w.heap.size + 1) d2 d3 (.bool s) (.slice (some ⟨g, 0, none⟩) n (n + 12))
  have HO := Lib.hid HOUT
  clear hb hl hl1 hl2 hl3 hsz d2 d3 d4 HOUT
  go_wp2
  refine bodyPost_ret (v := .agg #[.bool s, .slice (some ⟨g, 0, none⟩) n (n + 12)]) (by simp [results, Try.results12, go_sem, HO.out.2.2.1, HO.out.2.2.2]) rfl ⟨g, rfl, HL.out, HB2.out⟩
set_option maxRecDepth 100000 in
set_option maxHeartbeats 4000000 in
theorem kept_int (s : Bool) (g : Nat) (A' : Option Addr) (n c' : Nat) (l : List Int) (w : World) (hn : n ≤ 1000000) (hl : LentU w g n l) (hu' : U w A' n c' l) :
    Calls Try.prog 16 #[.agg #[.bool s, .slice (some ⟨g, 0, none⟩) n (n + 12)], .agg #[.bool s, .slice A' n c']] w fun e w' => e = .returned (.bool true) ∧ Below w.heap.size w w' := by
  have HB1 := Lib.hid (((Below.refl w.heap.size w).alloc (Nat.le_refl _) (.cells #[.bool s, .slice (some ⟨g, 0, none⟩) n (n + 12)] 24)).alloc (by simp) (.cells #[.bool s, .slice A' n c'] 24))
  have HS := Lib.hid (fun w1 (hb : Below w.heap.size w w1) => same_int s (some ⟨g, 0, none⟩) n (n + 12) A' c' l w1 (by omega) (hl.u.below hb) (hu'.below hb))
  have HK := Lib.hid (fun w1 (hb : Below w.heap.size w w1) => kept_limbs A' n c' g l w1 hn (hl.below hb) (hu'.below hb))
  clear hl hu'
  go_enter Try.func16, Try.ntmps16
  go_wp2_with fail
  refine (HS.out _ HB1.out).mono ?_
  rintro e w1 ⟨rfl, hb⟩
  have hsz : ((w.alloc (.cells #[.bool s, .slice (some ⟨g, 0, none⟩) n (n + 12)] 24)).alloc (.cells #[.bool s, .slice A' n c'] 24)).heap.size = w.heap.size + 2 := by simp
  have c1 : w1.cell? ⟨w.heap.size, 1, none⟩ = some (.slice (some ⟨g, 0, none⟩) n (n + 12)) := (hb.cell (p := ⟨w.heap.size, 1, none⟩) (by rw [hsz]; simp)).trans (by simp)
  have c3 : w1.cell? ⟨w.heap.size + 1, 1, none⟩ = some (.slice A' n c') := (hb.cell (p := ⟨w.heap.size + 1, 1, none⟩) (by rw [hsz]; simp)).trans (by simp)
  have HB2 := Lib.hid (HB1.out.trans (hb.mono HB1.out.size))
  clear hb hsz
  go_wp2_with fail
  refine (HK.out _ HB2.out).mono ?_
  rintro e w2 ⟨rfl, hb⟩
  have HB3 := Lib.hid (HB2.out.trans (hb.mono HB2.out.size))
  clear hb
  go_wp2
  go_ret
  exact ⟨rfl, HB3.out⟩
end Go.Proofs.Ytclnmheplecknaa

namespace Go.Proofs.Ytclnmheplecknaa
open Go.RowKit

def plusC (s : Bool) (N : Nat) (e : Int) (s' : Bool) (M : Nat) (f : Int) : Bool × Nat × Int :=
  if s = s' then (s, N + M * 2 ^ (f - e).toNat, e) else if M * 2 ^ (f - e).toNat ≤ N then (s, N - M * 2 ^ (f - e).toNat, e) else (s', M * 2 ^ (f - e).toNat - N, e)
/-- The sum of two numbers, as it is told. -/
def plusN (s : Bool) (N : Nat) (e : Int) (s' : Bool) (M : Nat) (f : Int) : Bool × Nat × Int :=
  if N = 0 then (s', M, f) else if M = 0 then (s, N, e) else if f < e then plusC s' M f s N e else plusC s N e s' M f
/-- A number is handed back. -/
def NumPost (t : Bool × Nat × Int) (w : World) (r : Ending) (w' : World) : Prop := ∃ v, r = .returned v ∧ NumV w' v t.1 t.2.1 t.2.2 ∧ Below w.heap.size w w'
theorem shl_len (M m n : Nat) (h : (Nt.dg 18446744073709551616 M).length ≤ n) : (Nt.dg 18446744073709551616 (M * 2 ^ m)).length ≤ n + m / 64 + 1 := by
  refine Nt.dg_len _ (by decide) _ _ ?_
  have h1 := Nt.val_lt 18446744073709551616 (by decide) _ (Nt.dig_dg 18446744073709551616 (by decide) M)
  rw [Nt.val_dg _ (by decide)] at h1
  have h2 : M < 18446744073709551616 ^ n := Nat.lt_of_lt_of_le h1 (Nat.pow_le_pow_right (by decide) h)
  have h3 : 2 ^ m ≤ 18446744073709551616 ^ (m / 64 + 1) := by
    rw [show (18446744073709551616 : Nat) = 2 ^ 64 from rfl, ← Nat.pow_mul]
    exact Nat.pow_le_pow_right (by decide) (by omega)
  rw [Nat.add_assoc, Nat.pow_add]
  exact Nat.mul_lt_mul_of_lt_of_le h2 h3 (Nat.pow_pos (by decide))
set_option maxRecDepth 400000 in
set_option maxHeartbeats 8000000 in
theorem plus_core (v : Value) (s : Bool) (N : Nat) (e : Int) (v' : Value) (s' : Bool) (M : Nat) (f : Int) (w : World) (hv : NumV w v s N e) (hv' : NumV w v' s' M f) (hl : (Nt.dg 18446744073709551616 N).length ≤ 50000000) (hl' : (Nt.dg 18446744073709551616 M).length ≤ 50000000)
    (he1 : -100000000 ≤ e) (he2 : e ≤ 100000000) (hf1 : -100000000 ≤ f) (hf2 : f ≤ 100000000) (hN : N ≠ 0) (hM : M ≠ 0) (hef : e ≤ f) :
    Calls Try.prog 45 #[v, v'] w (NumPost (plusC s N e s' M f) w) := by
  have hz1 := fun x (hb : Below w.heap.size w x) => zero_any v s N e x (hv.below hb) (by omega)
  have hz2 := fun x (hb : Below w.heap.size w x) => zero_any v' s' M f x (hv'.below hb) (by omega)
  obtain ⟨A, c, rfl, hu⟩ := hv
  obtain ⟨A', c', rfl, hu'⟩ := hv'
  obtain ⟨m, hm⟩ : ∃ m : Nat, m = (f - e).toNat := ⟨_, rfl⟩
  have hmi : f - e = (m : Int) := by omega
  have hup := fun x (hb : Below w.heap.size w x) => natUp_any A' _ c' _ m x (hu'.below hb) (by omega) (Nt.dig_dg 18446744073709551616 (by decide) M) (by omega)
  rw [Nt.val_dg _ (by decide)] at hup
  have hlb := shl_len M m _ hl'
  obtain ⟨T, hT⟩ : ∃ T, T = plusC s N e s' M f := ⟨_, rfl⟩
  rw [← hT]
  unfold plusC at hT
  rw [← hm] at hT
  obtain ⟨Q, hQ⟩ : ∃ Q, Q = M * 2 ^ m := ⟨_, rfl⟩
  rw [← hQ] at hup hlb hT
  have HTT := Lib.hid hT
  clear hT
  have hlb2 : (Nt.dg 18446744073709551616 Q).length ≤ 60000000 := by omega
  have hadd := fun x A2 c2 (hb : Below w.heap.size w x) (h2 : U x A2 (Nt.dg 18446744073709551616 Q).length c2 (Nt.dg 18446744073709551616 Q)) => natAdd_any A _ c _ A2 _ c2 _ x (hu.below hb) (by omega) (Nt.dig_dg 18446744073709551616 (by decide) N) h2 (by omega) (Nt.dig_dg 18446744073709551616 (by decide) Q)
  have hcmp := fun x A2 c2 (hb : Below w.heap.size w x) (h2 : U x A2 (Nt.dg 18446744073709551616 Q).length c2 (Nt.dg 18446744073709551616 Q)) => natCmp_any A _ c _ A2 _ c2 _ x (hu.below hb) (by omega) (Nt.dig_dg 18446744073709551616 (by decide) N) h2 (by omega) (Nt.dig_dg 18446744073709551616 (by decide) Q)
  have hsub := fun x A2 c2 (hb : Below w.heap.size w x) (h2 : U x A2 (Nt.dg 18446744073709551616 Q).length c2 (Nt.dg 18446744073709551616 Q)) => natSub_any A _ c _ A2 _ c2 _ x (hu.below hb) (by omega) (Nt.dig_dg 18446744073709551616 (by decide) N) h2 (by omega) (Nt.dig_dg 18446744073709551616 (by decide) Q)
  have hbus := fun x A2 c2 (hb : Below w.heap.size w x) (h2 : U x A2 (Nt.dg 18446744073709551616 Q).length c2 (Nt.dg 18446744073709551616 Q)) => natSub_any A2 _ c2 _ A _ c _ x h2 (by omega) (Nt.dig_dg 18446744073709551616 (by decide) Q) (hu.below hb) (by omega) (Nt.dig_dg 18446744073709551616 (by decide) N)
  rw [Nt.val_dg _ (by decide), Nt.val_dg _ (by decide)] at hadd hcmp hsub hbus
  have HZ1 := Lib.hid hz1
  have HZ2 := Lib.hid hz2
  have HUP := Lib.hid hup
  have HADD := Lib.hid hadd
  have HCMP := Lib.hid hcmp
  have HSUB := Lib.hid hsub
  have HBUS := Lib.hid hbus
  have dN : decide (N = 0) = false := decide_eq_false hN
  have dM : decide (M = 0) = false := decide_eq_false hM
  clear hz1 hz2 hup hadd hcmp hsub hbus hu hu' hlb hm hQ hN hM
  generalize (Nt.dg 18446744073709551616 N).length = n at *
  generalize (Nt.dg 18446744073709551616 M).length = n' at *
  generalize hbq : (Nt.dg 18446744073709551616 Q) = b at *
  generalize hn2 : b.length = n2 at *
  have HBQ := Lib.hid hbq
  have HN2 := Lib.hid hn2
  clear hbq hn2
  have hst := Two.start w s A n c e s' A' n' c' f 65
  go_enter Try.func45, Try.ntmps45
  go_wp2_with fail
  generalize ((w.alloc (.cells #[.bool s, .slice A n c, .int .i64 e] 65)).alloc (.cells #[.bool s', .slice A' n' c', .int .i64 f] 65)).alloc (.cells #[.bool false, .slice none 0 0, .int .i64 0] 65) = W at *
  refine (HZ1.out W hst.2.2.1).mono ?_
  rintro r w1 ⟨rfl, hb1⟩
  have ht1 := hst.go hb1
  have HT1 := Lib.hid ht1
  obtain ⟨⟨p1, p2, p3⟩, ⟨p4, p5, p6⟩, _, ⟨p7, p8⟩, _⟩ := ht1
  clear hb1 hst
  rw [dN]
  go_wp2_with fail
  refine (HZ2.out w1 HT1.out.2.2.1).mono ?_
  rintro r w2 ⟨rfl, hb2⟩
  have ht2 := HT1.out.go hb2
  have HT2 := Lib.hid ht2
  clear p1 p2 p3 p4 p5 p6 p7 p8 HT1 hb2
  obtain ⟨⟨p1, p2, p3⟩, ⟨p4, p5, p6⟩, _, ⟨p7, p8⟩, _⟩ := ht2
  rw [dM]
  have hgt : ¬ f < e := by omega
  go_wp2_with fail
  have HC7 : Hid (∀ x, Two w w.heap.size s A n c e (w.heap.size + 1) s' A' n' c' f (w.heap.size + 1 + 1) x → Calls Try.prog 71 #[.slice A' n' c', .int .i64 (f - e)] x fun r w' => ∃ A2 c2, r = .returned (.slice A2 n2 c2) ∧ U w' A2 n2 c2 b ∧ Two w w.heap.size s A n c e (w.heap.size + 1) s' A' n' c' f (w.heap.size + 1 + 1) w') :=
    Lib.hid (fun x hx => by rw [hmi]; exact (HUP.out x hx.2.2.1).mono fun r w' ⟨A3, c3, h1, h2, h3⟩ => ⟨A3, c3, by rw [h1, HBQ.out, HN2.out], by rw [HBQ.out, HN2.out] at h2; exact h2, hx.go h3⟩)
  have HS0 := Lib.hid HT2.out.drew
  have hwr : IntKind.i64.wrap (f - e) = f - e := by rw [IntKind.wrap_i64]; omega
  have HMI := Lib.hid hmi
  clear hmi
  go_region_held3 (fun x => (x.cell? ⟨w.heap.size, 0, none⟩ = some (.bool s) ∧ x.cell? ⟨w.heap.size, 1, none⟩ = some (.slice A n c) ∧ x.cell? ⟨w.heap.size, 2, none⟩ = some (.int .i64 e)) ∧ (x.cell? ⟨w.heap.size + 1, 0, none⟩ = some (.bool s') ∧ x.cell? ⟨w.heap.size + 1, 1, none⟩ = some (.slice A' n' c') ∧ x.cell? ⟨w.heap.size + 1, 2, none⟩ = some (.int .i64 f)) ∧ Below w.heap.size w x ∧ (w.heap.size < x.heap.size ∧ w.heap.size + 1 < x.heap.size) ∧ Shape x (w.heap.size + 1 + 1)) ((first | assumption | exact HS0.out)) (first | (go_at_call 71; refine (HC7.out _ ?_).mono ?_; (assumption); rintro r w' ⟨A2, c2, rfl, hu2, hS⟩))

  have HT7 : Hid (Two w w.heap.size s A n c e (w.heap.size + 1) s' A' n' c' f (w.heap.size + 1 + 1) w' ∧ U w' A2 n2 c2 b) := Lib.hid ⟨hS, hu2⟩
  clear p1 p2 p3 p4 p5 p6 p7 p8 HT2 HC7 HS0 hS hu2 HUP HZ1 HZ2
  obtain ⟨w7, hw7⟩ : ∃ w7, w7 = w' := ⟨_, rfl⟩
  rw [← hw7] at HT7 ⊢
  obtain ⟨⟨p1, p2, p3⟩, ⟨p4, p5, p6⟩, _, ⟨p7, p8⟩, _⟩ := HT7.out.1
  clear hw7
  by_cases hss : s = s'
  · subst hss
    have hT2 := HTT.out
    rw [if_pos rfl] at hT2
    have HS9 : Hid (Two w w.heap.size s A n c e (w.heap.size + 1) s A' n' c' f (w.heap.size + 1 + 1) w7.drew ∧ U w7.drew A2 n2 c2 b) := Lib.hid ⟨HT7.out.1.drew, HT7.out.2.below (Below.refl _ _).drew⟩
    clear hT2
    go_wp2_with fail
    obtain ⟨V, hV⟩ : ∃ V, V = N + Q := ⟨_, rfl⟩
    have HT9 : Hid (T = (s, V, e)) := Lib.hid (by rw [HTT.out]; first | rw [if_pos rfl] | rw [if_pos trivial]; rw [hV])
    have HC9 : Hid (∀ x, (Two w w.heap.size s A n c e (w.heap.size + 1) s A' n' c' f (w.heap.size + 1 + 1) x ∧ U x A2 n2 c2 b) → Calls Try.prog 72 #[.slice A n c, .slice A2 n2 c2] x fun r w' => ∃ A3 c3, r = .returned (.slice A3 (Nt.dg 18446744073709551616 V).length c3) ∧ U w' A3 (Nt.dg 18446744073709551616 V).length c3 (Nt.dg 18446744073709551616 V) ∧ (Two w w.heap.size s A n c e (w.heap.size + 1) s A' n' c' f (w.heap.size + 1 + 1) w' ∧ U w' A2 n2 c2 b)) :=
      Lib.hid (fun x hx => by
        have h9 := HADD.out x A2 c2 hx.1.2.2.1 hx.2
        rw [← hV] at h9
        exact h9.mono fun r w' ⟨A3, c3, h1, h2, h3⟩ => ⟨A3, c3, h1, h2, hx.1.go h3, hx.2.below h3⟩)
    have KEEP9 : Hid (∀ x, (Two w w.heap.size s A n c e (w.heap.size + 1) s A' n' c' f (w.heap.size + 1 + 1) x ∧ U x A2 n2 c2 b) → ∀ q A5 n5 c5 e5, Two w w.heap.size s A n c e (w.heap.size + 1) s A' n' c' f (w.heap.size + 1 + 1) (((x.setCell ⟨w.heap.size + 1 + 1, 0, none⟩ (.bool q)).setCell ⟨w.heap.size + 1 + 1, 1, none⟩ (.slice A5 n5 c5)).setCell ⟨w.heap.size + 1 + 1, 2, none⟩ (.int .i64 e5)) ∧ U (((x.setCell ⟨w.heap.size + 1 + 1, 0, none⟩ (.bool q)).setCell ⟨w.heap.size + 1 + 1, 1, none⟩ (.slice A5 n5 c5)).setCell ⟨w.heap.size + 1 + 1, 2, none⟩ (.int .i64 e5)) A2 n2 c2 b) := Lib.hid (fun x hx q A5 n5 c5 e5 => ⟨Two.store hx.1 (by omega) (by omega) (by omega) q A5 n5 c5 e5, (Two.out hx.1 (by omega) hx.2 _ _ _).1⟩)
    clear hV
    generalize hlv : (Nt.dg 18446744073709551616 V) = lv at *
    generalize hkv : lv.length = kv at *
    have HLV := Lib.hid hlv
    have HKV := Lib.hid hkv
    clear hlv hkv
    go_region_held3 (fun x => ((x.cell? ⟨w.heap.size, 0, none⟩ = some (.bool s) ∧ x.cell? ⟨w.heap.size, 1, none⟩ = some (.slice A n c) ∧ x.cell? ⟨w.heap.size, 2, none⟩ = some (.int .i64 e)) ∧ (x.cell? ⟨w.heap.size + 1, 0, none⟩ = some (.bool s) ∧ x.cell? ⟨w.heap.size + 1, 1, none⟩ = some (.slice A' n' c') ∧ x.cell? ⟨w.heap.size + 1, 2, none⟩ = some (.int .i64 f)) ∧ Below w.heap.size w x ∧ (w.heap.size < x.heap.size ∧ w.heap.size + 1 < x.heap.size) ∧ Shape x (w.heap.size + 1 + 1)) ∧ U x A2 n2 c2 b) ((first | assumption | exact HS9.out | exact KEEP9.out _ (by assumption) _ _ _ _ _)) (first | (go_at_call 72; refine (HC9.out _ ?_).mono ?_; (assumption); rintro r w' ⟨A3, c3, rfl, hu3, hS⟩; have hS2 := hS; obtain ⟨⟨_, _, _, _, _, hfz, _, _, _, _, _, m0, m1, m2⟩, _⟩ := hS2; have z0 := hfz 0; have z1 := hfz 1; have z2 := hfz 2; clear hfz))
    have OUT := Lib.hid (Two.out (w := w') hS.1 (by omega) hu3 (.bool s) (.slice A3 kv c3) (.int .i64 e))
    clear hS m0 m1 m2 z0 z1 z2 hu3 HC9 KEEP9 HS9 p1 p2 p3 p4 p5 p6 p7 p8
    go_wp2
    refine bodyPost_ret (v := .agg #[.bool s, .slice A3 kv c3, .int .i64 e]) (by simp [results, Try.results45, go_sem, OUT.out.2.2.1, OUT.out.2.2.2.1, OUT.out.2.2.2.2]) rfl ⟨_, rfl, ⟨A3, c3, by rw [HT9.out, HLV.out, HKV.out], by rw [HT9.out, HLV.out, HKV.out]; exact OUT.out.1⟩, OUT.out.2.1⟩
  · have hsn : (s == s') = false := by simpa using hss
    go_wp2_with fail
    have hcm := HCMP.out w7 A2 c2 HT7.out.1.2.2.1 HT7.out.2
    refine hcm.mono ?_
    rintro r w8 ⟨rfl, hb8⟩
    have HT8 : Hid (Two w w.heap.size s A n c e (w.heap.size + 1) s' A' n' c' f (w.heap.size + 1 + 1) w8 ∧ U w8 A2 n2 c2 b) := Lib.hid ⟨HT7.out.1.go hb8, HT7.out.2.below hb8⟩
    have HS9 : Hid (Two w w.heap.size s A n c e (w.heap.size + 1) s' A' n' c' f (w.heap.size + 1 + 1) w8.drew ∧ U w8.drew A2 n2 c2 b) := Lib.hid ⟨HT8.out.1.drew, HT8.out.2.below (Below.refl _ _).drew⟩
    clear p1 p2 p3 p4 p5 p6 p7 p8 HT7 hb8 hcm
    obtain ⟨⟨p1, p2, p3⟩, ⟨p4, p5, p6⟩, _, ⟨p7, p8⟩, _⟩ := HT8.out.1
    by_cases hle : Q ≤ N
    · have hci : 0 ≤ cmpI N Q := by unfold cmpI; split; omega; split <;> omega
      generalize cmpI N Q = ci at *
      go_wp2_with fail
      obtain ⟨V, hV⟩ : ∃ V, V = N - Q := ⟨_, rfl⟩
      have HT9 : Hid (T = (s, V, e)) := Lib.hid (by rw [HTT.out]; rw [if_neg hss, if_pos hle]; rw [hV])
      have HC9 : Hid (∀ x, (Two w w.heap.size s A n c e (w.heap.size + 1) s' A' n' c' f (w.heap.size + 1 + 1) x ∧ U x A2 n2 c2 b) → Calls Try.prog 74 #[.slice A n c, .slice A2 n2 c2] x fun r w' => ∃ A3 c3, r = .returned (.slice A3 (Nt.dg 18446744073709551616 V).length c3) ∧ U w' A3 (Nt.dg 18446744073709551616 V).length c3 (Nt.dg 18446744073709551616 V) ∧ (Two w w.heap.size s A n c e (w.heap.size + 1) s' A' n' c' f (w.heap.size + 1 + 1) w' ∧ U w' A2 n2 c2 b)) :=
        Lib.hid (fun x hx => by
          have h9 := HSUB.out x A2 c2 hx.1.2.2.1 hx.2 hle
          rw [← hV] at h9
          exact h9.mono fun r w' ⟨A3, c3, h1, h2, h3⟩ => ⟨A3, c3, h1, h2, hx.1.go h3, hx.2.below h3⟩)
      have KEEP9 : Hid (∀ x, (Two w w.heap.size s A n c e (w.heap.size + 1) s' A' n' c' f (w.heap.size + 1 + 1) x ∧ U x A2 n2 c2 b) → ∀ q A5 n5 c5 e5, Two w w.heap.size s A n c e (w.heap.size + 1) s' A' n' c' f (w.heap.size + 1 + 1) (((x.setCell ⟨w.heap.size + 1 + 1, 0, none⟩ (.bool q)).setCell ⟨w.heap.size + 1 + 1, 1, none⟩ (.slice A5 n5 c5)).setCell ⟨w.heap.size + 1 + 1, 2, none⟩ (.int .i64 e5)) ∧ U (((x.setCell ⟨w.heap.size + 1 + 1, 0, none⟩ (.bool q)).setCell ⟨w.heap.size + 1 + 1, 1, none⟩ (.slice A5 n5 c5)).setCell ⟨w.heap.size + 1 + 1, 2, none⟩ (.int .i64 e5)) A2 n2 c2 b) := Lib.hid (fun x hx q A5 n5 c5 e5 => ⟨Two.store hx.1 (by omega) (by omega) (by omega) q A5 n5 c5 e5, (Two.out hx.1 (by omega) hx.2 _ _ _).1⟩)
      clear hV
      generalize hlv : (Nt.dg 18446744073709551616 V) = lv at *
      generalize hkv : lv.length = kv at *
      have HLV := Lib.hid hlv
      have HKV := Lib.hid hkv
      clear hlv hkv
      go_region_held3 (fun x => ((x.cell? ⟨w.heap.size, 0, none⟩ = some (.bool s) ∧ x.cell? ⟨w.heap.size, 1, none⟩ = some (.slice A n c) ∧ x.cell? ⟨w.heap.size, 2, none⟩ = some (.int .i64 e)) ∧ (x.cell? ⟨w.heap.size + 1, 0, none⟩ = some (.bool s') ∧ x.cell? ⟨w.heap.size + 1, 1, none⟩ = some (.slice A' n' c') ∧ x.cell? ⟨w.heap.size + 1, 2, none⟩ = some (.int .i64 f)) ∧ Below w.heap.size w x ∧ (w.heap.size < x.heap.size ∧ w.heap.size + 1 < x.heap.size) ∧ Shape x (w.heap.size + 1 + 1)) ∧ U x A2 n2 c2 b) ((first | assumption | exact HS9.out | exact KEEP9.out _ (by assumption) _ _ _ _ _)) (first | (go_at_call 74; refine (HC9.out _ ?_).mono ?_; (assumption); rintro r w' ⟨A3, c3, rfl, hu3, hS⟩; have hS2 := hS; obtain ⟨⟨_, _, _, _, _, hfz, _, _, _, _, _, m0, m1, m2⟩, _⟩ := hS2; have z0 := hfz 0; have z1 := hfz 1; have z2 := hfz 2; clear hfz))
      have OUT := Lib.hid (Two.out (w := w') hS.1 (by omega) hu3 (.bool s) (.slice A3 kv c3) (.int .i64 e))
      clear hS m0 m1 m2 z0 z1 z2 hu3 HC9 KEEP9 HS9 p1 p2 p3 p4 p5 p6 p7 p8
      go_wp2
      refine bodyPost_ret (v := .agg #[.bool s, .slice A3 kv c3, .int .i64 e]) (by simp [results, Try.results45, go_sem, OUT.out.2.2.1, OUT.out.2.2.2.1, OUT.out.2.2.2.2]) rfl ⟨_, rfl, ⟨A3, c3, by rw [HT9.out, HLV.out, HKV.out], by rw [HT9.out, HLV.out, HKV.out]; exact OUT.out.1⟩, OUT.out.2.1⟩
    · have hci : ¬ 0 ≤ cmpI N Q := by unfold cmpI; rw [if_pos (by omega)]; omega
      have hle2 : N ≤ Q := by omega
      generalize cmpI N Q = ci at *
      go_wp2_with fail
      obtain ⟨V, hV⟩ : ∃ V, V = Q - N := ⟨_, rfl⟩
      have HT9 : Hid (T = (s', V, e)) := Lib.hid (by rw [HTT.out]; rw [if_neg hss, if_neg hle]; rw [hV])
      have HC9 : Hid (∀ x, (Two w w.heap.size s A n c e (w.heap.size + 1) s' A' n' c' f (w.heap.size + 1 + 1) x ∧ U x A2 n2 c2 b) → Calls Try.prog 74 #[.slice A2 n2 c2, .slice A n c] x fun r w' => ∃ A3 c3, r = .returned (.slice A3 (Nt.dg 18446744073709551616 V).length c3) ∧ U w' A3 (Nt.dg 18446744073709551616 V).length c3 (Nt.dg 18446744073709551616 V) ∧ (Two w w.heap.size s A n c e (w.heap.size + 1) s' A' n' c' f (w.heap.size + 1 + 1) w' ∧ U w' A2 n2 c2 b)) :=
        Lib.hid (fun x hx => by
          have h9 := HBUS.out x A2 c2 hx.1.2.2.1 hx.2 hle2
          rw [← hV] at h9
          exact h9.mono fun r w' ⟨A3, c3, h1, h2, h3⟩ => ⟨A3, c3, h1, h2, hx.1.go h3, hx.2.below h3⟩)
      have KEEP9 : Hid (∀ x, (Two w w.heap.size s A n c e (w.heap.size + 1) s' A' n' c' f (w.heap.size + 1 + 1) x ∧ U x A2 n2 c2 b) → ∀ q A5 n5 c5 e5, Two w w.heap.size s A n c e (w.heap.size + 1) s' A' n' c' f (w.heap.size + 1 + 1) (((x.setCell ⟨w.heap.size + 1 + 1, 0, none⟩ (.bool q)).setCell ⟨w.heap.size + 1 + 1, 1, none⟩ (.slice A5 n5 c5)).setCell ⟨w.heap.size + 1 + 1, 2, none⟩ (.int .i64 e5)) ∧ U (((x.setCell ⟨w.heap.size + 1 + 1, 0, none⟩ (.bool q)).setCell ⟨w.heap.size + 1 + 1, 1, none⟩ (.slice A5 n5 c5)).setCell ⟨w.heap.size + 1 + 1, 2, none⟩ (.int .i64 e5)) A2 n2 c2 b) := Lib.hid (fun x hx q A5 n5 c5 e5 => ⟨Two.store hx.1 (by omega) (by omega) (by omega) q A5 n5 c5 e5, (Two.out hx.1 (by omega) hx.2 _ _ _).1⟩)
      clear hV
      generalize hlv : (Nt.dg 18446744073709551616 V) = lv at *
      generalize hkv : lv.length = kv at *
      have HLV := Lib.hid hlv
      have HKV := Lib.hid hkv
      clear hlv hkv
      go_region_held3 (fun x => ((x.cell? ⟨w.heap.size, 0, none⟩ = some (.bool s) ∧ x.cell? ⟨w.heap.size, 1, none⟩ = some (.slice A n c) ∧ x.cell? ⟨w.heap.size, 2, none⟩ = some (.int .i64 e)) ∧ (x.cell? ⟨w.heap.size + 1, 0, none⟩ = some (.bool s') ∧ x.cell? ⟨w.heap.size + 1, 1, none⟩ = some (.slice A' n' c') ∧ x.cell? ⟨w.heap.size + 1, 2, none⟩ = some (.int .i64 f)) ∧ Below w.heap.size w x ∧ (w.heap.size < x.heap.size ∧ w.heap.size + 1 < x.heap.size) ∧ Shape x (w.heap.size + 1 + 1)) ∧ U x A2 n2 c2 b) ((first | assumption | exact HS9.out | exact KEEP9.out _ (by assumption) _ _ _ _ _)) (first | (go_at_call 74; refine (HC9.out _ ?_).mono ?_; (assumption); rintro r w' ⟨A3, c3, rfl, hu3, hS⟩; have hS2 := hS; obtain ⟨⟨_, _, _, _, _, hfz, _, _, _, _, _, m0, m1, m2⟩, _⟩ := hS2; have z0 := hfz 0; have z1 := hfz 1; have z2 := hfz 2; clear hfz))
      have OUT := Lib.hid (Two.out (w := w') hS.1 (by omega) hu3 (.bool s') (.slice A3 kv c3) (.int .i64 e))
      clear hS m0 m1 m2 z0 z1 z2 hu3 HC9 KEEP9 HS9 p1 p2 p3 p4 p5 p6 p7 p8
      go_wp2
      refine bodyPost_ret (v := .agg #[.bool s', .slice A3 kv c3, .int .i64 e]) (by simp [results, Try.results45, go_sem, OUT.out.2.2.1, OUT.out.2.2.2.1, OUT.out.2.2.2.2]) rfl ⟨_, rfl, ⟨A3, c3, by rw [HT9.out, HLV.out, HKV.out], by rw [HT9.out, HLV.out, HKV.out]; exact OUT.out.1⟩, OUT.out.2.1⟩
end Go.Proofs.Ytclnmheplecknaa

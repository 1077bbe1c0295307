/-
  Walks: lists of floats that are lent, with marks behind their ends.
-/
import Derived.Test.YtgockebgcbmgoaaSlice
import Derived.Test.YtgockebgcbmgoaaNmul
set_option linter.unusedVariables false
set_option linter.unusedSimpArgs false
namespace Go.Proofs.Ytgockebgcbmgoaa
open Go.ChangeShapes Go.WideShapes Go.ChangeAt Go.RowKit Go.Deep

theorem open_floats2 {H : Type} {enc : TypeId × Value → H} {P : Program} {w : World} {r : Reach} {b0 : Nat} {t e : TypeId} {v : Value} {d : DataW H} {ps : List MemPlace} (ht : P.underlying t = some (.slice e)) (he : P.underlying e = some (.float .f64)) (hc : P.cellsOf e = 1)
    (hval : Value.okWide P w r b0 t v) (hd : DataW.Trod enc P w 0 (fun _ => true) true t v d ps) : ∃ A n c z, v = .slice A n c ∧ FloatSlice w A n c z ∧ (A = none → c = 0) := by
  obtain ⟨A, n, c, z, hv, hf⟩ := open_floats ht he hc hval hd
  subst hv
  refine ⟨A, n, c, z, rfl, hf, fun hA => ?_⟩
  subst hA
  obtain ⟨fuel, hfu⟩ := hd
  rcases open_slice1 ht hc hfu with ⟨hcs, _⟩ | ⟨a, len, cap, m, q, V, D, Pl, hcs, _⟩
  · simp [Value.cells] at hcs
    exact hcs.2
  · simp [Value.cells] at hcs
/-- A list that was lent: the floats, and the marks behind them. -/
def LentAt (w : World) (g n : Nat) (z : Nat → Nat) : Prop := g < w.heap.size ∧ (∀ k, k < n → w.cell? ⟨g, k, none⟩ = some (.float .f64 (z k))) ∧ ∀ i, i < 12 → w.cell? ⟨g, n + i, none⟩ = some (.float .f64 (floatOfInt .f64 (8000024 + (i : Int))))
theorem LentAt.below {w w' : World} {g n : Nat} {z : Nat → Nat} (h : LentAt w g n z) (hb : Below w.heap.size w w') : LentAt w' g n z :=
  ⟨Nat.lt_of_lt_of_le h.1 hb.size, fun k hk => (hb.cell (p := ⟨g, k, none⟩) h.1).trans (h.2.1 k hk), fun i hi => (hb.cell (p := ⟨g, n + i, none⟩) h.1).trans (h.2.2 i hi)⟩
theorem FloatsAt.below {w w' : World} {A : Option Addr} {n : Nat} {z : Nat → Nat} (h : FloatsAt w A n z) (hb : Below w.heap.size w w') : FloatsAt w' A n z := fun k hk => by
  obtain ⟨ad, e, hc⟩ := h k hk
  exact ⟨ad, e, (hb.cell (World.block_lt_of_cell? w _ hc)).trans hc⟩
theorem LentAt.floats {w : World} {g n : Nat} {z : Nat → Nat} (h : LentAt w g n z) : FloatsAt w (some ⟨g, 0, none⟩) n z := fun k hk =>
  ⟨_, rfl, by have := h.2.1 k hk; unfold Addr.add; split
              · rename_i h0; subst h0; exact this
              · simpa using this⟩
theorem f64_info : (Try.prog.info? 22).map (fun i => (i.zero, i.size, i.bytes)) = some (some (.float .f64 0), 1, 8) := by kernel_rfl
theorem mark_any (i : Nat) (hi : i < 1000) (w : World) : Calls Try.prog 46 #[.int .i64 1, .int .i64 i] w fun e w' => e = .returned (.int .i64 (8000024 + (i : Int))) ∧ w = w' := by
  go_enter Try.func46, Try.ntmps46
  go_wp2
  go_ret
  exact ⟨by simp, rfl⟩
/-- The cells of the marks. -/
def mk (i : Nat) : List Value := (List.range i).map fun j : Nat => .float .f64 (floatOfInt .f64 (8000024 + (j : Int)))
theorem mk_succ (i : Nat) : mk (i + 1) = mk i ++ [.float .f64 (floatOfInt .f64 (8000024 + (i : Int)))] := by unfold mk; rw [List.range_succ, List.map_append]; rfl
theorem mk_len (i : Nat) : (mk i).length = i := by unfold mk; simp
/-- The cells of floats. -/
def fc (z : Nat → Nat) (n : Nat) : List Value := (List.range n).map fun j => .float .f64 (z j)
theorem fc_len (z : Nat → Nat) (n : Nat) : (fc z n).length = n := by unfold fc; simp
theorem fc_get {z : Nat → Nat} {n j : Nat} {u : Value} (h : (fc z n)[j]? = some u) : j < n ∧ u = .float .f64 (z j) := by
  have hj : j < n := by have := (List.getElem?_eq_some_iff.1 h).1; rwa [fc_len] at this
  refine ⟨hj, ?_⟩
  unfold fc at h
  rw [List.getElem?_map, List.getElem?_range hj] at h
  exact (Option.some.inj h).symm
theorem fl_cell (w : World) (p : Nat) (t : TypeId) : ([Value.float .f64 p] : List Value).length = 1 * 1 ∧ (∀ j u, ([Value.float .f64 p] : List Value)[j]? = some u → (w.alloc (.cells #[Value.float .f64 p] t)).cell? ((⟨w.heap.size, 0, none⟩ : Addr).add j) = some u) ∧ (∀ u ∈ ([Value.float .f64 p] : List Value), u.oneCell' = true) := by
  refine ⟨rfl, fun j u hu => ?_, fun u hu => ?_⟩
  · rw [cell_new]
    rcases j with _ | j
    · simpa using hu
    · simp at hu
  · simp at hu
    subst hu; rfl
set_option maxRecDepth 100000 in
set_option maxHeartbeats 2000000 in
theorem lent_reals (A : Option Addr) (n c : Nat) (z : Nat → Nat) (w : World) (hn : n ≤ 3000) (hA : A = none → c = 0) (hnc : n ≤ c) (hr : FloatsAt w A n z) :
    Calls Try.prog 20 #[.slice A n c] w fun e w' => ∃ g, e = .returned (.slice (some ⟨g, 0, none⟩) n (n + 12)) ∧ LentAt w' g n z ∧ Below w.heap.size w w' := by
  obtain ⟨i0, hi0, hz0, hz1, hz2⟩ := info_parts f64_info
  have HR := Lib.hid hr
  have HNA := Lib.hid (fun h : A = none => (show n = 0 ∧ c = 0 from ⟨by have := hA h; omega, hA h⟩))
  have HCC : Hid (∀ w1, Below w.heap.size w w1 → Hid (∀ ad, A = some ad → ∀ j u, (fc z n)[j]? = some u → w1.cell? (ad.add j) = some u)) := Lib.hid (fun w1 hb => Lib.hid (fun ad hA j u hu => by
    obtain ⟨hj, rfl⟩ := fc_get hu
    obtain ⟨ad2, e2, hc2⟩ := HR.out.below hb j hj
    rw [hA] at e2
    obtain rfl := Option.some.inj e2
    exact hc2))
  have FCO : Hid (∀ u ∈ fc z n, u.oneCell' = true) := Lib.hid (fun u hu => by obtain ⟨j, hj⟩ := List.getElem?_of_mem hu; rw [(fc_get hj).2]; rfl)
  clear hr hA
  go_enter Try.func20, Try.ntmps20
  go_wp2_with (first
    | (refine wpList_make_own _ rfl (.const (.int .i64 0)) (.tmp 7) 33 rfl w.heap.size 22 i0 _ 1 Try.underlying33 hi0 hz0 hz1 .i64 .i64 _ (n + 12) rfl rfl (by omega) (by rw [hz2]; omega) (by simp only [maxLen]; omega) (Nat.le_refl _) ?_; intro w1 hown1 hg1; have HB1 := Lib.hid ((Below.refl w.heap.size w).grown hg1 (Nat.le_refl _) (fun k hk => by cases hk)); have HOWN1 := Lib.hid hown1; have HC := HCC.out w1 HB1.out; clear hown1 hg1)
    | (at_builtin; refine wpList_append_fits_any _ rfl (.tmp 9) (.tmp 10) 33 rfl w.heap.size 22 i0 1 Try.underlying33 hi0 hz1 w.heap.size 0 (n + 12) [] rfl HOWN1.out A n c (fc z n) rfl (by rw [fc_len]; omega) HNA.out HC.out FCO.out (by omega) ?_; intro w2 hown2 hg2))
  rw [Nat.zero_add, List.nil_append] at hown2
  have HOWN2 := Lib.hid hown2
  have HB2 := Lib.hid (HB1.out.grown hg2 (by have := HB1.out.size; omega) (fun k hk => by cases hk; exact Nat.le_refl _))
  clear hown2 hg2 HOWN1 HC
  go_loopw [3, 4] (fun v t wr => ∃ i : Nat, i ≤ 12 ∧ t = .int .i64 i ∧ v = .slice (some ⟨w.heap.size, 0, none⟩) (n + i) (n + 12) ∧ wr.ownsRow w.heap.size 22 1 (.slice (some ⟨w.heap.size, 0, none⟩) (n + i) (n + 12)) (n + i) (fc z n ++ mk i) ∧ Below w.heap.size w wr) (fun _ t _ => 12 - (intOf t).toNat)
  case atStart => exact ⟨0, by omega, rfl, rfl, by rw [show mk 0 = [] from rfl, List.append_nil]; exact HOWN2.out, HB2.out⟩
  case round =>
    obtain ⟨i, hi, rfl, rfl, hown, hb⟩ := hrel
    have HOWN := Lib.hid hown
    have HB := Lib.hid hb
    clear hown hb
    by_cases hlt : i < 12
    · have OWN2 : Hid (∀ m : Nat, (wr.alloc (.cells #[.float .f64 m] 22)).ownsRow w.heap.size 22 1 (.slice (some ⟨w.heap.size, 0, none⟩) (n + i) (n + 12)) (n + i) (fc z n ++ mk i)) := Lib.hid (fun m => HOWN.out.alloc _)
      have CELLS2 := Lib.hid (fun m => fl_cell wr m 22)
      have HBA : Hid (∀ m : Nat, Below w.heap.size w (wr.alloc (.cells #[.float .f64 m] 22))) := Lib.hid (fun m => HB.out.alloc HB.out.size _)
      go_wp2_with (first
        | (go_at_call 46; refine (mark_any i (by omega) _).mono ?_; rintro e w' ⟨rfl, rfl⟩)
        | (at_builtin; refine wpList_append_fits _ rfl (.tmp 16) (.tmp 20) 33 rfl w.heap.size 22 i0 1 Try.underlying33 hi0 hz1 w.heap.size (n + i) (n + 12) (fc z n ++ mk i) rfl (OWN2.out (floatOfInt .f64 (8000024 + (i : Int)))) ⟨wr.heap.size, 0, none⟩ 1 1 [Value.float .f64 (floatOfInt .f64 (8000024 + (i : Int)))] rfl (CELLS2.out _).1 (CELLS2.out (floatOfInt .f64 (8000024 + (i : Int)))).2.1 (CELLS2.out _).2.2 (by omega) ?_; intro w3 hown3 hg3))
      have HOWN3 : Hid (w3.ownsRow w.heap.size 22 1 (.slice (some ⟨w.heap.size, 0, none⟩) (n + (i + 1)) (n + 12)) (n + (i + 1)) (fc z n ++ mk (i + 1))) := Lib.hid (by rw [mk_succ, ← List.append_assoc]; exact hown3)
      have HB3 := Lib.hid ((HBA.out (floatOfInt .f64 (8000024 + (i : Int)))).grown hg3 (HBA.out (floatOfInt .f64 (8000024 + (i : Int)))).size (fun k hk => by cases hk; exact Nat.le_refl _))
      clear hown3 hg3
      go_wp2
      go_roundw
      case rel => exact ⟨i + 1, by omega, by go_num, rfl, HOWN3.out, HB3.out⟩
      case measure => simp [intOf]; omega
    · have hi12 : i = 12 := by omega
      subst hi12
      have hlent : LentAt wr w.heap.size n z := by
        refine ⟨(World.ownsRow.lt HOWN.out w.heap.size rfl).2, fun k hk => ?_, fun i hi => ?_⟩
        · rw [World.ownsRow.cellAt HOWN.out k (by omega), List.getElem?_append_left (by rw [fc_len]; exact hk)]
          unfold fc
          rw [List.getElem?_map, List.getElem?_range hk]; rfl
        · rw [World.ownsRow.cellAt HOWN.out (n + i) (by omega), List.getElem?_append_right (by rw [fc_len]; omega), fc_len, Nat.add_sub_cancel_left]
          unfold mk
          rw [List.getElem?_map, List.getElem?_range hi]; rfl
      have HL := Lib.hid hlent
      clear hlent HOWN
      go_wp2
      go_ret
      exact ⟨w.heap.size, rfl, HL.out, HB.out⟩
/-- A mark is a float like itself. -/
theorem mark_self (i : Nat) (hi : i < 12) : FloatKind.f64.format.order (floatOfInt .f64 (8000024 + (i : Int))) (floatOfInt .f64 (8000024 + (i : Int))) = some .eq := by
  have h : ∀ j : Fin 12, Fl.rg (floatOfInt .f64 (8000024 + (j.val : Int))) ≤ Fl.I := by decide
  exact Fl.cmp_self _ (h ⟨i, hi⟩)
end Go.Proofs.Ytgockebgcbmgoaa

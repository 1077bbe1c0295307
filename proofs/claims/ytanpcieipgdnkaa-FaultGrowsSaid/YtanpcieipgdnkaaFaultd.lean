/-
  Walks: what the laws of fault use: Pick, tame, is, Nextafter, Roots, awake.
-/
import Derived.Test.YtanpcieipgdnkaaFaultc
set_option linter.unusedVariables false
set_option linter.unusedSimpArgs false
namespace Go.Proofs.Ytanpcieipgdnkaa
open Go.RowKit

theorem ord0_ne (x : Nat) (h : Fl.rg x ≤ Fl.I) (h0 : ¬ Fl.rg x = 0) : (FloatKind.f64.format.order x 0 == some .eq) = false := by
  cases hs : Fl.sg x
  · rw [Fl.cmp0_gt x (by omega) h hs]; rfl
  · rw [Fl.cmp0_lt x (by omega) h hs]; rfl
theorem run_min_fl (x y : Nat) (hx : x ≤ Fl.I) (hy : y ≤ Fl.I) (ts : Array TypeId) (t : TypeId) (w : World) : (Builtin.min_ ts t #[.float .f64 x, .float .f64 y]).run Try.prog w = .ok (.float .f64 (min x y)) w := by
  have ho := Fl.ord_pos x y hx hy
  rw [Fl.compare_int] at ho
  simp only [Builtin.min_, List.foldlM, Builtin.min2]
  rcases Nat.lt_trichotomy x y with h | h | h
  · rw [if_pos (by omega)] at ho
    rw [ho, Nat.min_eq_left (Nat.le_of_lt h)]; rfl
  · subst h
    rw [if_neg (by omega), if_pos rfl] at ho
    rw [ho, Nat.min_self]
    simp
  · rw [if_neg (by omega), if_neg (by omega)] at ho
    rw [ho, Nat.min_eq_right (Nat.le_of_lt h)]; rfl
theorem run_max_fl (x y : Nat) (hx : x ≤ Fl.I) (hy : y ≤ Fl.I) (ts : Array TypeId) (t : TypeId) (w : World) : (Builtin.max_ ts t #[.float .f64 x, .float .f64 y]).run Try.prog w = .ok (.float .f64 (max x y)) w := by
  have ho := Fl.ord_pos x y hx hy
  rw [Fl.compare_int] at ho
  simp only [Builtin.max_, List.foldlM, Builtin.max2]
  rcases Nat.lt_trichotomy x y with h | h | h
  · rw [if_pos (by omega)] at ho
    rw [ho, Nat.max_eq_right (Nat.le_of_lt h)]; rfl
  · subst h
    rw [if_neg (by omega), if_pos rfl] at ho
    rw [ho, Nat.max_self]
    simp
  · rw [if_neg (by omega), if_neg (by omega)] at ho
    rw [ho, Nat.max_eq_left (Nat.le_of_lt h)]; rfl
/-- A tamed size. -/
def Tame (r : Nat) : Prop := r = 0 ∨ (3706462493325918208 ≤ r ∧ r ≤ 5507902344274116608)
theorem tame_any (x : Nat) (w : World) (hx : x < 2 * Fl.W) : Calls Try.prog 20 #[.float .f64 x] w fun e w' => ∃ y, e = .returned (.float .f64 y) ∧ y < 2 * Fl.W ∧ Tame (Fl.rg y) ∧ w = w' := by
  have h3 : Tame (Fl.rg 4613937818241073152) := .inr (by decide)
  have hw3 : (4613937818241073152 : Nat) < 2 * Fl.W := by decide
  have H3 := Lib.hid (And.intro hw3 h3)
  clear h3 hw3
  have HX := Lib.hid hx
  by_cases h0 : Fl.rg x = 0
  · have o0 := Fl.cmp0_eq x h0
    have HT : Hid (Tame (Fl.rg x)) := Lib.hid (.inl h0)
    clear h0
    go_enter Try.func20, Try.ntmps20
    go_wp2_with fail
    refine (abs_any x _ hx).mono ?_
    rintro e w' ⟨rfl, rfl⟩
    clear hx
    go_wp2
    go_ret
    exact ⟨x, rfl, HX.out, HT.out, rfl⟩
  · by_cases hn : Fl.rg x ≤ Fl.I
    · have o0 := ord0_ne x hn h0
      have o1 := Fl.ord_pos (Fl.rg x) 3706462493325918208 hn (by decide)
      have o2 := Fl.ord_pos (Fl.rg x) 5507902344274116608 hn (by decide)
      rw [Fl.compare_int] at o1 o2
      by_cases h1 : Fl.rg x < 3706462493325918208
      · rw [if_pos (by omega)] at o1
        clear o2 h0 hn h1
        go_enter Try.func20, Try.ntmps20
        go_wp2_with fail
        refine (abs_any x _ hx).mono ?_
        rintro e w' ⟨rfl, rfl⟩
        clear hx
        go_wp2
        go_ret
        exact ⟨_, rfl, H3.out.1, H3.out.2, rfl⟩
      · have o1' : FloatKind.f64.format.order (Fl.rg x) 3706462493325918208 = some .gt ∨ FloatKind.f64.format.order (Fl.rg x) 3706462493325918208 = some .eq := by
          rw [if_neg (by omega)] at o1
          split at o1
          · exact .inr o1
          · exact .inl o1
        by_cases h2 : Fl.rg x ≤ 5507902344274116608
        · have o2' : FloatKind.f64.format.order (Fl.rg x) 5507902344274116608 = some .lt ∨ FloatKind.f64.format.order (Fl.rg x) 5507902344274116608 = some .eq := by
            split at o2
            · exact .inl o2
            · rw [if_pos (by omega)] at o2; exact .inr o2
          have HT : Hid (Tame (Fl.rg x)) := Lib.hid (.inr ⟨by omega, h2⟩)
          clear o1 o2 h0 hn h1 h2
          rcases o1' with o1 | o1 <;> rcases o2' with o2 | o2
          all_goals
            go_enter Try.func20, Try.ntmps20
            go_wp2_with fail
            refine (abs_any x _ hx).mono ?_
            rintro e w' ⟨rfl, rfl⟩
            clear hx
            go_wp2
            go_ret
            exact ⟨x, rfl, HX.out, HT.out, rfl⟩
        · rw [if_neg (by omega), if_neg (by omega)] at o2
          clear o1 h0 hn h1 h2
          rcases o1' with o1 | o1
          all_goals
            go_enter Try.func20, Try.ntmps20
            go_wp2_with fail
            refine (abs_any x _ hx).mono ?_
            rintro e w' ⟨rfl, rfl⟩
            clear hx
            go_wp2
            go_ret
            exact ⟨_, rfl, H3.out.1, H3.out.2, rfl⟩
    · have hgt : Fl.I < Fl.rg x := by omega
      have o0 : FloatKind.f64.format.order x 0 = none := Fl.order_nan _ _ (.inl hgt)
      have hrr : Fl.rg (Fl.rg x) = Fl.rg x := Nat.mod_eq_of_lt (Fl.rg_lt x)
      have o1 : FloatKind.f64.format.order (Fl.rg x) 3706462493325918208 = none := Fl.order_nan _ _ (.inl (by rw [hrr]; exact hgt))
      clear h0 hn hgt hrr
      go_enter Try.func20, Try.ntmps20
      go_wp2_with fail
      refine (abs_any x _ hx).mono ?_
      rintro e w' ⟨rfl, rfl⟩
      clear hx
      go_wp2
      go_ret
      exact ⟨_, rfl, H3.out.1, H3.out.2, rfl⟩
theorem pick_any (x n : Int) (w : World) (hn : 1 ≤ n) (hn2 : n ≤ 1000000) (hx1 : -9223372036854775808 ≤ x) (hx2 : x ≤ 9223372036854775807) : Calls Try.prog 18 #[.int .i64 x, .int .i64 n] w fun e w' => ∃ k : Nat, e = .returned (.int .i64 (k : Int)) ∧ (k : Int) < n ∧ w = w' := by
  have hq1 : ¬ n < 1 := by omega
  have hlt : -n < Int.tmod x n ∧ Int.tmod x n < n := ⟨Int.lt_tmod_of_pos x (by omega), Int.tmod_lt_of_pos x (by omega)⟩
  have hnz : n ≠ 0 := by omega
  have hnz2 : (n == 0) = false := by simpa using hnz
  by_cases hneg : Int.tmod x n < 0
  · obtain ⟨k, hk⟩ : ∃ k : Nat, Int.tmod x n + n = (k : Int) := ⟨(Int.tmod x n + n).toNat, by omega⟩
    have hk2 : (k : Int) < n := by omega
    have hw : IntKind.i64.wrap (Int.tmod x n + n) = (k : Int) := by rw [IntKind.wrap_i64]; omega
    have HK := Lib.hid hk2
    have HKE := Lib.hid hk
    generalize hr : Int.tmod x n = r at *
    have HR := Lib.hid hr
    go_enter Try.func18, Try.ntmps18
    go_wp2
    go_ret
    exact ⟨k, by first | rfl | (simp only [HKE.out]; rfl), HK.out, rfl⟩
  · obtain ⟨k, hk⟩ : ∃ k : Nat, Int.tmod x n = (k : Int) := ⟨(Int.tmod x n).toNat, by omega⟩
    have hk2 : (k : Int) < n := by omega
    have hw : ¬ (k : Int) < 0 := by omega
    have HK := Lib.hid hk2
    rw [hk] at hneg hlt
    go_enter Try.func18, Try.ntmps18
    go_wp2
    go_ret
    exact ⟨k, rfl, HK.out, rfl⟩
theorem is_yes (x want : Nat) (e f : Int) (w : World) (h : Fl.Same x want) (he : e = f) : Calls Try.prog 8 #[.float .f64 x, .int .i64 e, .float .f64 want, .int .i64 f] w fun r w' => r = .returned (.bool true) ∧ w = w' := by
  subst he
  have hs := fun w => same_yes x want w h
  have HS := Lib.hid hs
  clear hs h
  go_enter Try.func8, Try.ntmps8
  go_wp2_with fail
  refine (HS.out _).mono ?_
  rintro e w' ⟨rfl, rfl⟩
  go_wp2
  go_ret
  exact ⟨rfl, rfl⟩
theorem nextafter_up (x y : Nat) (w : World) (hx : 0 < x) (hxy : x < y) (hy : y ≤ Fl.I) : Calls Try.prog 15 #[.float .f64 x, .float .f64 y] w fun e w' => e = .returned (.float .f64 (x + 1)) ∧ w = w' := by
  have hIW := Fl.I_lt_W
  have rx : Fl.rg x = x := Nat.mod_eq_of_lt (by omega)
  have ry : Fl.rg y = y := Nat.mod_eq_of_lt (by omega)
  have nx := fun w => isnan_no x w (by rw [rx]; omega)
  have ny := fun w => isnan_no y w (by rw [ry]; exact hy)
  have o1 : FloatKind.f64.format.order x y = some .lt := by rw [Fl.ord_pos x y (by omega) hy, Fl.compare_int, if_pos (by omega)]
  have o2 : FloatKind.f64.format.order y x = some .gt := by rw [Fl.ord_pos y x hy (by omega), Fl.compare_int, if_neg (by omega), if_neg (by omega)]
  have o3 : FloatKind.f64.format.order x 0 = some .gt := by
    have e := Fl.ord_pos x 0 (by omega) (Nat.zero_le _)
    rw [Fl.compare_int, if_neg (by omega), if_neg (by omega)] at e
    exact e
  have hb := run_bits x
  have hf := fun n => run_from n
  have hw : IntKind.u64.wrap ((x : Int) + 1) = ((x + 1 : Nat) : Int) := by rw [IntKind.wrap_u64]; unfold Fl.I at hy; omega
  have NX := Lib.hid nx
  have NY := Lib.hid ny
  have HT : Hid ((((x + 1 : Nat) : Int)).toNat = x + 1) := Lib.hid (by omega)
  clear nx ny rx ry hIW hx hxy hy
  go_enter Try.func15, Try.ntmps15
  go_wp2_with fail
  refine (NX.out _).mono ?_
  rintro e w' ⟨rfl, rfl⟩
  go_wp2_with fail
  refine (NY.out _).mono ?_
  rintro e w' ⟨rfl, rfl⟩
  go_wp2
  go_ret
  exact ⟨ret_fl (by first | rfl | exact HT.out | omega), rfl⟩
theorem roots_any (order : Int) (w : World) : Calls Try.prog 6 #[.int .i64 order] w fun e w' => e = .returned (.tuple #[.float .f64 (if order < 0 ∨ 14 < order then 0 else 4368491638549381120), .int .i64 (if order < 0 ∨ 14 < order then 2 else 0)]) ∧ w = w' := by
  have hm := fun w => may_any order none 0 0 (fun _ => 0) w (by decide) (fun _ => by decide) (fun k hk => absurd hk (Nat.not_lt_zero k))
  have hv : mayV order 0 (fun _ => 0) = if order < 0 ∨ 14 < order then 2 else 0 := by
    unfold mayV; split <;> rfl
  rw [hv] at hm
  by_cases h : order < 0 ∨ 14 < order
  · rw [if_pos h] at hm
    rw [if_pos h, if_pos h]
    have HM := Lib.hid hm
    clear hm hv h
    go_enter Try.func6, Try.ntmps6
    go_wp2_with fail
    refine (HM.out _).mono ?_
    rintro e w' ⟨rfl, rfl⟩
    go_wp2
    go_ret2
    exact ⟨rfl, rfl⟩
  · rw [if_neg h] at hm
    rw [if_neg h, if_neg h]
    have HM := Lib.hid hm
    clear hm hv h
    go_enter Try.func6, Try.ntmps6
    go_wp2_with fail
    refine (HM.out _).mono ?_
    rintro e w' ⟨rfl, rfl⟩
    go_wp2
    go_ret2
    exact ⟨rfl, rfl⟩
/-! ### the closed answers -/
theorem closed_t : ∃ u, Fl.mulS (tC 1) 4607182418800017408 true = some u ∧ Fl.addS u 103582791429521408 true = some 4386506037058863105 := by
  refine ⟨(Fl.mulS (tC 1) 4607182418800017408 true).getD 0, ?_, ?_⟩ <;> decide +kernel
theorem closed_tm : mayV 1 1 (fun _ => 4607182418800017408) = 0 := by decide +kernel
theorem closed_rm : mayV 10 2 (z2 4670232813583204352 4670232813583204352) = 0 := by decide +kernel
def cr1 : Nat := (Fl.mulS (rC 10) (rS 10) true).getD 0
def cr2 : Nat := (Fl.mulS cr1 4670232813583204352 true).getD 0
def cr3 : Nat := (Fl.mulS cr2 4670232813583204352 true).getD 0
theorem closed_r : Fl.mulS (rC 10) (rS 10) true = some cr1 ∧ Fl.mulS cr1 4670232813583204352 true = some cr2 ∧ Fl.mulS cr2 4670232813583204352 true = some cr3 ∧ Fl.addS cr3 103582791429521408 true = some 4595360469778169857 ∧ Fl.rg 4595360469778169857 ≠ Fl.I := by decide +kernel
theorem z3_0 (s a b : Nat) : z3 s a b 0 = s := rfl
theorem z3_1 (s a b : Nat) : z3 s a b 1 = a := rfl
theorem z3_2 (s a b : Nat) : z3 s a b 2 = b := rfl
theorem Is_some {o : Option Nat} {r s : Nat} (h : Fl.Is o s) (ho : o = some r) : s = r := by rw [ho] at h; exact h
set_option maxRecDepth 100000 in
set_option maxHeartbeats 4000000 in
theorem awake9_any (w : World) : Calls Try.prog 13 #[] w fun e w' => e = .returned (.bool true) ∧ Below w.heap.size w w' := by
  have HT : Hid (∀ w, Calls Try.prog 9 #[.int .i64 1, .float .f64 4607182418800017408] w fun e w' => e = .returned (.tuple #[.float .f64 4386506037058863105, .int .i64 0]) ∧ Below w.heap.size w w') := Lib.hid (fun w => by
    refine (turn_any 1 4607182418800017408 w (by decide)).mono ?_
    rintro e w' ⟨s, he, _, h0, hb⟩
    obtain ⟨u, hu, hs⟩ := h0 closed_tm
    rw [show (1 : Int).toNat = 1 from rfl] at hu
    obtain ⟨u', e1, e2⟩ := closed_t
    have := Is_some hu e1
    subst this
    have := Is_some hs e2
    subst this
    rw [closed_tm] at he
    exact ⟨he, hb⟩)
  have HR : Hid (∀ w, Calls Try.prog 11 #[.int .i64 10, .float .f64 4670232813583204352, .float .f64 4670232813583204352] w fun e w' => e = .returned (.tuple #[.float .f64 4595360469778169857, .int .i64 0]) ∧ Below w.heap.size w w') := Lib.hid (fun w => by
    refine (ring_any 10 4670232813583204352 4670232813583204352 w (by decide) (by decide)).mono ?_
    rintro e w' ⟨s, T, he, _, h0, hb⟩
    rw [show (10 : Int).toNat = 10 from rfl] at h0
    obtain ⟨u, r, ⟨u2, ⟨u1, ⟨u0, h00, h1⟩, h2⟩, h3⟩, hr, hor⟩ := h0 closed_rm
    rw [z3_0] at h1
    rw [z3_1] at h2
    rw [z3_2] at h3
    obtain ⟨c1, c2, c3, c4, c5⟩ := closed_r
    have e0 : u0 = rC 10 := h00
    rw [e0, c1] at h1
    have e1 : u1 = cr1 := h1
    rw [e1, c2] at h2
    have e2 : u2 = cr2 := h2
    rw [e2, c3] at h3
    have e3 : u = cr3 := h3
    rw [e3] at hr
    rw [c4] at hr
    have e4 : r = 4595360469778169857 := hr
    subst e4
    rcases hor with ⟨h, _⟩ | ⟨_, rfl, rfl⟩
    · exact absurd h c5
    · exact ⟨he, hb⟩)
  have HO := Lib.hid (fun w => roots_any 14 w)
  have N1 := Lib.hid (fun w => nextafter_up 4386506037058863104 4607182418800017408 w (by decide) (by decide) (by decide))
  have N2 := Lib.hid (fun w => nextafter_up 4595360469778169856 4607182418800017408 w (by decide) (by decide) (by decide))
  go_enter Try.func13, Try.ntmps13
  go_wp2_with fail
  refine (HT.out _).mono ?_
  rintro e w1 ⟨rfl, hb⟩
  have HB1 := Lib.hid hb
  clear hb
  go_wp2_with fail
  refine (HR.out _).mono ?_
  rintro e w2 ⟨rfl, hb⟩
  have HB2 := Lib.hid (HB1.out.trans (hb.mono HB1.out.size))
  clear hb
  go_wp2_with fail
  refine (HO.out _).mono ?_
  rintro e w' ⟨rfl, rfl⟩
  go_wp2_with fail
  refine (N1.out _).mono ?_
  rintro e w' ⟨rfl, rfl⟩
  go_wp2_with fail
  refine (is_yes _ _ _ _ _ (.inl rfl) rfl).mono ?_
  rintro e w' ⟨rfl, rfl⟩
  go_wp2_with fail
  refine (N2.out _).mono ?_
  rintro e w' ⟨rfl, rfl⟩
  go_wp2_with fail
  refine (is_yes _ _ _ _ _ (.inl rfl) rfl).mono ?_
  rintro e w' ⟨rfl, rfl⟩
  go_wp2_with fail
  refine (is_yes _ _ _ _ _ (.inl rfl) rfl).mono ?_
  rintro e w' ⟨rfl, rfl⟩
  go_wp2
  go_ret
  exact ⟨rfl, HB2.out⟩
end Go.Proofs.Ytanpcieipgdnkaa

/-
  Walks: the reference's side and compare.
-/
import Derived.Test.YtgockebgcbmgoaaNumg
import Derived.Test.YtgockebgcbmgoaaNump
import Derived.Test.YtgockebgcbmgoaaDirb
set_option linter.unusedVariables false
set_option linter.unusedSimpArgs false
namespace Go.Proofs.Ytgockebgcbmgoaa
open Go.RowKit

/-- An order as Go tells it. -/
def oi : Ordering → Int
  | .lt => -1
  | .eq => 0
  | .gt => 1
theorem ordI_oi (a b : Int) : Nt.ordI a b = oi (compare a b) := by
  rw [Fl.compare_int]; unfold Nt.ordI; split
  · rfl
  · split <;> rfl
/-- Sizes and exponents that all of this chapter's numbers have. -/
def Small (N : Nat) (e : Int) : Prop := (∃ p, p ≤ 5000 ∧ N < 2 ^ p) ∧ -5000 ≤ e ∧ e ≤ 5000
theorem Small.len {N : Nat} {e : Int} (h : Small N e) : (Nt.dg 18446744073709551616 N).length ≤ 100 := by
  obtain ⟨⟨p, hp, hN⟩, _⟩ := h
  have := Nt.len_of_lt N p hN
  omega
theorem Small.plus {N M : Nat} {e f : Int} (h : Small N e) (h' : Small M f) (s s' : Bool) : (Nt.dg 18446744073709551616 (plusN s N e s' M f).2.1).length ≤ 1000 := by
  obtain ⟨⟨p, hp, hN⟩, h1, h2⟩ := h
  obtain ⟨⟨q, hq, hM⟩, h3, h4⟩ := h'
  have hN' : N < 2 ^ (p + q) := Nat.lt_of_lt_of_le hN (Nat.pow_le_pow_right (by decide) (by omega))
  have hM' : M < 2 ^ (p + q) := Nat.lt_of_lt_of_le hM (Nat.pow_le_pow_right (by decide) (by omega))
  have := Nt.len_of_lt _ _ (Nt.plusN_lt s N e s' M f (p + q) 10000 hN' hM' (by omega) (by omega))
  omega
theorem compare_b (v : Value) (s : Bool) (N : Nat) (e : Int) (v' : Value) (s' : Bool) (M : Nat) (f : Int) (K : Int) (w : World) (hv : NumV w v s N e) (hv' : NumV w v' s' M f) (h : Small N e) (h' : Small M f) (he : 0 ≤ e + K) (hf : 0 ≤ f + K) :
    Calls Try.prog 61 #[v, v'] w fun r w' => r = .returned (.int .i64 (oi (compare (Nt.nv s N e K) (Nt.nv s' M f K)))) ∧ Below w.heap.size w w' := by
  have hl := h.len
  have hl' := h'.len
  have hp := h.plus h' s (!s')
  have hc := compare_any v s N e v' s' M f w hv hv' (by omega) (by omega) (by omega) (by have := h.2; omega) (by have := h.2; omega) (by have := h'.2; omega) (by have := h'.2; omega)
  rwa [Nt.cmpN_val s N e s' M f K he hf, ordI_oi] at hc
theorem float_small (x : Nat) (hx : Fl.rg x ≤ Fl.I) : Small (Fl.mant (Fl.rg x)) (Fl.pl x) := by
  refine ⟨⟨53, by decide, ?_⟩, ?_, ?_⟩
  · have := Fl.mant_lt (Fl.rg x); unfold Fl.B at this; exact this
  · unfold Fl.pl; omega
  · unfold Fl.pl Fl.ex; unfold Fl.I at hx; unfold Fl.B; omega
theorem float_small_any (x : Nat) (hx : x < 2 * Fl.W) : Small (Fl.mant (Fl.rg x)) (Fl.pl x) := by
  refine ⟨⟨53, by decide, ?_⟩, ?_, ?_⟩
  · have := Fl.mant_lt (Fl.rg x); unfold Fl.B at this; exact this
  · unfold Fl.pl; omega
  · unfold Fl.pl Fl.ex
    have h := Fl.rg_lt x
    unfold Fl.W at h; unfold Fl.B; omega

/-! ### side -/
theorem rside_any (near : Nat) (c : Ordering) (up : Bool) (w : World) (hn : near < 2 * Fl.W) :
    Calls Try.prog 56 #[.float .f64 near, .int .i64 (oi c), .bool up] w fun e w' => e = .returned (.float .f64 (Fl.sideW near c (Fl.next near up) up)) ∧ w = w' := by
  have hx := rnext_any near up
  unfold Fl.sideW
  cases up <;> cases c
  all_goals
    simp only [reduceCtorEq, false_and, and_false, and_true, true_and, or_false, false_or, or_true, if_true, if_false]
    unfold oi
    go_enter Try.func56, Try.ntmps56
    go_wp2_with (go_at_call 17; refine (rnext_any _ _ _ hn).mono ?_; rintro e w' ⟨rfl, rfl⟩)
    go_ret
    exact ⟨rfl, rfl⟩

/-! ### compare -/
/-- How a number stands to a float, which may be an infinity. -/
def cF (s : Bool) (N : Nat) (e : Int) (f : Nat) (K : Int) : Ordering := if Fl.rg f = Fl.I then (if Fl.sg f then .gt else .lt) else compare (Nt.nv s N e K) (Nt.nv (Fl.sg f) (Fl.mant (Fl.rg f)) (Fl.pl f) K)
theorem Fl.lt_most (x : Nat) (hx : x < 2 * Fl.W) : (FloatKind.f64.format.order x 18442240474082181119 == some .lt) = (decide (Fl.rg x = Fl.I) && Fl.sg x) := by
  rcases Nat.lt_or_ge Fl.I (Fl.rg x) with h | h
  · have e : FloatKind.f64.format.order x 18442240474082181119 = none := Fl.order_nan _ _ (.inl h)
    rw [e, decide_eq_false (by omega)]; rfl
  · have e : FloatKind.f64.format.order x 18442240474082181119 = some (compare (Fl.key x) (Fl.key 18442240474082181119)) := Fl.order_key _ _ h (by decide)
    have k : Fl.key 18442240474082181119 = -9218868437227405311 := by decide
    rw [e, k, Fl.compare_int]
    unfold Fl.key Fl.I at *
    cases Fl.sg x
    · simp only [Bool.false_eq_true, if_false]
      rw [if_neg (by omega)]
      split <;> simp
    · by_cases h1 : Fl.rg x = 9218868437227405312
      · rw [h1]; decide
      · simp only [if_true]
        rw [decide_eq_false h1]
        by_cases h2 : -(Fl.rg x : Int) < -9218868437227405311
        · omega
        · rw [if_neg h2]; split <;> rfl
set_option maxRecDepth 400000 in
set_option maxHeartbeats 4000000 in
theorem rcompare_any (v : Value) (s : Bool) (N : Nat) (e : Int) (f : Nat) (K : Int) (w : World) (hv : NumV w v s N e) (h : Small N e) (he : 0 ≤ e + K) (hK : 1074 ≤ K) (hf : f < 2 * Fl.W) (hfi : Fl.rg f ≤ Fl.I) :
    Calls Try.prog 57 #[v, .float .f64 f] w fun r w' => r = .returned (.int .i64 (oi (cF s N e f K))) ∧ Below w.heap.size w w' := by
  have hflt := fun x => float_any f x hf
  have hcmp := fun x u (hb : Below w.heap.size w x) (hu : NumV x u (Fl.sg f) (Fl.mant (Fl.rg f)) (Fl.pl f)) => compare_b v s N e u _ _ _ K x (hv.below hb) hu h (float_small f hfi) he (by unfold Fl.pl; omega)
  have hgm := Fl.gt_most f
  have hlm := Fl.lt_most f hf
  obtain ⟨A, c, rfl, hu⟩ := hv
  have HFL := Lib.hid hflt
  have HCM := Lib.hid hcmp
  clear hflt hcmp hu
  generalize (Nt.dg 18446744073709551616 N).length = n at *
  unfold cF
  have HB1 := Lib.hid ((Below.refl w.heap.size w).alloc (Nat.le_refl _) (.cells #[.bool s, .slice A n c, .int .i64 e] 61))
  by_cases hI : Fl.rg f = Fl.I
  · rw [if_pos hI]
    rw [decide_eq_true hI] at hgm hlm
    cases hs : Fl.sg f
    · rw [hs] at hgm hlm
      simp only [Bool.not_false, Bool.true_and, Bool.and_false] at hgm hlm
      clear hI hs hfi
      go_enter Try.func57, Try.ntmps57
      go_wp2
      go_ret
      exact ⟨rfl, HB1.out⟩
    · rw [hs] at hgm hlm
      simp only [Bool.not_true, Bool.true_and, Bool.and_false, Bool.and_true] at hgm hlm
      clear hI hs hfi
      go_enter Try.func57, Try.ntmps57
      go_wp2
      go_ret
      exact ⟨rfl, HB1.out⟩
  · rw [if_neg hI]
    rw [decide_eq_false hI] at hgm hlm
    simp only [Bool.false_and] at hgm hlm
    obtain ⟨T, hT⟩ : ∃ T, T = oi (compare (Nt.nv s N e K) (Nt.nv (Fl.sg f) (Fl.mant (Fl.rg f)) (Fl.pl f) K)) := ⟨_, rfl⟩
    rw [← hT] at HCM ⊢
    clear hI hfi hT
    go_enter Try.func57, Try.ntmps57
    go_wp2_with fail
    obtain ⟨W, hW⟩ : ∃ W, W = w.alloc (.cells #[.bool s, .slice A n c, .int .i64 e] 61) := ⟨_, rfl⟩
    obtain ⟨k0, k1, k2, hbw⟩ := new_cells w W _ _ _ _ (by rw [hW]; exact Below.refl _ _)
    have hgW : w.heap.size < W.heap.size := by rw [hW]; exact alloc_lt w _
    rw [← hW] at HB1 ⊢
    clear hW
    have HS0 : Hid ((W.drew.cell? ⟨w.heap.size, 0, none⟩ = some (.bool s) ∧ W.drew.cell? ⟨w.heap.size, 1, none⟩ = some (.slice A n c) ∧ W.drew.cell? ⟨w.heap.size, 2, none⟩ = some (.int .i64 e)) ∧ Below w.heap.size w W.drew ∧ w.heap.size < W.drew.heap.size) := Lib.hid ⟨⟨k0, k1, k2⟩, HB1.out.drew, hgW⟩
    have HC1 : Hid (∀ x, ((x.cell? ⟨w.heap.size, 0, none⟩ = some (.bool s) ∧ x.cell? ⟨w.heap.size, 1, none⟩ = some (.slice A n c) ∧ x.cell? ⟨w.heap.size, 2, none⟩ = some (.int .i64 e)) ∧ Below w.heap.size w x ∧ w.heap.size < x.heap.size) → Calls Try.prog 59 #[.float .f64 f] x fun r w' => ∃ u, r = .returned u ∧ NumV w' u (Fl.sg f) (Fl.mant (Fl.rg f)) (Fl.pl f) ∧ ((w'.cell? ⟨w.heap.size, 0, none⟩ = some (.bool s) ∧ w'.cell? ⟨w.heap.size, 1, none⟩ = some (.slice A n c) ∧ w'.cell? ⟨w.heap.size, 2, none⟩ = some (.int .i64 e)) ∧ Below w.heap.size w w' ∧ w.heap.size < w'.heap.size)) :=
      Lib.hid (fun x hx => (HFL.out x).mono fun r w' ⟨u, h1, h2, h3⟩ => ⟨u, h1, h2, Cells3.below hx.1 hx.2.2 h3, hx.2.1.trans (h3.mono hx.2.1.size), Nat.lt_of_lt_of_le hx.2.2 h3.size⟩)
    have HC2 : Hid (∀ x u, ((x.cell? ⟨w.heap.size, 0, none⟩ = some (.bool s) ∧ x.cell? ⟨w.heap.size, 1, none⟩ = some (.slice A n c) ∧ x.cell? ⟨w.heap.size, 2, none⟩ = some (.int .i64 e)) ∧ Below w.heap.size w x ∧ w.heap.size < x.heap.size) → NumV x u (Fl.sg f) (Fl.mant (Fl.rg f)) (Fl.pl f) → Calls Try.prog 61 #[.agg #[.bool s, .slice A n c, .int .i64 e], u] x fun r w' => r = .returned (.int .i64 T) ∧ ((w'.cell? ⟨w.heap.size, 0, none⟩ = some (.bool s) ∧ w'.cell? ⟨w.heap.size, 1, none⟩ = some (.slice A n c) ∧ w'.cell? ⟨w.heap.size, 2, none⟩ = some (.int .i64 e)) ∧ Below w.heap.size w w' ∧ w.heap.size < w'.heap.size)) :=
      Lib.hid (fun x u hx hu => (HCM.out x u hx.2.1 hu).mono fun r w' ⟨h1, h3⟩ => ⟨h1, Cells3.below hx.1 hx.2.2 h3, hx.2.1.trans (h3.mono hx.2.1.size), Nat.lt_of_lt_of_le hx.2.2 h3.size⟩)
    go_region_held3 (fun x => (x.cell? ⟨w.heap.size, 0, none⟩ = some (.bool s) ∧ x.cell? ⟨w.heap.size, 1, none⟩ = some (.slice A n c) ∧ x.cell? ⟨w.heap.size, 2, none⟩ = some (.int .i64 e)) ∧ Below w.heap.size w x ∧ w.heap.size < x.heap.size) ((first | assumption | exact HS0.out)) (first | (go_at_call 59; refine (HC1.out _ ?_).mono ?_; (assumption); rintro r w' ⟨u, rfl, hu, hS⟩) | (go_at_call 61; refine (HC2.out _ _ ?_ ?_).mono ?_; (assumption); (assumption); rintro r w' ⟨rfl, hS2⟩))
    have HB9 := Lib.hid hS2.2.1
    clear hS2 HS0 HC1 HC2 k0 k1 k2 hbw
    go_wp2
    go_ret
    exact ⟨rfl, HB9.out⟩
end Go.Proofs.Ytgockebgcbmgoaa

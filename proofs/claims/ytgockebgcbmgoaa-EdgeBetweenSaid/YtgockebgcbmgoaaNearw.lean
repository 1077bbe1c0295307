/-
  The walk of EdgeNear: it answers true.
-/
import Derived.Test.YtgockebgcbmgoaaStepsw
set_option linter.unusedVariables false
set_option linter.unusedSimpArgs false
namespace Go.Proofs.Ytgockebgcbmgoaa
open Go.RowKit

theorem Fl.rg_key (w : Nat) : Fl.rg w = (Fl.key w).natAbs := by unfold Fl.key; split <;> omega
theorem Fl.key_wd (s : Bool) (r : Nat) (h : r < Fl.W) : Fl.key (Fl.wd s r) = if s then -(r : Int) else (r : Int) := by
  unfold Fl.key; rw [Fl.sg_wd s r h, Fl.rg_wd s r h]
/-- A step: one rung. -/
theorem Fl.key_next (x : Nat) (up : Bool) (hx : x < 2 * Fl.W) (h : Fl.rg x ≤ Fl.I) (hs : ¬ (Fl.rg x = Fl.I ∧ up = !Fl.sg x)) : Fl.key (Fl.next x up) = Fl.key x + (if up then 1 else -1) ∧ Fl.rg (Fl.next x up) ≤ Fl.I := by
  have hIW : Fl.I + 1 < Fl.W := by decide
  have key : Fl.key (Fl.next x up) = Fl.key x + (if up then 1 else -1) := by
    unfold Fl.next
    rw [if_neg (by omega), if_neg hs]
    have hw := Fl.wd_sg_rg x hx
    by_cases h0 : Fl.rg x = 0
    · rw [if_pos h0]
      have : Fl.key x = 0 := by unfold Fl.key; rw [h0]; simp
      rw [this]
      cases up <;> decide
    · rw [if_neg h0]
      cases hsg : Fl.sg x
      · rw [hsg] at hw
        have hxr : x = Fl.rg x := hw.symm
        have hk : Fl.key x = Fl.rg x := by unfold Fl.key; rw [hsg]; rfl
        cases up
        · rw [if_neg (by simp), hk]
          have : x - 1 = Fl.wd false (Fl.rg x - 1) := by unfold Fl.wd; simp; omega
          rw [this, Fl.key_wd _ _ (by omega)]; simp; omega
        · rw [if_pos (by simp), hk]
          have : x + 1 = Fl.wd false (Fl.rg x + 1) := by unfold Fl.wd; simp; omega
          rw [this, Fl.key_wd _ _ (by omega)]; simp
      · rw [hsg] at hw
        have hxr : x = Fl.W + Fl.rg x := hw.symm
        have hk : Fl.key x = -(Fl.rg x : Int) := by unfold Fl.key; rw [hsg]; rfl
        cases up
        · rw [if_pos (by simp), hk]
          have : x + 1 = Fl.wd true (Fl.rg x + 1) := by unfold Fl.wd; simp; omega
          rw [this, Fl.key_wd _ _ (by omega)]; simp; omega
        · rw [if_neg (by simp), hk]
          have : x - 1 = Fl.wd true (Fl.rg x - 1) := by unfold Fl.wd; simp; omega
          rw [this, Fl.key_wd _ _ (by omega)]; simp; omega
  refine ⟨key, ?_⟩
  rw [Fl.rg_key, key]
  have hk : Fl.key x = if Fl.sg x then -(Fl.rg x : Int) else (Fl.rg x : Int) := rfl
  cases hsg : Fl.sg x <;> rw [hsg] at hk hs <;> simp only [Bool.false_eq_true, if_false, if_true] at hk
  · cases up
    · simp only [Bool.false_eq_true, if_false]
      have : Fl.I ≠ 0 := by decide
      omega
    · simp only [if_true]
      have : Fl.rg x ≠ Fl.I := fun h2 => hs ⟨h2, rfl⟩
      omega
  · cases up
    · simp only [Bool.false_eq_true, if_false]
      have : Fl.rg x ≠ Fl.I := fun h2 => hs ⟨h2, rfl⟩
      omega
    · simp only [if_true]
      have : Fl.I ≠ 0 := by decide
      omega
/-- A step that moves, and the step back. -/
theorem Fl.step_back (x : Nat) (up : Bool) (hx : x < 2 * Fl.W) (h : Fl.rg x ≤ Fl.I) (hs : ¬ (Fl.rg x = Fl.I ∧ up = !Fl.sg x)) :
    FloatKind.f64.format.order (Fl.next x up) x = some (if up then .gt else .lt) ∧ Fl.Like (Fl.next (Fl.next x up) (!up)) x := by
  obtain ⟨h1, h2⟩ := Fl.key_next x up hx h hs
  constructor
  · rw [show FloatKind.f64.format.order (Fl.next x up) x = _ from Fl.order_key _ _ h2 h, h1, Fl.compare_int]
    cases up
    · simp only [Bool.false_eq_true, if_false]; rw [if_pos (by omega)]
    · simp only [if_true]; rw [if_neg (by omega), if_neg (by omega)]
  · have hs2 : ¬ (Fl.rg (Fl.next x up) = Fl.I ∧ (!up) = !Fl.sg (Fl.next x up)) := by
      rintro ⟨h3, h4⟩
      have h5 : Fl.sg (Fl.next x up) = up := by simpa using h4.symm
      have h6 : Fl.key (Fl.next x up) = if up then -(Fl.I : Int) else (Fl.I : Int) := by unfold Fl.key; rw [h5, h3]
      rw [h1] at h6
      have h7 : -(Fl.I : Int) ≤ Fl.key x ∧ Fl.key x ≤ Fl.I := by unfold Fl.key; split <;> omega
      cases up
      · simp only [Bool.false_eq_true, if_false] at h6; omega
      · simp only [if_true] at h6; omega
    obtain ⟨h3, h4⟩ := Fl.key_next (Fl.next x up) (!up) (Fl.next_lt x up hx) h2 hs2
    left
    refine ⟨h4, h, ?_⟩
    rw [h3, h1]
    cases up
    · simp only [Bool.false_eq_true, if_false, Bool.not_false, if_true]; omega
    · simp only [Bool.false_eq_true, if_false, Bool.not_true, if_true]; omega

/-! ### the nearest whole number -/
theorem Fl.whI_int (s : Bool) (k : Nat) (hk : k ≤ 9007199254740992) : Fl.isW (floatOfInt .f64 (Fl.sgi s k)) = true ∧ Fl.whI (floatOfInt .f64 (Fl.sgi s k)) = Fl.sgi s k ∧ floatOfInt .f64 (Fl.sgi s k) < 2 * Fl.W ∧ Fl.rg (floatOfInt .f64 (Fl.sgi s k)) < Fl.I ∧ Fl.vl (floatOfInt .f64 (Fl.sgi s k)) = if s then -((k * Fl.U : Nat) : Int) else ((k * Fl.U : Nat) : Int) := by
  rw [Fl.ofInt_sgi]
  obtain ⟨h1, h2⟩ := Fl.whole_rr k hk
  have hr := Fl.rg_rnd (s && decide (0 < k)) (k * Fl.U)
  have hw : Fl.wh (Fl.rnd (s && decide (0 < k)) (k * Fl.U)) = k := by
    unfold Fl.wh; rw [hr, h1]; exact Nat.mul_div_cancel _ Fl.U_pos
  have hc : Fl.rg (Fl.rnd (s && decide (0 < k)) (k * Fl.U)) ≤ Fl.c53 := by
    rw [hr, ← Fl.rv_le_iff, h1, Fl.rv_c53]; exact Nat.mul_le_mul_right _ hk
  have hy := isW_yes _ ⟨hc, by rw [hw, hr, h1]⟩
  refine ⟨hy, ?_, Fl.rnd_lt _ _, by rw [hr]; exact h2, ?_⟩
  · unfold Fl.whI; rw [hy, hw, Fl.sg_rnd]
    unfold Fl.sgi
    by_cases h : 0 < k
    · rw [decide_eq_true h, Bool.and_true]; rfl
    · have : k = 0 := by omega
      subst this; cases s <;> simp
  · unfold Fl.vl
    rw [hr, h1, Fl.sg_rnd]
    by_cases h : 0 < k
    · rw [decide_eq_true h, Bool.and_true]
    · have : k = 0 := by omega
      subst this; cases s <;> simp
theorem Fl.dist_nk_rep (x : Nat) (h : Fl.rg x ≤ Fl.c53) : Fl.rv (Fl.rr (Fl.dist (Fl.rv (Fl.rg x)) (Fl.nk x))) = Fl.dist (Fl.rv (Fl.rg x)) (Fl.nk x) ∧ Fl.rr (Fl.dist (Fl.rv (Fl.rg x)) (Fl.nk x)) < Fl.I := by
  have hc := Fl.c53_lt
  have hn := Fl.nk_near x
  by_cases hd : Fl.dist (Fl.rv (Fl.rg x)) (Fl.nk x) = 0
  · rw [hd, Fl.rr_zero, Fl.rv_zero]; exact ⟨rfl, by decide⟩
  · have hle : Fl.dist (Fl.rv (Fl.rg x)) (Fl.nk x) ≤ Fl.rv (Fl.rg x) := by
      rcases Nat.eq_zero_or_pos (Fl.nk x) with h0 | h0
      · unfold Fl.dist; rw [h0, Nat.zero_mul]; omega
      · obtain ⟨m, hm⟩ : ∃ m, Fl.nk x = m + 1 := ⟨Fl.nk x - 1, by omega⟩
        have h1 := hn.1
        have h3 := hn.2.2.1
        unfold Fl.dist
        rw [hm] at h1 h3 ⊢
        have e1 : (2 * (m + 1) + 1) * Fl.U = 2 * (m * Fl.U) + 3 * Fl.U := by
          rw [show 2 * (m + 1) + 1 = 2 * m + 3 by omega, Nat.add_mul, Nat.mul_assoc]
        have e2 : 2 * (m + 1) * Fl.U = 2 * (m * Fl.U) + 2 * Fl.U := by
          rw [show 2 * (m + 1) = 2 * m + 2 by omega, Nat.add_mul, Nat.mul_assoc]
        have e3 : (m + 1) * Fl.U = m * Fl.U + Fl.U := by rw [Nat.add_mul, Nat.one_mul]
        rw [e1] at h1; rw [e2] at h3; rw [e3]
        generalize m * Fl.U = q at *
        generalize Fl.U = u at *
        generalize Fl.rv (Fl.rg x) = p at *
        omega
    by_cases he : Fl.ex (Fl.rg x) ≤ 1074
    · exact Fl.dist_rep (Fl.rg x) (Fl.nk x) (by omega) hle he
    · exfalso
      have hx : Fl.rg x = Fl.c53 := by unfold Fl.ex Fl.B Fl.c53 at *; omega
      apply hd
      have hk : Fl.nk x = 9007199254740992 := by
        apply Fl.nk_is
        all_goals rw [hx, Fl.rv_c53]; generalize Fl.U = u at *; omega
      unfold Fl.dist
      rw [hx, Fl.rv_c53, hk]; omega
theorem Fl.dist_half (x : Nat) : 2 * Fl.dist (Fl.rv (Fl.rg x)) (Fl.nk x) ≤ Fl.U := by
  have hn := Fl.nk_near x
  have h1 := hn.1
  have h3 := hn.2.2.1
  unfold Fl.dist
  have e1 : (2 * Fl.nk x + 1) * Fl.U = 2 * (Fl.nk x * Fl.U) + Fl.U := by rw [Nat.add_mul, Nat.one_mul, Nat.mul_assoc]
  have e2 : 2 * Fl.nk x * Fl.U = 2 * (Fl.nk x * Fl.U) := Nat.mul_assoc _ _ _
  rw [e1] at h1; rw [e2] at h3
  generalize Fl.nk x * Fl.U = q at *
  generalize Fl.U = u at *
  generalize Fl.rv (Fl.rg x) = p at *
  omega
theorem Fl.isW_iff (x : Nat) (h : Fl.rg x ≤ Fl.c53) : Fl.isW x = decide (Fl.dist (Fl.rv (Fl.rg x)) (Fl.nk x) = 0) := by
  by_cases he : Fl.wh x * Fl.U = Fl.rv (Fl.rg x)
  · rw [isW_yes x ⟨h, he⟩]
    have hd : Fl.dist (Fl.rv (Fl.rg x)) (Fl.wh x) = 0 := by unfold Fl.dist; rw [he]; omega
    have : Fl.nk x = Fl.wh x := Fl.nk_lo x (.inl (by rw [hd]; have := Fl.U_pos; omega))
    rw [this, hd]; rfl
  · rw [isW_no x (fun h2 => he h2.2)]
    symm
    apply decide_eq_false
    intro hd
    apply he
    have hq : Fl.nk x * Fl.U = Fl.rv (Fl.rg x) := by unfold Fl.dist at hd; omega
    have : Fl.wh x = Fl.nk x := by unfold Fl.wh; rw [← hq]; exact Nat.mul_div_cancel _ Fl.U_pos
    rw [this, hq]
theorem Fl.whI_nk (x : Nat) (h : Fl.isW x = true) : Fl.whI x = Fl.sgi (Fl.sg x) (Fl.nk x) := by
  have hc : Fl.rg x ≤ Fl.c53 ∧ Fl.wh x * Fl.U = Fl.rv (Fl.rg x) := of_decide_eq_true h
  have hd : Fl.dist (Fl.rv (Fl.rg x)) (Fl.wh x) = 0 := by unfold Fl.dist; rw [hc.2]; omega
  have : Fl.nk x = Fl.wh x := Fl.nk_lo x (.inl (by rw [hd]; have := Fl.U_pos; omega))
  unfold Fl.whI; rw [h, this]; rfl

theorem Fl.key_of_vl (x y : Nat) (h : Fl.vl x = Fl.vl y) : Fl.key x = Fl.key y := by
  rw [Fl.vl_key, Fl.vl_key] at h; exact Fl.V_inj h
/-- The whole number and the distance come to x, one way or the other. -/
theorem Fl.near_back (x : Nat) (hx : x < 2 * Fl.W) (h : Fl.rg x ≤ Fl.c53) : ∃ s1 s2, floatBits .add .f64 (floatOfInt .f64 (Fl.sgi (Fl.sg x) (Fl.nk x))) (Fl.rr (Fl.dist (Fl.rv (Fl.rg x)) (Fl.nk x))) = some s1 ∧ floatBits .sub .f64 (floatOfInt .f64 (Fl.sgi (Fl.sg x) (Fl.nk x))) (Fl.rr (Fl.dist (Fl.rv (Fl.rg x)) (Fl.nk x))) = some s2 ∧ (∃ o, FloatKind.f64.format.order s1 x = some o ∧ (o = .eq ∨ FloatKind.f64.format.order s2 x = some .eq)) := by
  have hc := Fl.c53_lt
  have hIW := Fl.I_lt_W
  obtain ⟨_, _, f1, f2, f3⟩ := Fl.whI_int (Fl.sg x) (Fl.nk x) (Fl.nk_le x h)
  obtain ⟨d1, d2⟩ := Fl.dist_nk_rep x h
  generalize hf : floatOfInt .f64 (Fl.sgi (Fl.sg x) (Fl.nk x)) = f at *
  generalize hd : Fl.rr (Fl.dist (Fl.rv (Fl.rg x)) (Fl.nk x)) = d at *
  have hrd : Fl.rg d = d := Nat.mod_eq_of_lt (by omega)
  have hsd : Fl.sg d = false := by unfold Fl.sg; rw [Nat.div_eq_of_lt (by omega)]; rfl
  have hvd : Fl.vl d = (Fl.dist (Fl.rv (Fl.rg x)) (Fl.nk x) : Int) := by unfold Fl.vl; rw [hsd, hrd, d1]; rfl
  have hdl : d < 2 * Fl.W := by omega
  have a1 := Fl.add_fin f d f2 (by rw [hrd]; exact d2)
  have a2 : Ieee.double.sub f d = _ := (Fl.sub_any f d hdl).trans (Fl.add_fin f (Fl.ng d) f2 (by rw [Fl.rg_ng d hdl, hrd]; exact d2))
  rw [Fl.vl_ng d hdl] at a2
  refine ⟨_, _, a1, a2, ?_⟩
  have hvx : (Fl.vl x).natAbs = Fl.rv (Fl.rg x) := Fl.vl_abs x
  have hx2 : Fl.vl x = if Fl.sg x then -(Fl.rv (Fl.rg x) : Int) else (Fl.rv (Fl.rg x) : Int) := rfl
  have hmain : Fl.vl f + Fl.vl d = Fl.vl x ∨ Fl.vl f + -Fl.vl d = Fl.vl x := by
    rw [f3, hvd, hx2]
    unfold Fl.dist
    generalize Fl.nk x * Fl.U = q at *
    generalize Fl.rv (Fl.rg x) = p at *
    cases Fl.sg x
    · simp only [Bool.false_eq_true, if_false]; omega
    · simp only [if_true]; omega
  have hon : ∀ (p q : Bool) (n : Int), n = Fl.vl x → FloatKind.f64.format.order (Fl.rnd (Fl.sgn2 p q n) n.natAbs) x = some .eq := by
    intro p q n hn
    obtain ⟨v1, v2⟩ := Fl.vl_exact p q n (Fl.rg x) (by rw [hn, hvx]) (by omega)
    exact Fl.order_eq _ _ (by omega) (by omega) (Fl.key_of_vl _ _ (by rw [v1, hn]))
  rcases hmain with hm | hm
  · exact ⟨.eq, hon _ _ _ hm, .inl rfl⟩
  · refine ⟨_, Fl.order_key _ _ ?_ (by omega), .inr (hon _ _ _ hm)⟩
    rw [Fl.rg_rnd]; exact (Fl.rnd_rr false _).2
end Go.Proofs.Ytgockebgcbmgoaa

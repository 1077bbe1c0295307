/-
  The walk of EdgeTurned: it answers true.
-/
import Derived.Test.YtgockebgcbmgoaaTurnp
import Derived.Test.YtgockebgcbmgoaaStepsw
set_option linter.unusedVariables false
set_option linter.unusedSimpArgs false
namespace Go.Proofs.Ytgockebgcbmgoaa
open Go.RowKit

/-- LikeFloat, either way. -/
theorem like_any (a b : Nat) (w : World) : Calls Try.prog 19 #[.float .f64 a, .float .f64 b] w fun e w' => ∃ c : Bool, e = .returned (.bool c) ∧ (Fl.Like a b → c = true) ∧ w = w' := by
  by_cases h : Fl.Like a b
  · exact (like_yes a b w h).mono fun e w' ⟨h1, h2⟩ => ⟨true, h1, fun _ => rfl, h2⟩
  · rcases Nat.lt_or_ge Fl.I (Fl.rg a) with ha | ha
    · have hb : Fl.rg b ≤ Fl.I := Nat.not_lt.1 fun hb => h (.inr ⟨ha, hb⟩)
      have h1 := Fl.cmp_nan a a ha
      have h2 := Fl.cmp_self b hb
      have h3 := Fl.cmp_nan a b ha
      have HH := Lib.hid h
      clear ha hb h
      go_enter Try.func19, Try.ntmps19
      go_wp2
      go_ret
      exact ⟨false, rfl, fun h => absurd h HH.out, rfl⟩
    · have h1 := Fl.cmp_self a ha
      have h3 : (FloatKind.f64.format.order a b == some .eq) = false := by
        rcases Nat.lt_or_ge Fl.I (Fl.rg b) with hb | hb
        · rw [show FloatKind.f64.format.order a b = none from Fl.order_nan _ _ (.inr hb)]; rfl
        · rw [show FloatKind.f64.format.order a b = _ from Fl.order_key _ _ ha hb, Fl.compare_int]
          have : Fl.key a ≠ Fl.key b := fun hk => h (.inl ⟨ha, hb, hk⟩)
          split
          · rfl
          · rfl
      have HH := Lib.hid h
      clear ha h
      go_enter Try.func19, Try.ntmps19
      go_wp2
      go_ret
      exact ⟨false, rfl, fun h => absurd h HH.out, rfl⟩

theorem Is_lt_add {a b s : Nat} {up : Bool} (ha : a < 2 * Fl.W) (hb : b < 2 * Fl.W) (h : Fl.Is (Fl.addS a b up) s) : s < 2 * Fl.W := by
  cases ho : Fl.addS a b up with
  | none => rw [ho] at h; exact h.2
  | some r =>
    rw [ho] at h
    have : s = r := h
    subst this
    unfold Fl.addS at ho
    split at ho
    · have hs : Fl.addF a b up = s := Option.some.inj ho
      rw [← hs]
      unfold Fl.addF
      have hm : (9218868437227405311 : Nat) < Fl.W := by decide
      split
      · unfold Fl.greatW; split
        · exact nearS_lt a b
        · exact Fl.wd_lt _ _ hm
      · split
        · split
          · exact ha
          · split <;> decide
        · unfold Fl.sideW; split
          · exact Fl.next_lt _ _ (nearS_lt a b)
          · exact nearS_lt a b
    · exact Fl.add_lt ho
theorem Is_lt_mul {a b s : Nat} {up : Bool} (h : Fl.Is (Fl.mulS a b up) s) : s < 2 * Fl.W := by
  cases ho : Fl.mulS a b up with
  | none => rw [ho] at h; exact h.2
  | some r =>
    rw [ho] at h
    have : s = r := h
    subst this
    unfold Fl.mulS at ho
    split at ho
    · have hs : Fl.mulF a b up = s := Option.some.inj ho
      rw [← hs]
      unfold Fl.mulF
      have hm : (9218868437227405311 : Nat) < Fl.W := by decide
      split
      · unfold Fl.greatW; split
        · exact nearM_lt a b
        · exact Fl.wd_lt _ _ hm
      · unfold Fl.sideW; split
        · exact Fl.next_lt _ _ (nearM_lt a b)
        · exact nearM_lt a b
    · exact Fl.mul_lt ho
theorem Is_lt_div {a b s : Nat} {up : Bool} (h : Fl.Is (Fl.divS a b up) s) : s < 2 * Fl.W := by
  cases ho : Fl.divS a b up with
  | none => rw [ho] at h; exact h.2
  | some r =>
    rw [ho] at h
    have : s = r := h
    subst this
    unfold Fl.divS at ho
    split at ho
    · have hs : Fl.divF a b up = s := Option.some.inj ho
      rw [← hs]
      unfold Fl.divF
      have hm : (9218868437227405311 : Nat) < Fl.W := by decide
      split
      · unfold Fl.greatW; split
        · exact nearQ_lt a b
        · exact Fl.wd_lt _ _ hm
      · unfold Fl.sideW; split
        · exact Fl.next_lt _ _ (nearQ_lt a b)
        · exact nearQ_lt a b
    · exact Fl.div_lt ho

set_option maxRecDepth 100000 in
set_option maxHeartbeats 4000000 in
theorem turned_main (a b : Nat) (up : Bool) (w : World) (ha : a < 2 * Fl.W) (hb : b < 2 * Fl.W) :
    Calls Try.prog 6 #[.float .f64 a, .float .f64 b, .bool up] w fun e w' => e = .returned (.bool true) ∧ Dr w w' := by
  have na := fun w => run_neg a ha w
  have nb := fun w => run_neg b hb w
  have hna := Fl.ng_lt a ha
  have hnb := Fl.ng_lt b hb
  have nu : ∀ w, (Op.unary .not (.bool up)).run Try.prog w = .ok (.bool (!up)) w := fun _ => rfl
  go_enter Try.func6, Try.ntmps6
  go_wp2_with fail
  refine (awake_any _).mono ?_
  rintro e w1 ⟨rfl, hd⟩
  have D1 := Lib.hid hd
  clear hd
  go_wp2_with fail
  refine (add_any a b up _ ha hb).mono ?_
  rintro e w2 ⟨s1, rfl, hs1, hd⟩
  have D2 := Lib.hid hd
  have S1 := Lib.hid hs1
  have L1 := Lib.hid (Is_lt_add ha hb hs1)
  clear hd hs1
  go_wp2_with fail
  refine (mul_any a b up _ ha hb).mono ?_
  rintro e w3 ⟨s2, rfl, hs2, hd⟩
  have D3 := Lib.hid hd
  have S2 := Lib.hid hs2
  have L2 := Lib.hid (Is_lt_mul hs2)
  clear hd hs2
  go_wp2_with fail
  refine (div_any a b up _ ha hb).mono ?_
  rintro e w4 ⟨s3, rfl, hs3, hd⟩
  have D4 := Lib.hid hd
  have S3 := Lib.hid hs3
  have L3 := Lib.hid (Is_lt_div hs3)
  clear hd hs3
  have n1 := fun w => run_neg s1 L1.out w
  have n2 := fun w => run_neg s2 L2.out w
  have n3 := fun w => run_neg s3 L3.out w
  go_wp2_with fail
  refine (add_any (Fl.ng a) (Fl.ng b) (!up) _ hna hnb).mono ?_
  rintro e w5 ⟨t1, rfl, ht1, hd⟩
  have D5 := Lib.hid hd
  have T1 := Lib.hid ht1
  clear hd ht1
  go_wp2_with fail
  refine (same_yes _ _ _ (Fl.Is_same (Fl.Is_ng S1.out) (by rw [← Fl.addS_ng a b up ha hb]; exact T1.out))).mono ?_
  rintro e w' ⟨rfl, rfl⟩
  go_wp2_with fail
  refine (mul_any (Fl.ng a) b (!up) _ hna hb).mono ?_
  rintro e w6 ⟨t2, rfl, ht2, hd⟩
  have D6 := Lib.hid hd
  have T2 := Lib.hid ht2
  clear hd ht2
  go_wp2_with fail
  refine (same_yes _ _ _ (Fl.Is_same (Fl.Is_ng S2.out) (by rw [← Fl.mulS_ng a b up ha]; exact T2.out))).mono ?_
  rintro e w' ⟨rfl, rfl⟩
  go_wp2_with fail
  refine (div_any (Fl.ng a) b (!up) _ hna hb).mono ?_
  rintro e w7 ⟨t3, rfl, ht3, hd⟩
  have D7 := Lib.hid hd
  have T3 := Lib.hid ht3
  clear hd ht3
  go_wp2_with fail
  refine (same_yes _ _ _ (Fl.Is_same (Fl.Is_ng S3.out) (by rw [← Fl.divS_ng a b up ha]; exact T3.out))).mono ?_
  rintro e w' ⟨rfl, rfl⟩
  go_wp2_with fail
  refine (add_any b a up _ hb ha).mono ?_
  rintro e w8 ⟨u1, rfl, hu1, hd⟩
  have D8 := Lib.hid hd
  have U1 := Lib.hid hu1
  clear hd hu1
  go_wp2_with fail
  refine (same_yes _ _ _ (Fl.Is_same S1.out (by rw [Fl.addS_comm a b up ha hb]; exact U1.out))).mono ?_
  rintro e w' ⟨rfl, rfl⟩
  go_wp2_with fail
  refine (mul_any b a up _ hb ha).mono ?_
  rintro e w9 ⟨u2, rfl, hu2, hd⟩
  have D9 := Lib.hid hd
  have U2 := Lib.hid hu2
  clear hd hu2
  go_wp2_with fail
  refine (same_yes _ _ _ (Fl.Is_same S2.out (by rw [Fl.mulS_comm a b up]; exact U2.out))).mono ?_
  rintro e w' ⟨rfl, rfl⟩
  go_wp2_with fail
  refine (sub_walk a b up _ ha hb).mono ?_
  rintro e w10 ⟨u3, rfl, hu3, hd⟩
  have D10 := Lib.hid hd
  have U3 := Lib.hid hu3
  clear hd hu3
  go_wp2_with fail
  refine (add_any a (Fl.ng b) up _ ha hnb).mono ?_
  rintro e w11 ⟨u4, rfl, hu4, hd⟩
  have D11 := Lib.hid hd
  have U4 := Lib.hid hu4
  clear hd hu4
  go_wp2_with fail
  refine (same_yes _ _ _ (Fl.Is_same U3.out U4.out)).mono ?_
  rintro e w' ⟨rfl, rfl⟩
  obtain ⟨v1, w12, r1, i1, hw12⟩ := run_float_any .add 22 a b w11 (by simp)
  obtain ⟨v2, w13, r2, i2, hw13⟩ := run_float_any .mul 22 a b w12 (by simp)
  have D12 : Hid (Dr w11 w12) := by rcases hw12 with rfl | rfl; exact Dr.refl _; exact Dr.drew _
  have D13 : Hid (Dr w12 w13) := by rcases hw13 with rfl | rfl; exact Dr.refl _; exact Dr.drew _
  have I1 : Hid (Fl.Is (Ieee.double.add a b) v1) := i1
  have I2 : Hid (Fl.Is (Ieee.double.mul a b) v2) := i2
  clear i1 i2 hw12 hw13
  go_wp2_with fail
  refine (add_any a b (!up) _ ha hb).mono ?_
  rintro e w14 ⟨x1, rfl, hx1, hd⟩
  have D14 := Lib.hid hd
  have X1 := Lib.hid hx1
  clear hd hx1
  go_wp2_with fail
  refine (mul_any a b (!up) _ ha hb).mono ?_
  rintro e w15 ⟨x2, rfl, hx2, hd⟩
  have D15 := Lib.hid hd
  have X2 := Lib.hid hx2
  clear hd hx2
  have A1 := Lib.hid (Fl.add_one_way a b up v1 s1 x1 I1.out S1.out X1.out)
  have A2 := Lib.hid (Fl.mul_one_way a b up v2 s2 x2 I2.out S2.out X2.out)
  have D16 := Lib.hid (D1.out.trans <| D2.out.trans <| D3.out.trans <| D4.out.trans <| D5.out.trans <| D6.out.trans <| D7.out.trans <| D8.out.trans <| D9.out.trans <| D10.out.trans <| D11.out.trans <| D12.out.trans <| D13.out.trans <| D14.out.trans D15.out)
  go_wp2_with fail
  refine (like_any v1 s1 _).mono ?_
  rintro e w' ⟨c1, rfl, hc1, rfl⟩
  have C1 := Lib.hid hc1
  clear hc1
  cases c1
  · have K1 : Fl.Like v1 x1 := by
      rcases A1.out with h | h
      · exact absurd (C1.out h) (by simp)
      · exact h
    have HK1 := Lib.hid K1
    clear K1
    go_wp2_with fail
    refine (like_yes v1 x1 _ HK1.out).mono ?_
    rintro e w' ⟨rfl, rfl⟩
    go_wp2_with fail
    refine (like_any v2 s2 _).mono ?_
    rintro e w' ⟨c2, rfl, hc2, rfl⟩
    have C2 := Lib.hid hc2
    clear hc2
    cases c2
    · have K2 : Fl.Like v2 x2 := by
        rcases A2.out with h | h
        · exact absurd (C2.out h) (by simp)
        · exact h
      have HK2 := Lib.hid K2
      clear K2
      go_wp2_with fail
      refine (like_yes v2 x2 _ HK2.out).mono ?_
      rintro e w' ⟨rfl, rfl⟩
      go_wp2
      go_ret
      exact ⟨rfl, D16.out⟩
    · go_wp2
      go_ret
      exact ⟨rfl, D16.out⟩
  · go_wp2_with fail
    refine (like_any v2 s2 _).mono ?_
    rintro e w' ⟨c2, rfl, hc2, rfl⟩
    have C2 := Lib.hid hc2
    clear hc2
    cases c2
    · have K2 : Fl.Like v2 x2 := by
        rcases A2.out with h | h
        · exact absurd (C2.out h) (by simp)
        · exact h
      have HK2 := Lib.hid K2
      clear K2
      go_wp2_with fail
      refine (like_yes v2 x2 _ HK2.out).mono ?_
      rintro e w' ⟨rfl, rfl⟩
      go_wp2
      go_ret
      exact ⟨rfl, D16.out⟩
    · go_wp2
      go_ret
      exact ⟨rfl, D16.out⟩
theorem edgeTurned_walk (a b : Nat) (up : Bool) (wa : (Lit.float .f64 a).wf = true) (wb : (Lit.float .f64 b).wf = true) (w : World) :
    Calls Try.prog 6 #[.float .f64 a, .float .f64 b, .bool up] w fun e w' => e = .returned (.bool true) ∧ Grown w w' :=
  (turned_main a b up w (wf_float wa) (wf_float wb)).mono fun e w' ⟨h1, h2⟩ => ⟨h1, h2.grown⟩
end Go.Proofs.Ytgockebgcbmgoaa

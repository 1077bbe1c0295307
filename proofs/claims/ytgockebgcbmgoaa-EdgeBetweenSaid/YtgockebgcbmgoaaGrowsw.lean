/-
  Walk: EdgeGrows.
-/
import Derived.Test.YtgockebgcbmgoaaSum
import Derived.Test.YtgockebgcbmgoaaAwake
import Derived.Test.YtgockebgcbmgoaaSlice
set_option linter.unusedVariables false
set_option linter.unusedSimpArgs false
namespace Go.Proofs.Ytgockebgcbmgoaa
open Go.RowKit

theorem Fl.NGt.order {x y : Nat} (h : Fl.NGt x y) : (FloatKind.f64.format.order x y == some .gt) = false := by
  rcases h with h | h | ⟨h1, h2, h3⟩
  · rw [show FloatKind.f64.format.order x y = none from Fl.order_nan x y (.inl h)]; rfl
  · rw [show FloatKind.f64.format.order x y = none from Fl.order_nan x y (.inr h)]; rfl
  · rw [show FloatKind.f64.format.order x y = _ from Fl.order_key x y h1 h2, Fl.compare_int]
    split
    · rfl
    · split
      · rfl
      · omega
theorem Fl.NGt_ng {a b : Nat} (ha : a < 2 * Fl.W) (hb : b < 2 * Fl.W) (h : Fl.NGt a b) : Fl.NGt (Fl.ng b) (Fl.ng a) := by
  unfold Fl.NGt
  rw [Fl.rg_ng a ha, Fl.rg_ng b hb]
  rcases h with h | h | ⟨h1, h2, h3⟩
  · exact .inr (.inl h)
  · exact .inl h
  · refine .inr (.inr ⟨h2, h1, ?_⟩)
    rw [Fl.key_of, Fl.key_of] at *
    rw [Fl.sg_ng a ha, Fl.sg_ng b hb, Fl.rg_ng a ha, Fl.rg_ng b hb]
    unfold Fl.sgz at *
    clear h1 h2
    cases ha : Fl.sg a <;> cases hb : Fl.sg b <;> simp [ha, hb] at h3 ⊢ <;> omega
theorem Fl.self_order {c : Nat} (h : Fl.rg c ≤ Fl.I) : FloatKind.f64.format.order c c = some .eq := Fl.order_eq c c h h rfl
theorem Fl.Is_lt_sqrt {a s : Nat} {up : Bool} (h : Fl.Is (Fl.sqrtS a up) s) : s < 2 * Fl.W := by
  cases ho : Fl.sqrtS a up with
  | none => rw [ho] at h; exact h.2
  | some r =>
    rw [ho] at h
    have : s = r := h
    subst this
    unfold Fl.sqrtS at ho
    split at ho
    · have hs : Fl.sqrtF a up = s := Option.some.inj ho
      rw [← hs]
      unfold Fl.sqrtF Fl.sideW; split
      · exact Fl.next_lt _ _ (nearR_lt a)
      · exact nearR_lt a
    · exact Fl.sqrt_lt ho
/-- How two floats stand, and of the one that is handed on. -/
theorem Fl.le_cases (a b : Nat) : (FloatKind.f64.format.order a b = none ∨ FloatKind.f64.format.order a b = some .gt) ∨ ((FloatKind.f64.format.order a b = some .lt ∨ FloatKind.f64.format.order a b = some .eq) ∧ Fl.NGt a b) := by
  by_cases ha : Fl.rg a ≤ Fl.I
  · by_cases hb : Fl.rg b ≤ Fl.I
    · rcases Int.lt_trichotomy (Fl.key a) (Fl.key b) with h | h | h
      · exact .inr ⟨.inl (Fl.order_lt a b ha hb h), .inr (.inr ⟨ha, hb, Int.le_of_lt h⟩)⟩
      · exact .inr ⟨.inr (Fl.order_eq a b ha hb h), .inr (.inr ⟨ha, hb, Int.le_of_eq h⟩)⟩
      · exact .inl (.inr (Fl.order_gt a b ha hb h))
    · exact .inl (.inl (Fl.order_nan a b (.inr (Nat.lt_of_not_le hb))))
  · exact .inl (.inl (Fl.order_nan a b (.inl (Nat.lt_of_not_le ha))))
theorem Fl.neg_cases (c : Nat) (hc : c < 2 * Fl.W) (h : Fl.rg c ≤ Fl.I) : (FloatKind.f64.format.order c 0 = some .lt ∧ 0 ≤ Fl.key (Fl.ng c)) ∨ ((FloatKind.f64.format.order c 0 = some .eq ∨ FloatKind.f64.format.order c 0 = some .gt) ∧ 0 ≤ Fl.key c) := by
  have h0 := Fl.ord0 c h
  rw [Fl.compare_int] at h0
  by_cases h1 : Fl.key c < 0
  · rw [if_pos h1] at h0
    refine .inl ⟨h0, ?_⟩
    rw [Fl.key_of] at *
    rw [Fl.sg_ng c hc, Fl.rg_ng c hc]
    unfold Fl.sgz at *
    clear h h0
    cases hs : Fl.sg c
    · rw [hs] at h1; simp only [Bool.false_eq_true, if_false] at h1; omega
    · simp
  · rw [if_neg h1] at h0
    split at h0
    · exact .inr ⟨.inl h0, by omega⟩
    · exact .inr ⟨.inr h0, by omega⟩
set_option maxRecDepth 100000 in
set_option maxHeartbeats 4000000 in
theorem grows_long (a b c : Nat) (A : Option Addr) (n cp : Nat) (z : Nat → Nat) (up : Bool) (w : World) (ha : a < 2 * Fl.W) (hb : b < 2 * Fl.W) (hc : c < 2 * Fl.W)
    (hz : ∀ k, z k < 2 * Fl.W) (hn : n ≤ 9223372036854775807) (hncp : n ≤ cp) (hr : FloatsAt w A n z) (h500 : 500 < n) :
    Calls Try.prog 7 #[.float .f64 a, .float .f64 b, .float .f64 c, .slice A n cp, .bool up] w fun e w' => e = .returned (.bool true) ∧ Dr w w' := by
  have HR := Lib.hid hr
  clear hr
  go_enter Try.func7, Try.ntmps7
  go_wp2_with fail
  refine (awake_any _).mono ?_
  rintro e w0 ⟨rfl, hd0⟩
  have HD0 := Lib.hid hd0
  clear hd0
  go_wp2_with fail
  refine (sum_any A 500 cp z false _ hz (by omega) (by obtain ⟨m, rfl⟩ := HD0.out; exact fun k hk => HR.out k (by omega))).mono ?_
  rintro e w1 ⟨lo, rfl, hlo, hd1⟩
  have HD1 := Lib.hid (HD0.out.trans hd1)
  have HLO := Lib.hid hlo
  clear hd1 hlo
  go_wp2_with fail
  refine (sum_any A 500 cp z true _ hz (by omega) (by obtain ⟨m, rfl⟩ := HD1.out; exact fun k hk => HR.out k (by omega))).mono ?_
  rintro e w2 ⟨hi, rfl, hhi, hd2⟩
  have HD2 := Lib.hid (HD1.out.trans hd2)
  have hgt := (Fl.sum_side hz HLO.out hhi).order
  clear hd2 hhi
  have hu : up = false ∨ up = true := by cases up <;> simp
  rcases Fl.le_cases a b with (o1 | o1) | ⟨o1, hab⟩
  · go_wp2
    go_ret
    exact ⟨rfl, HD2.out⟩
  · go_wp2
    go_ret
    exact ⟨rfl, HD2.out⟩
  have HAB := Lib.hid hab
  clear hab
  by_cases hcn : Fl.rg c ≤ Fl.I
  · have o2 := Fl.self_order hcn
    rcases Fl.neg_cases c hc hcn with ⟨o3, hk⟩ | ⟨o3, hk⟩
    · have n1 := fun w => run_neg c hc w
      have hd1 := Fl.ng_lt c hc
      have HD0K := Lib.hid hk
      clear hk hcn
      rcases o1 with o1 | o1
      all_goals
        go_wp2_with fail
        refine (add_any a (Fl.ng c) up _ ha hd1).mono ?_
        rintro e w3 ⟨x1, rfl, hx1, hdd⟩
        have Hw3 := Lib.hid (HD2.out.trans hdd)
        have Sx1 := Lib.hid hx1
        clear hdd hx1
        go_wp2_with fail
        refine (add_any b (Fl.ng c) up _ hb hd1).mono ?_
        rintro e w4 ⟨y1, rfl, hy1, hdd⟩
        have Hw4 := Lib.hid (Hw3.out.trans hdd)
        have Sy1 := Lib.hid hy1
        clear hdd hy1
        have g1 := (Fl.add_grow ha hb hd1 hu Sx1.out Sy1.out HAB.out).order
        go_wp2_with fail
        refine (mul_any a (Fl.ng c) up _ ha hd1).mono ?_
        rintro e w5 ⟨x2, rfl, hx2, hdd⟩
        have Hw5 := Lib.hid (Hw4.out.trans hdd)
        have Sx2 := Lib.hid hx2
        clear hdd hx2
        go_wp2_with fail
        refine (mul_any b (Fl.ng c) up _ hb hd1).mono ?_
        rintro e w6 ⟨y2, rfl, hy2, hdd⟩
        have Hw6 := Lib.hid (Hw5.out.trans hdd)
        have Sy2 := Lib.hid hy2
        clear hdd hy2
        have g2 := (Fl.mul_grow hu Sx2.out Sy2.out HAB.out (fun _ => HD0K.out)).order
        go_wp2_with fail
        refine (sqrt_walk a up _ ha).mono ?_
        rintro e w7 ⟨x3, rfl, hx3, hdd⟩
        have Hw7 := Lib.hid (Hw6.out.trans hdd)
        have Sx3 := Lib.hid hx3
        clear hdd hx3
        go_wp2_with fail
        refine (sqrt_walk b up _ hb).mono ?_
        rintro e w8 ⟨y3, rfl, hy3, hdd⟩
        have Hw8 := Lib.hid (Hw7.out.trans hdd)
        have Sy3 := Lib.hid hy3
        clear hdd hy3
        have g3 := (Fl.sqrt_grow hu Sx3.out Sy3.out HAB.out).order
        go_wp2_with fail
        refine (sub_walk (Fl.ng c) b up _ hd1 hb).mono ?_
        rintro e w9 ⟨x4, rfl, hx4, hdd⟩
        have Hw9 := Lib.hid (Hw8.out.trans hdd)
        have Sx4 := Lib.hid hx4
        clear hdd hx4
        go_wp2_with fail
        refine (sub_walk (Fl.ng c) a up _ hd1 ha).mono ?_
        rintro e w10 ⟨y4, rfl, hy4, hdd⟩
        have Hw10 := Lib.hid (Hw9.out.trans hdd)
        have Sy4 := Lib.hid hy4
        clear hdd hy4
        have g4 := (Fl.add_grow (Fl.ng_lt b hb) (Fl.ng_lt a ha) hd1 hu (by rw [Fl.addS_comm _ _ _ (Fl.ng_lt b hb) hd1]; exact Sx4.out) (by rw [Fl.addS_comm _ _ _ (Fl.ng_lt a ha) hd1]; exact Sy4.out) (Fl.NGt_ng ha hb HAB.out)).order
        go_wp2
        go_ret
        exact ⟨rfl, Hw10.out⟩
    · have hd1 := hc
      have HD0K := Lib.hid hk
      clear hk hcn
      rcases o1 with o1 | o1 <;> rcases o3 with o3 | o3
      all_goals
        go_wp2_with fail
        refine (add_any a c up _ ha hd1).mono ?_
        rintro e w3 ⟨x1, rfl, hx1, hdd⟩
        have Hw3 := Lib.hid (HD2.out.trans hdd)
        have Sx1 := Lib.hid hx1
        clear hdd hx1
        go_wp2_with fail
        refine (add_any b c up _ hb hd1).mono ?_
        rintro e w4 ⟨y1, rfl, hy1, hdd⟩
        have Hw4 := Lib.hid (Hw3.out.trans hdd)
        have Sy1 := Lib.hid hy1
        clear hdd hy1
        have g1 := (Fl.add_grow ha hb hd1 hu Sx1.out Sy1.out HAB.out).order
        go_wp2_with fail
        refine (mul_any a c up _ ha hd1).mono ?_
        rintro e w5 ⟨x2, rfl, hx2, hdd⟩
        have Hw5 := Lib.hid (Hw4.out.trans hdd)
        have Sx2 := Lib.hid hx2
        clear hdd hx2
        go_wp2_with fail
        refine (mul_any b c up _ hb hd1).mono ?_
        rintro e w6 ⟨y2, rfl, hy2, hdd⟩
        have Hw6 := Lib.hid (Hw5.out.trans hdd)
        have Sy2 := Lib.hid hy2
        clear hdd hy2
        have g2 := (Fl.mul_grow hu Sx2.out Sy2.out HAB.out (fun _ => HD0K.out)).order
        go_wp2_with fail
        refine (sqrt_walk a up _ ha).mono ?_
        rintro e w7 ⟨x3, rfl, hx3, hdd⟩
        have Hw7 := Lib.hid (Hw6.out.trans hdd)
        have Sx3 := Lib.hid hx3
        clear hdd hx3
        go_wp2_with fail
        refine (sqrt_walk b up _ hb).mono ?_
        rintro e w8 ⟨y3, rfl, hy3, hdd⟩
        have Hw8 := Lib.hid (Hw7.out.trans hdd)
        have Sy3 := Lib.hid hy3
        clear hdd hy3
        have g3 := (Fl.sqrt_grow hu Sx3.out Sy3.out HAB.out).order
        go_wp2_with fail
        refine (sub_walk c b up _ hd1 hb).mono ?_
        rintro e w9 ⟨x4, rfl, hx4, hdd⟩
        have Hw9 := Lib.hid (Hw8.out.trans hdd)
        have Sx4 := Lib.hid hx4
        clear hdd hx4
        go_wp2_with fail
        refine (sub_walk c a up _ hd1 ha).mono ?_
        rintro e w10 ⟨y4, rfl, hy4, hdd⟩
        have Hw10 := Lib.hid (Hw9.out.trans hdd)
        have Sy4 := Lib.hid hy4
        clear hdd hy4
        have g4 := (Fl.add_grow (Fl.ng_lt b hb) (Fl.ng_lt a ha) hd1 hu (by rw [Fl.addS_comm _ _ _ (Fl.ng_lt b hb) hd1]; exact Sx4.out) (by rw [Fl.addS_comm _ _ _ (Fl.ng_lt a ha) hd1]; exact Sy4.out) (Fl.NGt_ng ha hb HAB.out)).order
        go_wp2
        go_ret
        exact ⟨rfl, Hw10.out⟩
  · have o2 : FloatKind.f64.format.order c c = none := Fl.order_nan c c (.inl (Nat.lt_of_not_le hcn))
    rcases o1 with o1 | o1
    all_goals
      go_wp2
      go_ret
      exact ⟨rfl, HD2.out⟩
set_option maxRecDepth 100000 in
set_option maxHeartbeats 4000000 in
theorem grows_short (a b c : Nat) (A : Option Addr) (n cp : Nat) (z : Nat → Nat) (up : Bool) (w : World) (ha : a < 2 * Fl.W) (hb : b < 2 * Fl.W) (hc : c < 2 * Fl.W)
    (hz : ∀ k, z k < 2 * Fl.W) (hn : n ≤ 9223372036854775807) (hncp : n ≤ cp) (hr : FloatsAt w A n z) (h500 : ¬ 500 < n) :
    Calls Try.prog 7 #[.float .f64 a, .float .f64 b, .float .f64 c, .slice A n cp, .bool up] w fun e w' => e = .returned (.bool true) ∧ Dr w w' := by
  have HR := Lib.hid hr
  clear hr
  go_enter Try.func7, Try.ntmps7
  go_wp2_with fail
  refine (awake_any _).mono ?_
  rintro e w0 ⟨rfl, hd0⟩
  have HD0 := Lib.hid hd0
  clear hd0
  go_wp2_with fail
  refine (sum_any A n cp z false _ hz (by omega) (by obtain ⟨m, rfl⟩ := HD0.out; exact HR.out)).mono ?_
  rintro e w1 ⟨lo, rfl, hlo, hd1⟩
  have HD1 := Lib.hid (HD0.out.trans hd1)
  have HLO := Lib.hid hlo
  clear hd1 hlo
  go_wp2_with fail
  refine (sum_any A n cp z true _ hz (by omega) (by obtain ⟨m, rfl⟩ := HD1.out; exact HR.out)).mono ?_
  rintro e w2 ⟨hi, rfl, hhi, hd2⟩
  have HD2 := Lib.hid (HD1.out.trans hd2)
  have hgt := (Fl.sum_side hz HLO.out hhi).order
  clear hd2 hhi
  have hu : up = false ∨ up = true := by cases up <;> simp
  rcases Fl.le_cases a b with (o1 | o1) | ⟨o1, hab⟩
  · go_wp2
    go_ret
    exact ⟨rfl, HD2.out⟩
  · go_wp2
    go_ret
    exact ⟨rfl, HD2.out⟩
  have HAB := Lib.hid hab
  clear hab
  by_cases hcn : Fl.rg c ≤ Fl.I
  · have o2 := Fl.self_order hcn
    rcases Fl.neg_cases c hc hcn with ⟨o3, hk⟩ | ⟨o3, hk⟩
    · have n1 := fun w => run_neg c hc w
      have hd1 := Fl.ng_lt c hc
      have HD0K := Lib.hid hk
      clear hk hcn
      rcases o1 with o1 | o1
      all_goals
        go_wp2_with fail
        refine (add_any a (Fl.ng c) up _ ha hd1).mono ?_
        rintro e w3 ⟨x1, rfl, hx1, hdd⟩
        have Hw3 := Lib.hid (HD2.out.trans hdd)
        have Sx1 := Lib.hid hx1
        clear hdd hx1
        go_wp2_with fail
        refine (add_any b (Fl.ng c) up _ hb hd1).mono ?_
        rintro e w4 ⟨y1, rfl, hy1, hdd⟩
        have Hw4 := Lib.hid (Hw3.out.trans hdd)
        have Sy1 := Lib.hid hy1
        clear hdd hy1
        have g1 := (Fl.add_grow ha hb hd1 hu Sx1.out Sy1.out HAB.out).order
        go_wp2_with fail
        refine (mul_any a (Fl.ng c) up _ ha hd1).mono ?_
        rintro e w5 ⟨x2, rfl, hx2, hdd⟩
        have Hw5 := Lib.hid (Hw4.out.trans hdd)
        have Sx2 := Lib.hid hx2
        clear hdd hx2
        go_wp2_with fail
        refine (mul_any b (Fl.ng c) up _ hb hd1).mono ?_
        rintro e w6 ⟨y2, rfl, hy2, hdd⟩
        have Hw6 := Lib.hid (Hw5.out.trans hdd)
        have Sy2 := Lib.hid hy2
        clear hdd hy2
        have g2 := (Fl.mul_grow hu Sx2.out Sy2.out HAB.out (fun _ => HD0K.out)).order
        go_wp2_with fail
        refine (sqrt_walk a up _ ha).mono ?_
        rintro e w7 ⟨x3, rfl, hx3, hdd⟩
        have Hw7 := Lib.hid (Hw6.out.trans hdd)
        have Sx3 := Lib.hid hx3
        clear hdd hx3
        go_wp2_with fail
        refine (sqrt_walk b up _ hb).mono ?_
        rintro e w8 ⟨y3, rfl, hy3, hdd⟩
        have Hw8 := Lib.hid (Hw7.out.trans hdd)
        have Sy3 := Lib.hid hy3
        clear hdd hy3
        have g3 := (Fl.sqrt_grow hu Sx3.out Sy3.out HAB.out).order
        go_wp2_with fail
        refine (sub_walk (Fl.ng c) b up _ hd1 hb).mono ?_
        rintro e w9 ⟨x4, rfl, hx4, hdd⟩
        have Hw9 := Lib.hid (Hw8.out.trans hdd)
        have Sx4 := Lib.hid hx4
        clear hdd hx4
        go_wp2_with fail
        refine (sub_walk (Fl.ng c) a up _ hd1 ha).mono ?_
        rintro e w10 ⟨y4, rfl, hy4, hdd⟩
        have Hw10 := Lib.hid (Hw9.out.trans hdd)
        have Sy4 := Lib.hid hy4
        clear hdd hy4
        have g4 := (Fl.add_grow (Fl.ng_lt b hb) (Fl.ng_lt a ha) hd1 hu (by rw [Fl.addS_comm _ _ _ (Fl.ng_lt b hb) hd1]; exact Sx4.out) (by rw [Fl.addS_comm _ _ _ (Fl.ng_lt a ha) hd1]; exact Sy4.out) (Fl.NGt_ng ha hb HAB.out)).order
        go_wp2
        go_ret
        exact ⟨rfl, Hw10.out⟩
    · have hd1 := hc
      have HD0K := Lib.hid hk
      clear hk hcn
      rcases o1 with o1 | o1 <;> rcases o3 with o3 | o3
      all_goals
        go_wp2_with fail
        refine (add_any a c up _ ha hd1).mono ?_
        rintro e w3 ⟨x1, rfl, hx1, hdd⟩
        have Hw3 := Lib.hid (HD2.out.trans hdd)
        have Sx1 := Lib.hid hx1
        clear hdd hx1
        go_wp2_with fail
        refine (add_any b c up _ hb hd1).mono ?_
        rintro e w4 ⟨y1, rfl, hy1, hdd⟩
        have Hw4 := Lib.hid (Hw3.out.trans hdd)
        have Sy1 := Lib.hid hy1
        clear hdd hy1
        have g1 := (Fl.add_grow ha hb hd1 hu Sx1.out Sy1.out HAB.out).order
        go_wp2_with fail
        refine (mul_any a c up _ ha hd1).mono ?_
        rintro e w5 ⟨x2, rfl, hx2, hdd⟩
        have Hw5 := Lib.hid (Hw4.out.trans hdd)
        have Sx2 := Lib.hid hx2
        clear hdd hx2
        go_wp2_with fail
        refine (mul_any b c up _ hb hd1).mono ?_
        rintro e w6 ⟨y2, rfl, hy2, hdd⟩
        have Hw6 := Lib.hid (Hw5.out.trans hdd)
        have Sy2 := Lib.hid hy2
        clear hdd hy2
        have g2 := (Fl.mul_grow hu Sx2.out Sy2.out HAB.out (fun _ => HD0K.out)).order
        go_wp2_with fail
        refine (sqrt_walk a up _ ha).mono ?_
        rintro e w7 ⟨x3, rfl, hx3, hdd⟩
        have Hw7 := Lib.hid (Hw6.out.trans hdd)
        have Sx3 := Lib.hid hx3
        clear hdd hx3
        go_wp2_with fail
        refine (sqrt_walk b up _ hb).mono ?_
        rintro e w8 ⟨y3, rfl, hy3, hdd⟩
        have Hw8 := Lib.hid (Hw7.out.trans hdd)
        have Sy3 := Lib.hid hy3
        clear hdd hy3
        have g3 := (Fl.sqrt_grow hu Sx3.out Sy3.out HAB.out).order
        go_wp2_with fail
        refine (sub_walk c b up _ hd1 hb).mono ?_
        rintro e w9 ⟨x4, rfl, hx4, hdd⟩
        have Hw9 := Lib.hid (Hw8.out.trans hdd)
        have Sx4 := Lib.hid hx4
        clear hdd hx4
        go_wp2_with fail
        refine (sub_walk c a up _ hd1 ha).mono ?_
        rintro e w10 ⟨y4, rfl, hy4, hdd⟩
        have Hw10 := Lib.hid (Hw9.out.trans hdd)
        have Sy4 := Lib.hid hy4
        clear hdd hy4
        have g4 := (Fl.add_grow (Fl.ng_lt b hb) (Fl.ng_lt a ha) hd1 hu (by rw [Fl.addS_comm _ _ _ (Fl.ng_lt b hb) hd1]; exact Sx4.out) (by rw [Fl.addS_comm _ _ _ (Fl.ng_lt a ha) hd1]; exact Sy4.out) (Fl.NGt_ng ha hb HAB.out)).order
        go_wp2
        go_ret
        exact ⟨rfl, Hw10.out⟩
  · have o2 : FloatKind.f64.format.order c c = none := Fl.order_nan c c (.inl (Nat.lt_of_not_le hcn))
    rcases o1 with o1 | o1
    all_goals
      go_wp2
      go_ret
      exact ⟨rfl, HD2.out⟩
theorem edgeGrows_walk (w : World) (a b c : Nat) (A : Option Addr) (n cp : Nat) (z : Nat → Nat) (up : Bool) (wa : (Lit.float .f64 a).wf = true) (wb : (Lit.float .f64 b).wf = true) (wc : (Lit.float .f64 c).wf = true) (hs : FloatSlice w A n cp z) :
    Calls Try.prog 7 #[.float .f64 a, .float .f64 b, .float .f64 c, .slice A n cp, .bool up] w fun e w' => e = .returned (.bool true) ∧ Dr w w' := by
  obtain ⟨h1, h2, h3, h4⟩ := hs
  by_cases h500 : 500 < n
  · exact grows_long a b c A n cp z up w (wf_float wa) (wf_float wb) (wf_float wc) h3 h2 h1 h4 h500
  · exact grows_short a b c A n cp z up w (wf_float wa) (wf_float wb) (wf_float wc) h3 h2 h1 h4 h500
end Go.Proofs.Ytgockebgcbmgoaa

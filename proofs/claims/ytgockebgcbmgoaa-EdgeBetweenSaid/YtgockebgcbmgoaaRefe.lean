/-
  Walks: the reference's roots.
-/
import Derived.Test.YtgockebgcbmgoaaRefd
set_option linter.unusedVariables false
set_option linter.unusedSimpArgs false
namespace Go.Proofs.Ytgockebgcbmgoaa
open Go.RowKit

theorem nearR_fin (a : Nat) (a0 : 0 < Fl.rg a) (fa : Fl.rg a < Fl.I) : Fl.rg (Fl.nearR a) < Fl.I ∧ 0 < Fl.rg (Fl.nearR a) := by
  have hp := Fl.pR_low a a0 fa
  refine Fl.mid_fin false (Fl.sM a) (Fl.pR a) 56 (Fl.sM_range a a0).1 (Fl.sM_range a a0).2.1 ?_ ?_
  · have := Fl.nE_range (Fl.rg a) a0 fa; unfold Fl.pR Fl.par; omega
  · omega
theorem sg_nearR (a : Nat) : Fl.sg (Fl.nearR a) = false := by
  obtain ⟨r, h1, _⟩ := Fl.nearest_word false (Fl.sM a) (Fl.pR a)
  unfold Fl.nearR
  rw [h1, Fl.sg_wd _ _ (Fl.min_I_lt r)]
/-- A root's nearest float, squared, holds against the number. -/
theorem root_cmp2 (a : Nat) (a0 : 0 < Fl.rg a) (fa : Fl.rg a < Fl.I) : Fl.cmpR (Fl.sM a) (Fl.pR a) (Fl.rg (Fl.nearR a)) = compare (Fl.rv (Fl.rg a) * 2 ^ Fl.E) (Fl.rv (Fl.rg (Fl.nearR a)) * Fl.rv (Fl.rg (Fl.nearR a))) := by
  obtain ⟨hf, hr0⟩ := nearR_fin a a0 fa
  obtain ⟨a1, a2, ha, ea⟩ := Fl.rv_norm (Fl.rg a) a0
  have hE := E_int
  have hp := Fl.pR_low a a0 fa
  obtain ⟨u, hu⟩ : ∃ u : Nat, Fl.pR a + 1074 = u := ⟨(Fl.pR a + 1074).toNat, by omega⟩
  have hk : ∃ k, Fl.rv (Fl.rg (Fl.nearR a)) = 2 * k * 2 ^ u := by
    obtain ⟨r, e1, e2⟩ := Fl.nearest_rnd false (Fl.sM a) (Fl.pR a) u 0 (by omega)
    have hr : Fl.rg (Fl.nearR a) = r := by
      have e3 : Fl.rg (Fl.nearR a) = min r Fl.I := by unfold Fl.nearR; rw [e1, Fl.rg_wd _ _ (Fl.min_I_lt r)]
      exact (Fl.of_min e3 hf).2
    rw [hr]
    refine half_rung r u (near_even (Fl.sM a) u r ?_ e2)
    obtain ⟨h1, h2, h3⟩ := Fl.sM_range a a0
    exact Nat.le_trans (Nat.pow_le_pow_right (by decide) (by omega)) (Nat.log2_self_le h1)
  obtain ⟨k, hk⟩ := hk
  rw [Fl.cmpR_scale _ _ _ u 0 (by omega), Nat.pow_zero, Nat.mul_one, hk, Fl.compare_mul _ _ _ (Nat.two_pow_pos u)]
  rw [show Fl.sM a = Fl.stickR (Fl.sN a) from rfl, Fl.stickR_cmp]
  rw [← Fl.compare_mul (Fl.sN a) (k * k) (2 ^ a2 * 2 ^ (2 * u + 2)) (Nat.mul_pos (Nat.two_pow_pos _) (Nat.two_pow_pos _))]
  rw [← Fl.compare_mul (Fl.rv (Fl.rg a) * 2 ^ Fl.E) _ (2 ^ a2) (Nat.two_pow_pos _)]
  congr 1
  · have e1 : Fl.sN a * (2 ^ a2 * 2 ^ (2 * u + 2)) = Fl.rv (Fl.rg a) * (2 ^ a1 * 2 ^ (56 + Fl.par a + (2 * u + 2))) := by
      unfold Fl.sN
      rw [Nat.pow_add 2 (56 + Fl.par a)]
      generalize 2 ^ (56 + Fl.par a) = T
      generalize 2 ^ (2 * u + 2) = S
      generalize 2 ^ a2 = Q at *
      generalize 2 ^ a1 = P at *
      generalize Fl.nM (Fl.rg a) = n at *
      generalize Fl.rv (Fl.rg a) = A at *
      grind
    rw [e1, Nat.mul_assoc (Fl.rv (Fl.rg a)), ← Nat.pow_add, ← Nat.pow_add]
    congr 2
    have hpar : (Fl.par a : Int) = Fl.nE (Fl.rg a) % 2 := by unfold Fl.par; omega
    have hpr : Fl.pR a = (Fl.nE (Fl.rg a) - Fl.par a) / 2 - 566 := rfl
    omega
  · have e2 : (2 : Nat) ^ (2 * u + 2) = 4 * (2 ^ u * 2 ^ u) := by
      rw [show 2 * u + 2 = u + u + 2 by omega, Nat.pow_add, Nat.pow_add]; omega
    rw [e2]
    generalize 2 ^ u = S
    generalize 2 ^ a2 = Q
    grind
/-- What the reference tells the side of a root by. -/
def cR (a : Nat) : Ordering := compare (Nt.nv (Fl.sg a) (Fl.mant (Fl.rg a)) (Fl.pl a) 2148) (Nt.nv (Fl.sg (Fl.nearR a) != Fl.sg (Fl.nearR a)) (Fl.mant (Fl.rg (Fl.nearR a)) * Fl.mant (Fl.rg (Fl.nearR a))) (Fl.pl (Fl.nearR a) + Fl.pl (Fl.nearR a)) 2148)
theorem cR_eq (a : Nat) (a0 : 0 < Fl.rg a) (fa : Fl.rg a < Fl.I) (hs : Fl.sg a = false) : cR a = Fl.cmpR (Fl.sM a) (Fl.pR a) (Fl.rg (Fl.nearR a)) := by
  unfold cR
  rw [nv_prod _ _ 2148 (by decide), nv_float2 _ 2148 (by rw [E_int]; decide), root_cmp2 a a0 fa, hs, sg_nearR, show (false != false) = false from rfl, compare_sz, Fl.cmpS_false]
set_option maxRecDepth 400000 in
set_option maxHeartbeats 8000000 in
theorem rsqrt_side (a : Nat) (up : Bool) (w : World) (ha : a < 2 * Fl.W) (fa : Fl.rg a < Fl.I) (a0 : 0 < Fl.rg a) (hs : Fl.sg a = false) :
    Calls Try.prog 33 #[.float .f64 a, .bool up] w fun e w' => e = .returned (.float .f64 (Fl.sideW (Fl.nearR a) (cR a) (Fl.next (Fl.nearR a) up) up)) ∧ Below w.heap.size w w' := by
  have h1 := fun w => msqrt_some a _ (Fl.sqrt_near a fa a0 hs) w
  have h2 := nearR_lt a
  obtain ⟨hf, _⟩ := nearR_fin a a0 fa
  have o1 := Fl.cmp0_gt a a0 (Nat.le_of_lt fa) hs
  obtain ⟨q, hq⟩ : ∃ q, q = Fl.nearR a := ⟨_, rfl⟩
  obtain ⟨cc, hcc⟩ : ∃ cc, cc = cR a := ⟨_, rfl⟩
  unfold cR at hcc
  rw [show cR a = cc by rw [hcc]; rfl]
  rw [← hq] at h1 h2 hf hcc ⊢
  clear hq
  have s1 := float_small a (Nat.le_of_lt fa)
  have sq := float_small q (Nat.le_of_lt hf)
  have s3 := prod_small q q (Nat.le_of_lt hf) (Nat.le_of_lt hf)
  have HP := Lib.hid (fun x u (hu : NumV x u (Fl.sg q) (Fl.mant (Fl.rg q)) (Fl.pl q)) => times_any u _ _ _ u _ _ _ x hu hu (by have := sq.len; omega) (by have := sq.len; omega) (by have := sq.2; omega) (by have := sq.2; omega) (by have := sq.2; omega) (by have := sq.2; omega))
  have HC := Lib.hid (fun x u v (hu : NumV x u (Fl.sg a) (Fl.mant (Fl.rg a)) (Fl.pl a)) hv => compare_b u _ _ _ v (Fl.sg q != Fl.sg q) (Fl.mant (Fl.rg q) * Fl.mant (Fl.rg q)) (Fl.pl q + Fl.pl q) 2148 x hu hv s1 s3 (by unfold Fl.pl; omega) (by unfold Fl.pl; omega))
  rw [← hcc] at HC
  clear hcc s1 sq s3 hs
  have H1 := Lib.hid h1
  clear h1
  go_enter Try.func33, Try.ntmps33
  go_wp2_with fail
  refine (H1.out _).mono ?_
  rintro e w1 ⟨rfl, hd⟩
  have HB1 := Lib.hid (hd.below w.heap.size)
  clear hd
  go_wp2_with fail
  refine (rfinite_yes a _ ha fa).mono ?_
  rintro e w' ⟨rfl, rfl⟩
  go_wp2_with fail
  refine (float_any q _ h2).mono ?_
  rintro e w2 ⟨vq, rfl, ⟨A, c, rfl, hu⟩, hb2⟩
  have HU := Lib.hid hu
  have HB2 := Lib.hid (HB1.out.trans (hb2.mono HB1.out.size))
  clear hu hb2
  unfold NumV at HP
  generalize (Nt.dg 18446744073709551616 (Fl.mant (Fl.rg q))) = l at *
  generalize l.length = n at *
  generalize Fl.sg q = s at *
  generalize Fl.pl q = e at *
  go_wp2_with fail
  obtain ⟨W, hW⟩ : ∃ W, W = w2.alloc (.cells #[.bool s, .slice A n c, .int .i64 e] 61) := ⟨_, rfl⟩
  obtain ⟨k0, k1, k2, hbw⟩ := new_cells w2 W _ _ _ _ (by rw [hW]; exact Below.refl _ _)
  have hgW : w2.heap.size < W.heap.size := by rw [hW]; exact alloc_lt w2 _
  rw [← hW]
  clear hW
  have HS0 : Hid ((W.drew.cell? ⟨w2.heap.size, 0, none⟩ = some (.bool s) ∧ W.drew.cell? ⟨w2.heap.size, 1, none⟩ = some (.slice A n c) ∧ W.drew.cell? ⟨w2.heap.size, 2, none⟩ = some (.int .i64 e)) ∧ Below w.heap.size w W.drew ∧ w2.heap.size < W.drew.heap.size ∧ U W.drew A n c l) := Lib.hid ⟨⟨k0, k1, k2⟩, (HB2.out.trans (hbw.mono HB2.out.size)).drew, hgW, HU.out.below hbw.drew⟩
  have GO : Hid (∀ x w' : World, ((x.cell? ⟨w2.heap.size, 0, none⟩ = some (.bool s) ∧ x.cell? ⟨w2.heap.size, 1, none⟩ = some (.slice A n c) ∧ x.cell? ⟨w2.heap.size, 2, none⟩ = some (.int .i64 e)) ∧ Below w.heap.size w x ∧ w2.heap.size < x.heap.size ∧ U x A n c l) → Below x.heap.size x w' → ((w'.cell? ⟨w2.heap.size, 0, none⟩ = some (.bool s) ∧ w'.cell? ⟨w2.heap.size, 1, none⟩ = some (.slice A n c) ∧ w'.cell? ⟨w2.heap.size, 2, none⟩ = some (.int .i64 e)) ∧ Below w.heap.size w w' ∧ w2.heap.size < w'.heap.size ∧ U w' A n c l)) :=
    Lib.hid (fun x w' hx hb => ⟨Cells3.below hx.1 hx.2.2.1 hb, hx.2.1.trans (hb.mono hx.2.1.size), Nat.lt_of_lt_of_le hx.2.2.1 hb.size, hx.2.2.2.below hb⟩)
  have HC1 : Hid (∀ x, ((x.cell? ⟨w2.heap.size, 0, none⟩ = some (.bool s) ∧ x.cell? ⟨w2.heap.size, 1, none⟩ = some (.slice A n c) ∧ x.cell? ⟨w2.heap.size, 2, none⟩ = some (.int .i64 e)) ∧ Below w.heap.size w x ∧ w2.heap.size < x.heap.size ∧ U x A n c l) → Calls Try.prog 59 #[.float .f64 a] x fun r w' => ∃ u, r = .returned u ∧ NumV w' u (Fl.sg a) (Fl.mant (Fl.rg a)) (Fl.pl a) ∧ ((w'.cell? ⟨w2.heap.size, 0, none⟩ = some (.bool s) ∧ w'.cell? ⟨w2.heap.size, 1, none⟩ = some (.slice A n c) ∧ w'.cell? ⟨w2.heap.size, 2, none⟩ = some (.int .i64 e)) ∧ Below w.heap.size w w' ∧ w2.heap.size < w'.heap.size ∧ U w' A n c l)) :=
    Lib.hid (fun x hx => (float_any a x ha).mono fun r w' ⟨u, h1, h2, h3⟩ => ⟨u, h1, h2, GO.out x w' hx h3⟩)
  have HC2 : Hid (∀ x, ((x.cell? ⟨w2.heap.size, 0, none⟩ = some (.bool s) ∧ x.cell? ⟨w2.heap.size, 1, none⟩ = some (.slice A n c) ∧ x.cell? ⟨w2.heap.size, 2, none⟩ = some (.int .i64 e)) ∧ Below w.heap.size w x ∧ w2.heap.size < x.heap.size ∧ U x A n c l) → Calls Try.prog 60 #[.agg #[.bool s, .slice A n c, .int .i64 e], .agg #[.bool s, .slice A n c, .int .i64 e]] x fun r w' => ∃ u, r = .returned u ∧ NumV w' u (s != s) (Fl.mant (Fl.rg q) * Fl.mant (Fl.rg q)) (e + e) ∧ Below x.heap.size x w' ∧ ((w'.cell? ⟨w2.heap.size, 0, none⟩ = some (.bool s) ∧ w'.cell? ⟨w2.heap.size, 1, none⟩ = some (.slice A n c) ∧ w'.cell? ⟨w2.heap.size, 2, none⟩ = some (.int .i64 e)) ∧ Below w.heap.size w w' ∧ w2.heap.size < w'.heap.size ∧ U w' A n c l)) :=
    Lib.hid (fun x hx => (HP.out x _ ⟨A, c, rfl, hx.2.2.2⟩).mono fun r w' ⟨u, h1, h2, h3⟩ => ⟨u, h1, h2, h3, GO.out x w' hx h3⟩)
  have HC3 : Hid (∀ x ua ut, ((x.cell? ⟨w2.heap.size, 0, none⟩ = some (.bool s) ∧ x.cell? ⟨w2.heap.size, 1, none⟩ = some (.slice A n c) ∧ x.cell? ⟨w2.heap.size, 2, none⟩ = some (.int .i64 e)) ∧ Below w.heap.size w x ∧ w2.heap.size < x.heap.size ∧ U x A n c l) → NumV x ua (Fl.sg a) (Fl.mant (Fl.rg a)) (Fl.pl a) → NumV x ut (s != s) (Fl.mant (Fl.rg q) * Fl.mant (Fl.rg q)) (e + e) → Calls Try.prog 61 #[ua, ut] x fun r w' => r = .returned (.int .i64 (oi cc)) ∧ ((w'.cell? ⟨w2.heap.size, 0, none⟩ = some (.bool s) ∧ w'.cell? ⟨w2.heap.size, 1, none⟩ = some (.slice A n c) ∧ w'.cell? ⟨w2.heap.size, 2, none⟩ = some (.int .i64 e)) ∧ Below w.heap.size w w' ∧ w2.heap.size < w'.heap.size ∧ U w' A n c l)) :=
    Lib.hid (fun x ua ut hx hua hut => (HC.out x ua ut hua hut).mono fun r w' ⟨h1, h3⟩ => ⟨h1, GO.out x w' hx h3⟩)
  have HC4 := Lib.hid (fun x => rside_any q cc up x h2)
  go_region_held3 (fun x => (x.cell? ⟨w2.heap.size, 0, none⟩ = some (.bool s) ∧ x.cell? ⟨w2.heap.size, 1, none⟩ = some (.slice A n c) ∧ x.cell? ⟨w2.heap.size, 2, none⟩ = some (.int .i64 e)) ∧ Below w.heap.size w x ∧ w2.heap.size < x.heap.size ∧ U x A n c l) ((first | assumption | exact HS0.out)) (first | (go_at_call 59; refine (HC1.out _ ?_).mono ?_; (assumption); rintro r w' ⟨ua, rfl, hua, hS⟩) | (go_at_call 60; refine (HC2.out _ ?_).mono ?_; (assumption); rintro r w' ⟨ut, rfl, hut, hbt, hS2⟩; have hua2 := NumV.below hua hbt) | (go_at_call 61; refine (HC3.out _ _ _ ?_ ?_ ?_).mono ?_; (assumption); (assumption); (assumption); rintro r w' ⟨rfl, hS3⟩) | (go_at_call 56; refine (HC4.out _).mono ?_; rintro r w' ⟨rfl, rfl⟩))
  have HB9 := Lib.hid hS3.2.1
  clear hS3 HS0 HC1 HC2 HC3 HC4 k0 k1 k2 hbw GO
  go_wp2
  go_ret
  exact ⟨rfl, HB9.out⟩
theorem rsqrt_any (a : Nat) (up : Bool) (w : World) (ha : a < 2 * Fl.W) : Calls Try.prog 33 #[.float .f64 a, .bool up] w (FlPostB (Fl.sqrtS a up) w) := by
  unfold Fl.sqrtS
  by_cases h : Fl.rg a < Fl.I ∧ 0 < Fl.rg a ∧ Fl.sg a = false
  · rw [if_pos h]
    have hr := rsqrt_side a up w ha h.1 h.2.1 h.2.2
    rw [cR_eq a h.2.1 h.1 h.2.2] at hr
    exact hr.mono fun e w' ⟨h1, h2⟩ => ⟨_, h1, rfl, h2⟩
  · rw [if_neg h]
    exact (rsqrt_not a up w ha h).mono fun e w' ⟨s, h1, h2, h3⟩ => ⟨s, h1, h2, h3.below _⟩
end Go.Proofs.Ytgockebgcbmgoaa

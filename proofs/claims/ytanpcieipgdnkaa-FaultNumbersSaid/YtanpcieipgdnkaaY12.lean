/-
  rosetteref09's Turn and Roots.
  rosetteref09's order, size, Turn, Ring.
  Plain: the reference's bounds are fault's.
  rosetteref09's part and root: closed values.
  Plain: the reference's upward words are edge's.
  Plain facts: fault's Turn and Ring grow.
  rosetteref09's plus.
  rosetteref09's times and plus.
  rosetteref09's up: the least float that is not below a number.
  rosetteref09's up: the least float that is not below a number.
-/
import Derived.Test.YtanpcieipgdnkaaY11
set_option linter.unusedVariables false
set_option linter.unusedSimpArgs false
namespace Go.Proofs.Ytanpcieipgdnkaa
open Go.RowKit
theorem plusN_exp9 (s : Bool) (N : Nat) (e : Int) (s' : Bool) (M : Nat) (f : Int) : (plusN s N e s' M f).2.2 = e ∨ (plusN s N e s' M f).2.2 = f := by
  unfold plusN
  split
  · exact .inr rfl
  · split
    · exact .inl rfl
    · split <;> (unfold plusC; first | (split <;> first | exact .inl rfl | exact .inr rfl | (split <;> first | exact .inl rfl | exact .inr rfl)))
theorem nearest_zero (v : Value) (s : Bool) (e : Int) (w : World) (hv : NumV w v s 0 e) :
    Calls Try.prog 54 #[v] w fun r w' => r = .returned (.float .f64 0) ∧ Below w.heap.size w w' := by
  have HZ := Lib.hid (fun x (hb : Below w.heap.size w x) => zero_any v s 0 e x (hv.below hb) (by rw [Nt.dg_zero]; decide))
  obtain ⟨A, c, rfl, hu⟩ := hv
  clear hu
  generalize (Nt.dg 18446744073709551616 0).length = n at *
  obtain ⟨k0, k1, k2, hbw⟩ := new_cells w (w.alloc (.cells #[.bool s, .slice A n c, .int .i64 e] 54)) (.bool s) (.slice A n c) (.int .i64 e) 54 (Below.refl _ _)
  have HB := Lib.hid hbw
  clear k0 k1 k2 hbw
  go_enter Try.func54, Try.ntmps54
  go_wp2_with fail
  refine (HZ.out _ HB.out).mono ?_
  rintro r w1 ⟨rfl, hb1⟩
  have HB1 := Lib.hid (HB.out.trans (hb1.mono HB.out.size))
  clear hb1 HZ
  go_wp2
  go_ret
  exact ⟨rfl, HB1.out⟩
theorem nearest_any (v : Value) (N p : Nat) (e : Int) (w : World) (hv : NumV w v false N e) (hN : N ≠ 0) (hp : N < 2 ^ p) (hp2 : p ≤ 5000) (he1 : -2148 ≤ e) (he2 : e ≤ 5000) :
    Calls Try.prog 54 #[v] w fun r w' => r = .returned (.float .f64 (fL (nearN (lowN N e (lastN N e)) (halfN N e (lastN N e))) (lastN N e))) ∧ Below w.heap.size w w' := by
  obtain ⟨last, hlast⟩ : ∃ last, last = lastN N e := ⟨_, rfl⟩
  rw [← hlast]
  have hl : -1074 ≤ last := by rw [hlast]; unfold lastN; omega
  obtain ⟨b1, b2, b3⟩ := Nt.bits_range N hN
  have hbp : bitsN N ≤ p := by
    have h := Nat.lt_of_le_of_lt b2 hp
    have := (Nat.pow_lt_pow_iff_right (a := 2) (by decide)).1 h
    omega
  have hl2 : last ≤ 10000 := by rw [hlast]; unfold lastN; omega
  obtain ⟨s, hs⟩ : ∃ s : Nat, last + 1074 = s := ⟨(last + 1074).toNat, by omega⟩
  obtain ⟨n1, n2⟩ := near_next N e last s hN (by omega) he2 hs hlast
  obtain ⟨M, hM⟩ : ∃ M, M = (cutN N e last).2.1 := ⟨_, rfl⟩
  obtain ⟨f, hf⟩ : ∃ f, f = (cutN N e last).2.2 := ⟨_, rfl⟩
  have hcut : cutN N e last = (false, M, f) := by
    rw [hM, hf]; unfold cutN; rw [if_neg hN]; split <;> rfl
  have hMN : M ≤ N := by
    rw [hM]; unfold cutN; rw [if_neg hN]; split
    · exact Nat.le_refl _
    · exact Nat.div_le_self _ _
  have hfe : f = e ∨ f = last := by
    rw [hf]; unfold cutN; rw [if_neg hN]; split
    · exact .inl rfl
    · exact .inr rfl
  have hfl : last ≤ f := by
    rw [hf]; unfold cutN; rw [if_neg hN]; split
    · rename_i h; exact h
    · exact Int.le_refl _
  have lenN := Nt.len_of_lt N p hp
  have lenM := Nt.len_of_lt M p (Nat.lt_of_le_of_lt hMN hp)
  have hD := Nt.plusN_lt false N e true M f p 30000 hp (Nat.lt_of_le_of_lt hMN hp) (by omega) (by omega)
  have hDe := plusN_exp9 false N e true M f
  have lenD := Nt.len_of_lt _ _ hD
  have h1 : (1 : Nat) < 2 ^ (p + 30000 + 1) := Nat.one_lt_two_pow (by omega)
  have hD2 := Nt.plusN_lt (plusN false N e true M f).1 (plusN false N e true M f).2.1 (plusN false N e true M f).2.2 true 1 (last - 1) (p + 30000 + 1) 30000 hD h1 (by omega) (by omega)
  have lenD2 := Nt.len_of_lt _ _ hD2
  have hr : restN N e last = plusN false N e true M f := by unfold restN; rw [← hM, ← hf]
  have hh : halfN N e last = cmpN (plusN false N e true M f).1 (plusN false N e true M f).2.1 (plusN false N e true M f).2.2 false 1 (last - 1) := by unfold halfN; rw [hr]
  have hlw : lowN N e last = M * 2 ^ (f - last).toNat := by unfold lowN; rw [← hM, ← hf]
  clear hD hD2 h1
  obtain ⟨D, hDD⟩ : ∃ D, D = plusN false N e true M f := ⟨_, rfl⟩
  rw [← hDD] at hDe lenD lenD2 hh
  obtain ⟨D1, D2, D3⟩ := D
  dsimp only at hDe lenD lenD2 hh
  exact nearest_go v N e last M f D1 D2 D3 _ (lowN N e last) w hv hN (by omega) (by omega) he2 (by rw [hlast]; rfl) (by omega) hcut (by omega) hfl (by omega) hlw n1 hDD.symm (by omega) (by omega) (by omega) (by omega) hh
end Go.Proofs.Ytanpcieipgdnkaa

namespace Go.Proofs.Ytanpcieipgdnkaa
open Go.RowKit
/-- k is the word of the least rung whose value is not below X units of 2^-2148. -/
def Fl.UpW (X k : Nat) : Prop := ∃ q, k = min q Fl.I ∧ X ≤ Fl.rv q * 2 ^ 1074 ∧ (0 < q → Fl.rv (q - 1) * 2 ^ 1074 < X)
theorem nv_word (f : Nat) (hf : f < Fl.I) : Fl.sg f = false ∧ Fl.rg f = f ∧ Nt.nv (Fl.sg f) (Fl.mant (Fl.rg f)) (Fl.pl f) 2148 = ((Fl.rv f * 2 ^ 1074 : Nat) : Int) := by
  have hW := Nat.lt_trans hf Fl.I_lt_W
  have hr : Fl.rg f = f := Nat.mod_eq_of_lt hW
  have hs : Fl.sg f = false := by
    have e : Fl.sg f = (f / Fl.W % 2 == 1) := rfl
    rw [e, Nat.div_eq_of_lt hW]; rfl
  refine ⟨hs, hr, ?_⟩
  rw [hs, hr]
  unfold Nt.nv Nt.sz Fl.pl Fl.rv
  rw [hr, if_neg (by simp), show (-1074 + ((Fl.ex f : Nat) : Int) + 2148).toNat = Fl.ex f + 1074 by omega, Nat.pow_add, Nat.mul_assoc]
theorem up_any (v : Value) (s : Bool) (N p : Nat) (e : Int) (w : World) (hv : NumV w v s N e) (hs : N ≠ 0 → s = false) (hp : N < 2 ^ p) (hp2 : p ≤ 5000) (he1 : -2148 ≤ e) (he2 : e ≤ 5000) :
    Calls Try.prog 40 #[v] w fun r w' => ∃ k, r = .returned (.float .f64 k) ∧ k ≤ Fl.I ∧ Fl.UpW (N * 2 ^ (e + 2148).toNat) k ∧ Below w.heap.size w w' := by
  have hIW := Fl.I_lt_W
  have lenN := Nt.len_of_lt N p hp
  -- of a float below infinity
  have fin : ∀ f g : Nat, f < Fl.I → (∀ x, Below w.heap.size w x → Calls Try.prog 54 #[v] x fun r w' => r = .returned (.float .f64 f) ∧ Below x.heap.size x w') →
      (Fl.rv f * 2 ^ 1074 < N * 2 ^ (e + 2148).toNat → ∀ x, Calls Try.prog 15 #[.float .f64 f, .float .f64 Fl.I] x fun r w' => r = .returned (.float .f64 g) ∧ x = w') →
      Calls Try.prog 40 #[v] w fun r w' => r = .returned (.float .f64 (if Fl.rv f * 2 ^ 1074 < N * 2 ^ (e + 2148).toNat then g else f)) ∧ Below w.heap.size w w' := by
    intro f g hf hn hg
    obtain ⟨e1, e2, e3⟩ := nv_word f hf
    have hm := Fl.mant_lt (Fl.rg f)
    have hm2 : Fl.mant (Fl.rg f) < 2 ^ 53 := by unfold Fl.B at hm; omega
    have lenF := Nt.len_of_lt _ 53 hm2
    have hpl : -1074 ≤ Fl.pl f ∧ Fl.pl f ≤ 1100 := by
      have hx : Fl.ex (Fl.rg f) ≤ 2047 := by
        rw [e2]; unfold Fl.ex
        have : f / Fl.B ≤ 2047 := by unfold Fl.B; unfold Fl.I at hf; omega
        omega
      unfold Fl.pl; omega
    obtain ⟨P, hP⟩ : ∃ P, P = 5053 := ⟨_, rfl⟩
    have hD := Nt.plusN_lt (Fl.sg f) (Fl.mant (Fl.rg f)) (Fl.pl f) (!s) N e P 10000 (Nat.lt_of_lt_of_le hm2 (Nat.pow_le_pow_right (by decide) (by omega))) (Nat.lt_of_lt_of_le hp (Nat.pow_le_pow_right (by decide) (by omega))) (by omega) (by omega)
    have lenD := Nt.len_of_lt _ _ hD
    have hnv : Nt.nv s N e 2148 = ((N * 2 ^ (e + 2148).toNat : Nat) : Int) := by
      unfold Nt.nv Nt.sz
      by_cases h0 : N = 0
      · rw [h0, Nat.zero_mul]; split <;> rfl
      · rw [hs h0, if_neg (by simp)]
    have hval := Nt.cmpN_val (Fl.sg f) (Fl.mant (Fl.rg f)) (Fl.pl f) s N e 2148 (by omega) (by omega)
    rw [e3, hnv] at hval
    have hT : (cmpN (Fl.sg f) (Fl.mant (Fl.rg f)) (Fl.pl f) s N e < 0) ↔ Fl.rv f * 2 ^ 1074 < N * 2 ^ (e + 2148).toNat := by
      rw [hval]
      unfold Nt.ordI
      generalize Fl.rv f * 2 ^ 1074 = Y
      generalize N * 2 ^ (e + 2148).toNat = X
      constructor
      · intro h; split at h
        · omega
        · split at h <;> omega
      · intro h; rw [if_pos (by omega)]; decide
    clear hD
    have h := up_fin v s N e f g (Fl.sg f) (Fl.mant (Fl.rg f)) (Fl.pl f) (cmpN (Fl.sg f) (Fl.mant (Fl.rg f)) (Fl.pl f) s N e) w hv (by omega) (by rw [e2]; exact hf) hn (fun x => float_any f x (by omega))
      (fun x u v' hu hv' => compare_any u _ _ _ v' s N e x hu hv' (by omega) (by omega) (by omega) (by omega) (by omega) (by omega) (by omega)) (fun ht => hg (hT.1 ht))
    refine h.mono fun r w' ⟨k1, k2⟩ => ⟨?_, k2⟩
    rw [k1]
    by_cases hc : Fl.rv f * 2 ^ 1074 < N * 2 ^ (e + 2148).toNat
    · rw [if_pos hc, if_pos (hT.2 hc)]
    · rw [if_neg hc, if_neg (fun hh => hc (hT.1 hh))]
  by_cases hN : N = 0
  · subst hN
    have h := fin 0 0 (by decide) (fun x hb => nearest_zero v s e x (hv.below hb)) (fun hh => by rw [Nat.zero_mul] at hh; omega)
    refine h.mono fun r w' ⟨k1, k2⟩ => ⟨0, ?_, Nat.zero_le _, ⟨0, (Nat.zero_min _).symm, by rw [Nat.zero_mul]; exact Nat.zero_le _, fun hh => absurd hh (Nat.lt_irrefl 0)⟩, k2⟩
    rw [k1]; split <;> rfl
  · obtain rfl := hs hN
    obtain ⟨r, r1, r2, r3⟩ := nearest_next N e hN (by omega) he2
    have hnear := fun x (hb : Below w.heap.size w x) => nearest_any v N p e x (hv.below hb) hN hp hp2 he1 he2
    rw [r1] at hnear
    have hwd : Fl.wd false (min r Fl.I) = min r Fl.I := rfl
    rw [hwd] at hnear
    clear r1
    generalize hX : N * 2 ^ (e + 2148).toNat = X at *
    have mono : Fl.rv r * 2 ^ 1074 < Fl.rv (r + 1) * 2 ^ 1074 := Nat.mul_lt_mul_of_pos_right (Fl.rv_lt_succ r) (Nat.two_pow_pos 1074)
    generalize hA : Fl.rv r * 2 ^ 1074 = A at *
    have hup : ∀ k, (k = min (r + 1) Fl.I ∧ A < X) ∨ (k = min r Fl.I ∧ X ≤ A) → Fl.UpW X k := by
      intro k hk
      rcases hk with ⟨h1, h2⟩ | ⟨h1, h2⟩
      · exact ⟨r + 1, h1, Nat.le_of_lt r2, fun _ => by rw [Nat.add_sub_cancel, hA]; exact h2⟩
      · exact ⟨r, h1, by rw [hA]; exact h2, r3⟩
    by_cases hr : r < Fl.I
    · rw [Nat.min_eq_left (Nat.le_of_lt hr)] at hnear
      have h := fin r (r + 1) hr hnear (fun _ x => by
        rcases Nat.eq_zero_or_pos r with h0 | h0
        · subst h0; exact nextafter_zero x
        · exact nextafter_up r Fl.I x h0 hr (Nat.le_refl _))
      rw [hA] at h
      refine h.mono fun r' w' ⟨k1, k2⟩ => ⟨_, k1, ?_, hup _ ?_, k2⟩
      · split <;> omega
      · by_cases hc : A < X
        · rw [if_pos hc]; exact .inl ⟨(Nat.min_eq_left hr).symm, hc⟩
        · rw [if_neg hc]; exact .inr ⟨(Nat.min_eq_left (Nat.le_of_lt hr)).symm, by omega⟩
    · rw [Nat.min_eq_right (by omega)] at hnear
      have h := up_inf v false N e Fl.I w hv (by decide) hnear
      refine h.mono fun r' w' ⟨k1, k2⟩ => ⟨Fl.I, k1, Nat.le_refl _, hup _ ?_, k2⟩
      by_cases hc : A < X
      · exact .inl ⟨(Nat.min_eq_right (by omega)).symm, hc⟩
      · exact .inr ⟨(Nat.min_eq_right (by omega)).symm, by omega⟩
end Go.Proofs.Ytanpcieipgdnkaa

namespace Go.Proofs.Ytanpcieipgdnkaa
open Go.RowKit
theorem sg_of_pos {a : Nat} (h : 0 ≤ Fl.key a) (h0 : Fl.mant (Fl.rg a) ≠ 0) : Fl.sg a = false := by
  have hr : 0 < Fl.rg a := by
    rcases Nat.eq_zero_or_pos (Fl.rg a) with hz | hz
    · rw [hz] at h0; exact absurd (by decide) h0
    · exact hz
  rw [Fl.key_of] at h
  unfold Fl.sgz at h
  cases hs : Fl.sg a
  · rfl
  · rw [hs] at h; simp at h; omega
theorem rtimes_fin (a b : Nat) (w : World) (ha : a < 2 * Fl.W) (hb : b < 2 * Fl.W) (fa : Fl.rg a < Fl.I) (fb : Fl.rg b < Fl.I) (pa : 0 ≤ Fl.key a) (pb : 0 ≤ Fl.key b) :
    Calls Try.prog 28 #[.float .f64 a, .float .f64 b] w fun r w' => ∃ k, r = .returned (.float .f64 k) ∧ k ≤ Fl.I ∧ Fl.UpW (Fl.rv (Fl.rg a) * Fl.rv (Fl.rg b)) k ∧ Below w.heap.size w w' := by
  have r1 := fun w => run_float_arith (P := Try.prog) w .sub 22 .f64 a a 0 (Fl.sub_self_fin a ha fa)
  have r2 := fun w => run_float_arith (P := Try.prog) w .sub 22 .f64 b b 0 (Fl.sub_self_fin b hb fb)
  have o1 : FloatKind.f64.format.order 0 0 = some .eq := by decide
  have ma : Fl.mant (Fl.rg a) < 2 ^ 53 := by have := Fl.mant_lt (Fl.rg a); unfold Fl.B at this; omega
  have mb : Fl.mant (Fl.rg b) < 2 ^ 53 := by have := Fl.mant_lt (Fl.rg b); unfold Fl.B at this; omega
  have la := Nt.len_of_lt _ _ ma
  have lb := Nt.len_of_lt _ _ mb
  have ex : ∀ x, Fl.rg x < Fl.I → -1074 ≤ Fl.pl x ∧ Fl.pl x ≤ 1100 := fun x hx => by
    have h2 : Fl.ex (Fl.rg x) ≤ 2047 := by
      unfold Fl.ex
      have : Fl.rg x / Fl.B ≤ 2047 := by unfold Fl.B; unfold Fl.I at hx; omega
      omega
    unfold Fl.pl; omega
  have ea := ex a fa
  have eb := ex b fb
  have hsn : Fl.mant (Fl.rg a) * Fl.mant (Fl.rg b) ≠ 0 → (Fl.sg a != Fl.sg b) = false := fun h => by
    rw [sg_of_pos pa (fun hz => h (by rw [hz, Nat.zero_mul])), sg_of_pos pb (fun hz => h (by rw [hz, Nat.mul_zero]))]; rfl
  have hX : Fl.mant (Fl.rg a) * Fl.mant (Fl.rg b) * 2 ^ (Fl.pl a + Fl.pl b + 2148).toNat = Fl.rv (Fl.rg a) * Fl.rv (Fl.rg b) := by
    unfold Fl.rv Fl.pl
    rw [show (-1074 + ((Fl.ex (Fl.rg a) : Nat) : Int) + (-1074 + ((Fl.ex (Fl.rg b) : Nat) : Int)) + 2148).toNat = Fl.ex (Fl.rg a) + Fl.ex (Fl.rg b) by omega, Nat.pow_add]
    ac_rfl
  have hlt : Fl.mant (Fl.rg a) * Fl.mant (Fl.rg b) < 2 ^ 106 := by
    have : Fl.mant (Fl.rg a) * Fl.mant (Fl.rg b) < 2 ^ 53 * 2 ^ 53 := Nat.mul_lt_mul'' ma mb
    rwa [← Nat.pow_add] at this
  have HT := Lib.hid (fun x u v hu hv => times_any u (Fl.sg a) (Fl.mant (Fl.rg a)) (Fl.pl a) v (Fl.sg b) (Fl.mant (Fl.rg b)) (Fl.pl b) x hu hv (by omega) (by omega) (by omega) (by omega) (by omega) (by omega))
  have hup := fun x u hu => up_any u (Fl.sg a != Fl.sg b) (Fl.mant (Fl.rg a) * Fl.mant (Fl.rg b)) 106 (Fl.pl a + Fl.pl b) x hu hsn hlt (by omega) (by omega) (by omega)
  rw [hX] at hup
  have HU := Lib.hid hup
  clear hup hX hsn hlt ma mb la lb ea eb ex
  generalize Fl.rv (Fl.rg a) * Fl.rv (Fl.rg b) = X at *
  go_enter Try.func28, Try.ntmps28
  go_wp2_with fail
  refine (float_any a _ ha).mono ?_
  rintro e w1 ⟨va, rfl, hva, hb1⟩
  have HVA := Lib.hid hva
  have HB1 := Lib.hid hb1
  clear hva hb1
  go_wp2_with fail
  refine (float_any b _ hb).mono ?_
  rintro e w2 ⟨vb, rfl, hvb, hb2⟩
  have HVB := Lib.hid hvb
  have HVA2 := Lib.hid (HVA.out.below hb2)
  have HB2 := Lib.hid (HB1.out.trans (hb2.mono HB1.out.size))
  clear hvb hb2 HVA
  go_wp2_with fail
  refine (HT.out w2 va vb HVA2.out HVB.out).mono ?_
  rintro e w3 ⟨vs, rfl, hvs, hb3⟩
  have HVS := Lib.hid hvs
  have HB3 := Lib.hid (HB2.out.trans (hb3.mono HB2.out.size))
  clear hvs hb3 HVB HVA2
  go_wp2_with fail
  refine (HU.out w3 vs HVS.out).mono ?_
  rintro e w4 ⟨k, rfl, hk, huk, hb4⟩
  have HK := Lib.hid hk
  have HUK := Lib.hid huk
  have HB4 := Lib.hid (HB3.out.trans (hb4.mono HB3.out.size))
  clear hb4 hk huk
  go_wp2
  go_ret
  exact ⟨k, rfl, HK.out, HUK.out, HB4.out⟩
end Go.Proofs.Ytanpcieipgdnkaa

namespace Go.Proofs.Ytanpcieipgdnkaa
open Go.RowKit
theorem nv_pos9 {a : Nat} (h : 0 ≤ Fl.key a) : Nt.nv (Fl.sg a) (Fl.mant (Fl.rg a)) (Fl.pl a) 2148 = ((Fl.rv (Fl.rg a) * 2 ^ 1074 : Nat) : Int) := by
  have e : Fl.mant (Fl.rg a) * 2 ^ (Fl.pl a + 2148).toNat = Fl.rv (Fl.rg a) * 2 ^ 1074 := by
    unfold Fl.rv Fl.pl
    rw [show (-1074 + ((Fl.ex (Fl.rg a) : Nat) : Int) + 2148).toNat = Fl.ex (Fl.rg a) + 1074 by omega, Nat.pow_add, Nat.mul_assoc]
  unfold Nt.nv Nt.sz
  by_cases h0 : Fl.mant (Fl.rg a) = 0
  · have hz : Fl.rv (Fl.rg a) = 0 := by unfold Fl.rv; rw [h0, Nat.zero_mul]
    have z1 : Fl.mant (Fl.rg a) * 2 ^ (Fl.pl a + 2148).toNat = 0 := by rw [h0, Nat.zero_mul]
    rw [e] at z1
    rw [e, z1]; split <;> rfl
  · rw [sg_of_pos h h0, if_neg (by simp), e]
theorem rplus_fin (a b : Nat) (w : World) (ha : a < 2 * Fl.W) (hb : b < 2 * Fl.W) (fa : Fl.rg a < Fl.I) (fb : Fl.rg b < Fl.I) (pa : 0 ≤ Fl.key a) (pb : 0 ≤ Fl.key b) :
    Calls Try.prog 27 #[.float .f64 a, .float .f64 b] w fun r w' => ∃ k, r = .returned (.float .f64 k) ∧ k ≤ Fl.I ∧ Fl.UpW ((Fl.rv (Fl.rg a) + Fl.rv (Fl.rg b)) * 2 ^ 1074) k ∧ Below w.heap.size w w' := by
  have r1 := fun w => run_float_arith (P := Try.prog) w .sub 22 .f64 a a 0 (Fl.sub_self_fin a ha fa)
  have o1 : FloatKind.f64.format.order 0 0 = some .eq := by decide
  have ma : Fl.mant (Fl.rg a) < 2 ^ 53 := by have := Fl.mant_lt (Fl.rg a); unfold Fl.B at this; omega
  have mb : Fl.mant (Fl.rg b) < 2 ^ 53 := by have := Fl.mant_lt (Fl.rg b); unfold Fl.B at this; omega
  have la := Nt.len_of_lt _ _ ma
  have lb := Nt.len_of_lt _ _ mb
  have ex : ∀ x, Fl.rg x < Fl.I → -1074 ≤ Fl.pl x ∧ Fl.pl x ≤ 1100 := fun x hx => by
    have h2 : Fl.ex (Fl.rg x) ≤ 2047 := by
      unfold Fl.ex
      have : Fl.rg x / Fl.B ≤ 2047 := by unfold Fl.B; unfold Fl.I at hx; omega
      omega
    unfold Fl.pl; omega
  have ea := ex a fa
  have eb := ex b fb
  obtain ⟨g1, g2⟩ := Nt.plusN_val (Fl.sg a) (Fl.mant (Fl.rg a)) (Fl.pl a) (Fl.sg b) (Fl.mant (Fl.rg b)) (Fl.pl b) 2148 (by omega) (by omega)
  rw [nv_pos9 pa, nv_pos9 pb] at g2
  have hD := Nt.plusN_lt (Fl.sg a) (Fl.mant (Fl.rg a)) (Fl.pl a) (Fl.sg b) (Fl.mant (Fl.rg b)) (Fl.pl b) 53 2500 ma mb (by omega) (by omega)
  have hDe := plusN_exp9 (Fl.sg a) (Fl.mant (Fl.rg a)) (Fl.pl a) (Fl.sg b) (Fl.mant (Fl.rg b)) (Fl.pl b)
  have HP := Lib.hid (fun x u v hu hv => plus_any u (Fl.sg a) (Fl.mant (Fl.rg a)) (Fl.pl a) v (Fl.sg b) (Fl.mant (Fl.rg b)) (Fl.pl b) x hu hv (by omega) (by omega) (by omega) (by omega) (by omega) (by omega))
  obtain ⟨D, hDD⟩ : ∃ D, D = plusN (Fl.sg a) (Fl.mant (Fl.rg a)) (Fl.pl a) (Fl.sg b) (Fl.mant (Fl.rg b)) (Fl.pl b) := ⟨_, rfl⟩
  rw [← hDD] at g1 g2 hD hDe HP
  obtain ⟨D1, D2, D3⟩ := D
  dsimp only at g1 g2 hD hDe
  have hpos : 0 < 2 ^ (D3 + 2148).toNat := Nat.two_pow_pos _
  have hX : D2 * 2 ^ (D3 + 2148).toNat = (Fl.rv (Fl.rg a) + Fl.rv (Fl.rg b)) * 2 ^ 1074 ∧ (D2 ≠ 0 → D1 = false) := by
    unfold Nt.nv Nt.sz at g2
    rw [Nat.add_mul]
    have hm : D2 ≠ 0 → 0 < D2 * 2 ^ (D3 + 2148).toNat := fun h => Nat.mul_pos (Nat.pos_of_ne_zero h) hpos
    generalize D2 * 2 ^ (D3 + 2148).toNat = Z at *
    generalize Fl.rv (Fl.rg a) * 2 ^ 1074 = A at *
    generalize Fl.rv (Fl.rg b) * 2 ^ 1074 = B at *
    cases D1
    · rw [if_neg (by simp)] at g2
      exact ⟨by omega, fun _ => rfl⟩
    · rw [if_pos rfl] at g2
      exact ⟨by omega, fun h => by have := hm h; omega⟩
  have hup := fun x u hu => up_any u D1 D2 (53 + 2500 + 1) D3 x hu hX.2 hD (by omega) (by omega) (by omega)
  rw [hX.1] at hup
  have HU := Lib.hid hup
  clear hup hX hD hDe hDD g1 g2 ma mb la lb ea eb ex hpos
  generalize (Fl.rv (Fl.rg a) + Fl.rv (Fl.rg b)) * 2 ^ 1074 = X at *
  unfold NumPost at HP
  dsimp only at HP
  go_enter Try.func27, Try.ntmps27
  go_wp2_with fail
  refine (float_any a _ ha).mono ?_
  rintro e w1 ⟨va, rfl, hva, hb1⟩
  have HVA := Lib.hid hva
  have HB1 := Lib.hid hb1
  clear hva hb1
  go_wp2_with fail
  refine (float_any b _ hb).mono ?_
  rintro e w2 ⟨vb, rfl, hvb, hb2⟩
  have HVB := Lib.hid hvb
  have HVA2 := Lib.hid (HVA.out.below hb2)
  have HB2 := Lib.hid (HB1.out.trans (hb2.mono HB1.out.size))
  clear hvb hb2 HVA
  go_wp2_with fail
  refine (HP.out w2 va vb HVA2.out HVB.out).mono ?_
  rintro e w3 ⟨vs, rfl, hvs, hb3⟩
  have HVS := Lib.hid hvs
  have HB3 := Lib.hid (HB2.out.trans (hb3.mono HB2.out.size))
  clear hvs hb3 HVB HVA2
  go_wp2_with fail
  refine (HU.out w3 vs HVS.out).mono ?_
  rintro e w4 ⟨k, rfl, hk, huk, hb4⟩
  have HK := Lib.hid hk
  have HUK := Lib.hid huk
  have HB4 := Lib.hid (HB3.out.trans (hb4.mono HB3.out.size))
  clear hb4 hk huk
  go_wp2
  go_ret
  exact ⟨k, rfl, HK.out, HUK.out, HB4.out⟩
theorem rplus_inf (a b : Nat) (w : World) (fa : ¬ Fl.rg a < Fl.I) :
    Calls Try.prog 27 #[.float .f64 a, .float .f64 b] w fun r w' => r = .returned (.float .f64 a) ∧ Below w.heap.size w w' := by
  obtain ⟨s, w1, hr, hs, hw1⟩ := run_float_any .sub 22 a a w (by simp)
  have hs1 : Fl.Is none s := by rw [← Fl.sub_self_not a fa]; exact hs
  have ho := nan_order s hs1.1
  have HD : Hid (Dr w w1) := by rcases hw1 with rfl | rfl; exact Dr.refl _; exact Dr.drew _
  clear hs hs1 hw1 fa
  go_enter Try.func27, Try.ntmps27
  go_wp2
  go_ret
  exact ⟨rfl, HD.out.below2 _⟩
end Go.Proofs.Ytanpcieipgdnkaa

namespace Go.Proofs.Ytanpcieipgdnkaa
open Go.RowKit
open Fl

/-- Words from 0 to 2^201. -/
def Sz (r : Nat) : Prop := r ≤ 5512405943901487104
theorem Sz.facts {r : Nat} (h : Sz r) : r < 2 * W ∧ rg r = r ∧ sg r = false ∧ Pos r ∧ key r = r := by
  unfold Sz at h
  have hI : r < I := by unfold I; omega
  have hW : r < W := Nat.lt_trans hI I_lt_W
  have h1 : rg r = r := Nat.mod_eq_of_lt hW
  have h2 : sg r = false := by unfold sg; rw [Nat.div_eq_of_lt hW]; rfl
  have h3 : key r = r := key_pos r hW
  exact ⟨by omega, h1, h2, ⟨by rw [h1]; exact hI, by rw [h3]; omega⟩, h3⟩
theorem Sz.may {r : Nat} (h : Sz r) : badB r = false ∧ overB r = false := by
  obtain ⟨_, h1, h2, h3, _⟩ := h.facts
  unfold badB overB
  rw [h1, h2]
  unfold Sz at h
  constructor
  · rw [decide_eq_false (by unfold I; omega)]; rfl
  · rw [decide_eq_false (by omega)]; rfl
theorem may_turn {k : Nat} {x : Nat} (hk : k ≤ 14) (h : Sz x) : mayV (k : Int) 1 (fun _ => x) = 0 := by
  unfold mayV
  rw [if_neg (by omega), any_no (fun _ _ => h.may.1), any_no (fun _ _ => h.may.2)]; rfl
theorem may_ring {k : Nat} {x y : Nat} (hk : k ≤ 14) (h : Sz x) (h' : Sz y) : mayV (k : Int) 2 (z2 x y) = 0 := by
  unfold mayV
  rw [if_neg (by omega), any_no (fun j _ => by unfold z2; split; exact h.may.1; exact h'.may.1), any_no (fun j _ => by unfold z2; split; exact h.may.2; exact h'.may.2)]; rfl
/-- What Turn tells of a size. -/
def TurnIs (k x s : Nat) : Prop := ∃ u, Is (mulS (tC k) x true) u ∧ Is (addS u 103582791429521408 true) s
/-- What Ring tells of sizes. -/
def RingIs (k a b s : Nat) : Prop := ∃ u1 u2 u3, Is (mulS (rC k) (rS k) true) u1 ∧ Is (mulS u1 a true) u2 ∧ Is (mulS u2 b true) u3 ∧ Is (addS u3 103582791429521408 true) s
def big : Nat := 5512405943901487104
theorem big_sz : Sz big := Nat.le_refl _
def T1 : Nat := (mulS (tC 14) big true).getD 0
def T2 : Nat := (addS T1 103582791429521408 true).getD 0
def R1 : Nat := (mulS (rC 14) (rS 14) true).getD 0
def R2 : Nat := (mulS R1 big true).getD 0
def R3 : Nat := (mulS R2 big true).getD 0
def R4 : Nat := (addS R3 103582791429521408 true).getD 0
theorem top_t : mulS (tC 14) big true = some T1 ∧ addS T1 103582791429521408 true = some T2 ∧ T1 < 2 * W ∧ rg T1 < I ∧ 0 ≤ key T1 ∧ rg T1 + B < I ∧ rg T2 + B < I := by decide +kernel
theorem top_r : mulS (rC 14) (rS 14) true = some R1 ∧ mulS R1 big true = some R2 ∧ mulS R2 big true = some R3 ∧ addS R3 103582791429521408 true = some R4 ∧ rg R1 < I ∧ 0 ≤ key R1 ∧ rg R2 < I ∧ 0 ≤ key R2 ∧ R3 < 2 * W ∧ 0 ≤ key R3 ∧ rg R3 + B < I ∧ rg R4 + B < I := by decide +kernel
theorem fac_up : ∀ k : Fin 15, rg (tC k.val) < I ∧ 0 ≤ key (tC k.val) ∧ key (tC k.val) ≤ key (tC 14) ∧ tC k.val < 2 * W ∧ rg (rC k.val) < I ∧ 0 ≤ key (rC k.val) ∧ key (rC k.val) ≤ key (rC 14) ∧ rg (rS k.val) < I ∧ 0 ≤ key (rS k.val) ∧ key (rS k.val) ≤ key (rS 14) ∧ rC k.val < 2 * W ∧ rS k.val < 2 * W := by decide +kernel
theorem fac_next : ∀ k : Fin 14, key (tC k.val) ≤ key (tC (k.val + 1)) ∧ key (rC k.val) ≤ key (rC (k.val + 1)) ∧ key (rS k.val) ≤ key (rS (k.val + 1)) := by decide +kernel
theorem fac_at (k : Nat) (hk : k ≤ 14) : rg (tC k) < I ∧ 0 ≤ key (tC k) ∧ key (tC k) ≤ key (tC 14) ∧ tC k < 2 * W ∧ rg (rC k) < I ∧ 0 ≤ key (rC k) ∧ key (rC k) ≤ key (rC 14) ∧ rg (rS k) < I ∧ 0 ≤ key (rS k) ∧ key (rS k) ≤ key (rS 14) ∧ rC k < 2 * W ∧ rS k < 2 * W := fac_up ⟨k, by omega⟩
theorem le_big {x : Nat} (h : Sz x) : key x ≤ key big := by
  rw [h.facts.2.2.2.2, big_sz.facts.2.2.2.2]; unfold Sz at h; unfold big; omega
theorem room_of {s S : Nat} (h : Pos s) (hk : key s ≤ key S) (hS : rg S + B < I) : rg s + B < I := by
  have h1 := key_pos_rg h.2
  rw [h1] at hk
  have h2 : key S ≤ rg S := by unfold key; split <;> omega
  omega
theorem mul_pos {k x u : Nat} (hk : k ≤ 14) (hx : Sz x) (h1 : Is (mulS (tC k) x true) u) : u < 2 * W ∧ Pos u ∧ key u ≤ key T1 := by
  obtain ⟨t1, t2, t3, t4, t5, t6, t7⟩ := top_t
  obtain ⟨f1, f2, f3, f4, _⟩ := fac_at k hk
  obtain ⟨g1, g2, _⟩ := fac_at 14 (by omega)
  have h3 := step_pos ⟨f1, f2⟩ hx.facts.2.2.2.1 h1 ⟨g1, g2⟩ big_sz.facts.2.2.2.1 t1 t4 f3 (le_big hx)
  exact ⟨Fl.Is_lt_mul2 f4 hx.facts.1 h1, h3⟩
theorem TurnIs.fin {k x s : Nat} (hk : k ≤ 14) (hx : Sz x) (h : TurnIs k x s) : Pos s ∧ rg s + B < I ∧ key 103582791429521408 ≤ key s := by
  obtain ⟨u, h1, h2⟩ := h
  obtain ⟨t1, t2, t3, t4, t5, t6, t7⟩ := top_t
  obtain ⟨w1, p1, k1⟩ := mul_pos hk hx h1
  have h4 := last_fin w1 t3 p1 ⟨t4, t5⟩ h2 t2 (by omega) k1
  exact ⟨h4.1, room_of h4.1 h4.2 t7, last_ge w1 p1 h2⟩
theorem TurnIs.mono {k k' x x' s s' : Nat} (hk : k ≤ 14) (hk' : k' ≤ 14) (hx : Sz x) (hx' : Sz x') (h : TurnIs k x s) (h' : TurnIs k' x' s') (hkk : key (tC k) ≤ key (tC k')) (hxx : x ≤ x') : key s ≤ key s' := by
  obtain ⟨u, h1, h2⟩ := h
  obtain ⟨u', h1', h2'⟩ := h'
  obtain ⟨w1, p1, k1⟩ := mul_pos hk hx h1
  obtain ⟨w1', p1', k1'⟩ := mul_pos hk' hx' h1'
  obtain ⟨f1, f2, _⟩ := fac_at k hk
  obtain ⟨g1, g2, _⟩ := fac_at k' hk'
  refine last_mono w1 w1' p1 p1' h2 h2' (step_mono ⟨f1, f2⟩ hx.facts.2.2.2.1 ⟨g1, g2⟩ hx'.facts.2.2.2.1 h1 h1' (vl_le.2 hkk) (vl_le.2 ?_))
  rw [hx.facts.2.2.2.2, hx'.facts.2.2.2.2]; omega
theorem TurnIs.twice {k x x' s s' : Nat} (hk : k ≤ 14) (hx : Sz x) (hx' : Sz x') (h : TurnIs k x s) (h' : TurnIs k x' s') (h2 : vl x' = 2 * vl x) : vl s' ≤ 2 * vl s := by
  obtain ⟨_, hr, _⟩ := h.fin hk hx
  obtain ⟨u, h1, h2a⟩ := h
  obtain ⟨u', h1', h2'⟩ := h'
  obtain ⟨w1, p1, k1⟩ := mul_pos hk hx h1
  obtain ⟨w1', p1', k1'⟩ := mul_pos hk hx' h1'
  obtain ⟨f1, f2, _⟩ := fac_at k hk
  obtain ⟨t1, t2, t3, t4, t5, t6, t7⟩ := top_t
  exact last_twice w1 w1' p1 p1' h2a h2' (step_twice ⟨f1, f2⟩ hx.facts.2.2.2.1 hx'.facts.2.2.2.1 h1 h1' h2 (room_of p1 k1 t6)) hr
theorem ring_chain {k a b u1 u2 u3 : Nat} (hk : k ≤ 14) (ha : Sz a) (hb : Sz b) (h1 : Is (mulS (rC k) (rS k) true) u1) (h2 : Is (mulS u1 a true) u2) (h3 : Is (mulS u2 b true) u3) :
    Pos u1 ∧ Pos u2 ∧ Pos u3 ∧ u3 < 2 * W ∧ key u3 ≤ key R3 := by
  obtain ⟨t1, t2, t3, t4, t5, t6, t7, t8, t9, t10, t11, t12⟩ := top_r
  obtain ⟨_, _, _, _, f1, f2, f3, f4, f5, f6, f7, f8⟩ := fac_at k hk
  obtain ⟨_, _, _, _, g1, g2, _, g4, g5, _⟩ := fac_at 14 (by omega)
  have s1 := step_pos ⟨f1, f2⟩ ⟨f4, f5⟩ h1 ⟨g1, g2⟩ ⟨g4, g5⟩ t1 t5 f3 f6
  have s2 := step_pos s1.1 ha.facts.2.2.2.1 h2 ⟨t5, t6⟩ big_sz.facts.2.2.2.1 t2 t7 s1.2 (le_big ha)
  have s3 := step_pos s2.1 hb.facts.2.2.2.1 h3 ⟨t7, t8⟩ big_sz.facts.2.2.2.1 t3 (by omega) s2.2 (le_big hb)
  exact ⟨s1.1, s2.1, s3.1, Fl.Is_lt_mul2 (Fl.Is_lt_mul2 (Fl.Is_lt_mul2 f7 f8 h1) ha.facts.1 h2) hb.facts.1 h3, s3.2⟩
theorem RingIs.fin {k a b s : Nat} (hk : k ≤ 14) (ha : Sz a) (hb : Sz b) (h : RingIs k a b s) : Pos s ∧ rg s + B < I ∧ key 103582791429521408 ≤ key s := by
  obtain ⟨u1, u2, u3, h1, h2, h3, h4⟩ := h
  obtain ⟨t1, t2, t3, t4, t5, t6, t7, t8, t9, t10, t11, t12⟩ := top_r
  obtain ⟨_, _, p3, w3, k3⟩ := ring_chain hk ha hb h1 h2 h3
  have h5 := last_fin w3 t9 p3 ⟨by omega, t10⟩ h4 t4 (by omega) k3
  exact ⟨h5.1, room_of h5.1 h5.2 t12, last_ge w3 p3 h4⟩
theorem RingIs.mono {k k' a a' b b' s s' : Nat} (hk : k ≤ 14) (hk' : k' ≤ 14) (ha : Sz a) (ha' : Sz a') (hb : Sz b) (hb' : Sz b') (h : RingIs k a b s) (h' : RingIs k' a' b' s') (hc : key (rC k) ≤ key (rC k')) (hs : key (rS k) ≤ key (rS k')) (haa : a ≤ a') (hbb : b ≤ b') : key s ≤ key s' := by
  obtain ⟨u1, u2, u3, h1, h2, h3, h4⟩ := h
  obtain ⟨v1, v2, v3, g1, g2, g3, g4⟩ := h'
  obtain ⟨p1, p2, p3, w3, k3⟩ := ring_chain hk ha hb h1 h2 h3
  obtain ⟨q1, q2, q3, x3, y3⟩ := ring_chain hk' ha' hb' g1 g2 g3
  obtain ⟨_, _, _, _, f1, f2, f3, f4, f5, f6, f7, f8⟩ := fac_at k hk
  obtain ⟨_, _, _, _, e1, e2, e3, e4, e5, e6, e7, e8⟩ := fac_at k' hk'
  have m1 := step_mono ⟨f1, f2⟩ ⟨f4, f5⟩ ⟨e1, e2⟩ ⟨e4, e5⟩ h1 g1 (vl_le.2 hc) (vl_le.2 hs)
  have m2 := step_mono p1 ha.facts.2.2.2.1 q1 ha'.facts.2.2.2.1 h2 g2 m1 (vl_le.2 (by rw [ha.facts.2.2.2.2, ha'.facts.2.2.2.2]; omega))
  have m3 := step_mono p2 hb.facts.2.2.2.1 q2 hb'.facts.2.2.2.1 h3 g3 m2 (vl_le.2 (by rw [hb.facts.2.2.2.2, hb'.facts.2.2.2.2]; omega))
  exact last_mono w3 x3 p3 q3 h4 g4 m3
theorem RingIs.twice {k a b b' s s' : Nat} (hk : k ≤ 14) (ha : Sz a) (hb : Sz b) (hb' : Sz b') (h : RingIs k a b s) (h' : RingIs k a b' s') (h2b : vl b' = 2 * vl b) : vl s' ≤ 2 * vl s := by
  obtain ⟨_, hr, _⟩ := h.fin hk ha hb
  obtain ⟨u1, u2, u3, h1, h2, h3, h4⟩ := h
  obtain ⟨v1, v2, v3, g1, g2, g3, g4⟩ := h'
  obtain ⟨p1, p2, p3, w3, k3⟩ := ring_chain hk ha hb h1 h2 h3
  obtain ⟨q1, q2, q3, x3, y3⟩ := ring_chain hk ha hb' g1 g2 g3
  obtain ⟨_, _, _, _, f1, f2, f3, f4, f5, f6, f7, f8⟩ := fac_at k hk
  obtain ⟨t1, t2, t3, t4, t5, t6, t7, t8, t9, t10, t11, t12⟩ := top_r
  -- the first two products are the same value
  have e1 : vl u1 = vl v1 := by
    have d1 := mul_dir ⟨f1, f2⟩ ⟨f4, f5⟩ h1
    have d2 := mul_dir ⟨f1, f2⟩ ⟨f4, f5⟩ g1
    have a1 := vl_le.2 (d1.grow d2 (Int.le_refl _))
    have a2 := vl_le.2 (d2.grow d1 (Int.le_refl _))
    generalize vl u1 = p at *
    generalize vl v1 = q at *
    clear d1 d2 h1 g1 h2 g2
    omega
  have e2 : vl u2 = vl v2 := by
    have a1 := step_mono p1 ha.facts.2.2.2.1 q1 ha.facts.2.2.2.1 h2 g2 (Int.le_of_eq e1) (Int.le_refl _)
    have a2 := step_mono q1 ha.facts.2.2.2.1 p1 ha.facts.2.2.2.1 g2 h2 (Int.le_of_eq e1.symm) (Int.le_refl _)
    generalize vl u2 = p at *
    generalize vl v2 = q at *
    clear h1 g1 h2 g2 h3 g3
    omega
  have d1 := mul_dir p2 hb.facts.2.2.2.1 h3
  have d2 := mul_dir q2 hb'.facts.2.2.2.1 g3
  have m3 : vl v3 ≤ 2 * vl u3 := DirW.twice d1 d2 (Int.mul_nonneg p2.vl hb.facts.2.2.2.1.vl) (by rw [← e2, h2b, ← Int.mul_assoc, Int.mul_comm (vl u2) 2, Int.mul_assoc]; exact Int.le_refl _) (room_of p3 k3 t11)
  exact last_twice w3 x3 p3 q3 h4 g4 m3 hr
/-- Twice a tamed size. -/
def dblW (r : Nat) : Nat := if r = 0 then 0 else r + B
theorem Tame.dbl {r : Nat} (h : Tame r) : Sz r ∧ Sz (dblW r) ∧ Ieee.double.mul 4611686018427387904 r = some (dblW r) ∧ vl (dblW r) = 2 * vl r ∧ r ≤ dblW r := by
  unfold Tame at h
  unfold dblW
  rcases h with rfl | ⟨h1, h2⟩
  · rw [if_pos rfl]; exact ⟨by unfold Sz; omega, by unfold Sz; omega, by decide +kernel, by decide, Nat.le_refl _⟩
  · rw [if_neg (by omega)]
    have := dbl_mul r (by unfold B; omega) (by unfold B I; omega)
    exact ⟨by unfold Sz; omega, by unfold Sz B; omega, this.1, this.2, by omega⟩
/-- A bound that was told: its word, and twice it. -/
theorem told_word {s : Nat} (hp : Pos s) (hr : rg s + B < I) (hl : key 103582791429521408 ≤ key s) (hw : s < 2 * W) : Ieee.double.mul 4611686018427387904 s = some (s + B) ∧ vl (s + B) = 2 * vl s ∧ rg (s + B) ≤ I ∧ rg s ≤ I := by
  have k : key 103582791429521408 = (103582791429521408 : Nat) := by decide
  rw [k] at hl
  have hk := key_pos_rg hp.2
  have hsg : sg s = false := by
    cases hs : sg s
    · rfl
    · unfold key at hl; rw [hs, if_pos rfl] at hl; omega
  have hs : s = rg s := by
    have := wd_sg_rg s hw
    rw [hsg] at this; unfold wd at this; rw [if_neg (by simp)] at this; exact this.symm
  have h1 := dbl_mul s (by rw [hk] at hl; unfold B; omega) (by rw [hs]; rw [← hs]; rw [hs]; exact hr)
  refine ⟨h1.1, h1.2, ?_, Nat.le_of_lt hp.1⟩
  have : rg (s + B) = s + B := Nat.mod_eq_of_lt (by have := I_lt_W; omega)
  rw [this]; omega
/-- Floats in order, as Go tests it. -/
theorem le_test {x y : Nat} (hx : rg x ≤ I) (hy : rg y ≤ I) (h : key x ≤ key y) : (FloatKind.f64.format.order x y == some .lt || FloatKind.f64.format.order x y == some .eq) = true := by
  rw [show FloatKind.f64.format.order x y = _ from order_key x y hx hy, compare_int]
  split
  · rfl
  · rw [if_pos (by omega)]; rfl
theorem ge_test {x y : Nat} (hx : rg x ≤ I) (hy : rg y ≤ I) (h : key y ≤ key x) : (FloatKind.f64.format.order x y == some .gt || FloatKind.f64.format.order x y == some .eq) = true := by
  rw [show FloatKind.f64.format.order x y = _ from order_key x y hx hy, compare_int]
  rw [if_neg (by omega)]
  split <;> rfl
end Go.Proofs.Ytanpcieipgdnkaa

namespace Go.Proofs.Ytanpcieipgdnkaa
namespace Fl
theorem UpW.key {X k : Nat} (h : UpW X k) : rg k ≤ I ∧ sg k = false ∧ rg k = k ∧ Fl.key k = (k : Int) := by
  obtain ⟨q, hk, _, _⟩ := h
  have hkI : k ≤ I := by rw [hk]; exact Nat.min_le_right _ _
  have hW : k < W := Nat.lt_of_le_of_lt hkI I_lt_W
  have hr : rg k = k := Nat.mod_eq_of_lt hW
  have hs : sg k = false := by
    have e : sg k = (k / W % 2 == 1) := rfl
    rw [e, Nat.div_eq_of_lt hW]; rfl
  refine ⟨by rw [hr]; exact hkI, hs, hr, ?_⟩
  rw [key_of, hs, hr]; rfl
theorem UpW.dir {X k : Nat} (h : UpW X k) : DirW true (X : Int) E k := by
  obtain ⟨h1, h2, h3, h4⟩ := h.key
  obtain ⟨q, hk, ha, hb⟩ := h
  have hE : E = 1074 := E_eq
  rw [← hE] at ha hb
  clear hE
  have cast : ∀ a n : Nat, ((a * 2 ^ n : Nat) : Int) = (a : Int) * 2 ^ n := fun a n => by rw [Int.natCast_mul, Int.natCast_pow]; rfl
  refine ⟨h1, q, ?_, ?_⟩
  · unfold Dir
    rw [if_pos rfl]
    have e1 : V (q : Int) * 2 ^ E = ((rv q * 2 ^ E : Nat) : Int) := by
      rw [show V (q : Int) = (rv q : Int) from V_sgz false q, cast]
    refine ⟨by rw [e1]; exact Int.ofNat_le.2 ha, ?_⟩
    rcases Nat.eq_zero_or_pos q with h0 | h0
    · subst h0
      have e2 : V (((0 : Nat) : Int) - 1) = -1 := by decide
      rw [e2]
      have := pow_pos_int E
      generalize (2 : Int) ^ E = T at *
      omega
    · have e2 : V ((q : Int) - 1) * 2 ^ E = ((rv (q - 1) * 2 ^ E : Nat) : Int) := by
        rw [show ((q : Int) - 1) = ((q - 1 : Nat) : Int) by omega, show V ((q - 1 : Nat) : Int) = (rv (q - 1) : Int) from V_sgz false (q - 1), cast]
      rw [e2]
      exact Int.ofNat_lt.2 (hb h0)
  · rw [h4, hk]
    unfold clamp
    rw [if_pos rfl]
    have hI := I_pos
    generalize I = i at *
    omega
end Fl
end Go.Proofs.Ytanpcieipgdnkaa

namespace Go.Proofs.Ytanpcieipgdnkaa
open Go.RowKit
theorem part_t : ∀ k : Fin 15, (k.val ≠ 0 → Fl.scl (floatOfInt .f64 (8 * (k.val : Int))) ((k.val : Int) - 53) = tC k.val) ∧ floatOfInt .f64 (8 * (k.val : Int)) < 2 * Fl.W ∧ Fl.rg (floatOfInt .f64 (8 * (k.val : Int))) < Fl.I ∧ (k.val ≠ 0 → 0 < Fl.rg (floatOfInt .f64 (8 * (k.val : Int)))) ∧ (k.val = 0 → floatOfInt .f64 (8 * (k.val : Int)) = 0 ∧ tC k.val = 0) := by decide +kernel
theorem part_r : ∀ k : Fin 15, Fl.scl (floatOfInt .f64 (16 * ((k.val : Int) + 1))) ((k.val : Int) - 53) = rC k.val ∧ floatOfInt .f64 (16 * ((k.val : Int) + 1)) < 2 * Fl.W ∧ Fl.rg (floatOfInt .f64 (16 * ((k.val : Int) + 1))) < Fl.I ∧ 0 < Fl.rg (floatOfInt .f64 (16 * ((k.val : Int) + 1))) := by decide +kernel
def hA (k : Nat) : Nat := Fl.scl 4607182418800017408 ((k / 2 : Nat) : Int)
def hB (k : Nat) : Nat := (Ieee.double.mul (hA k) 4843235051468438477).getD 0
theorem root_v : ∀ k : Fin 15, (k.val % 2 = 0 → hA k.val = rS k.val) ∧ (k.val % 2 = 1 → Ieee.double.mul (hA k.val) 4843235051468438477 = some (hB k.val) ∧ Ieee.double.div (hB k.val) 4841369599423283200 = some (rS k.val)) := by decide +kernel
theorem rpart_any (n k : Int) (x : Nat) (w : World) (hn1 : 0 ≤ n) (hn2 : n ≤ 1000) (hk1 : 0 ≤ k) (hk2 : k ≤ 14)
    (hl : ∀ w, Calls Try.prog 23 #[.float .f64 (floatOfInt .f64 n), .int .i64 (k - 53)] w fun e w' => e = .returned (.float .f64 x) ∧ w = w') :
    Calls Try.prog 29 #[.int .i64 n, .int .i64 k] w fun e w' => e = .returned (.float .f64 x) ∧ w = w' := by
  have HL := Lib.hid hl
  have hw : IntKind.i64.wrap (k - 53) = k - 53 := by rw [IntKind.wrap_i64]; omega
  clear hl
  go_enter Try.func29, Try.ntmps29
  go_wp2_with fail
  refine (HL.out _).mono ?_
  rintro e w' ⟨rfl, rfl⟩
  go_wp2
  go_ret
  exact ⟨rfl, rfl⟩
theorem rroot_any (k : Nat) (w : World) (hk : k ≤ 14) : Calls Try.prog 32 #[.int .i64 k] w fun e w' => e = .returned (.float .f64 (rS k)) ∧ w = w' := by
  obtain ⟨g1, g2⟩ := root_v ⟨k, by omega⟩
  have HL : Hid (∀ w, Calls Try.prog 23 #[.float .f64 4607182418800017408, .int .i64 ((k : Int) / 2)] w fun e w' => e = .returned (.float .f64 (hA k)) ∧ w = w') := Lib.hid (fun w => by
    have h := ldexp_fin 4607182418800017408 ((k / 2 : Nat) : Int) w (by decide) (by decide) (by decide) (by omega) (by omega)
    rw [show ((k : Int) / 2) = ((k / 2 : Nat) : Int) by omega]
    exact h)
  by_cases h2 : k % 2 = 0
  · have e := g1 h2
    have HE := Lib.hid e
    have hm : (k : Int) % 2 = 0 := by omega
    clear g1 g2 e
    go_enter Try.func32, Try.ntmps32
    go_wp2_with fail
    refine (HL.out _).mono ?_
    rintro e w' ⟨rfl, rfl⟩
    go_wp2
    go_ret
    exact ⟨by rw [← HE.out]; rfl, rfl⟩
  · obtain ⟨e1, e2⟩ := g2 (by show k % 2 = 1; omega)
    have r1 := fun w => run_float_arith (P := Try.prog) w .mul 22 .f64 (hA k) 4843235051468438477 _ e1
    have r2 := fun w => run_float_arith (P := Try.prog) w .quo 22 .f64 (hB k) 4841369599423283200 _ e2
    have hm : ¬ (k : Int) % 2 = 0 := by omega
    clear g1 g2 e1 e2
    go_enter Try.func32, Try.ntmps32
    go_wp2_with fail
    refine (HL.out _).mono ?_
    rintro e w' ⟨rfl, rfl⟩
    go_wp2
    go_ret
    exact ⟨rfl, rfl⟩
end Go.Proofs.Ytanpcieipgdnkaa

namespace Go.Proofs.Ytanpcieipgdnkaa
open Go.RowKit
open Fl
theorem key_eq {n : Int} {d x y : Nat} (h1 : DirW true n d x) (h2 : DirW true n d y) : key x = key y :=
  Int.le_antisymm (h1.grow h2 (Int.le_refl _)) (h2.grow h1 (Int.le_refl _))
theorem vl_pos9 {x : Nat} (h : 0 ≤ key x) : vl x = (rv (rg x) : Int) := by
  rw [vl_key, key_pos_rg h]; exact V_sgz false (rg x)
/-- A word above 0 is told by its key. -/
theorem word_eq9 {s k : Nat} (ws : s < 2 * W) (hk : k < W) (hs : 0 < key s) (h : key s = key k) : s = k := by
  have hkk : key k = (k : Int) := key_pos k hk
  have h1 := key_pos_rg (Int.le_of_lt hs)
  have hsg : sg s = false := by
    cases hh : sg s
    · rfl
    · exfalso
      rw [key_of, hh] at hs
      unfold sgz at hs; simp at hs; omega
  have hwd := wd_sg_rg s ws
  rw [hsg] at hwd
  have : rg s = k := by omega
  rw [this] at hwd
  rw [← hwd]; rfl
/-- 2^900. -/
def most : Nat := 8660422083433463808
def least : Nat := 103582791429521408
theorem least9 : Pos least ∧ least < 2 * W ∧ rg least = least ∧ 0 < key least := by unfold Pos; decide
def M1 : Nat := (mulS (tC 14) most true).getD 0
theorem most_t : mulS (tC 14) most true = some M1 ∧ rg M1 < I ∧ 0 ≤ key M1 := by decide +kernel
def N1 : Nat := (mulS (rC 14) (rS 14) true).getD 0
def N2 : Nat := (mulS N1 most true).getD 0
theorem most_r : mulS (rC 14) (rS 14) true = some N1 ∧ mulS N1 most true = some N2 ∧ rg N1 < I ∧ 0 ≤ key N1 ∧ rg N2 < I ∧ 0 ≤ key N2 := by decide +kernel
theorem most9 : Pos most := by unfold Pos; decide
/-- A size that may be asked. -/
def Ok9 (x : Nat) : Prop := x < 2 * W ∧ Pos x ∧ key x ≤ key most
/-- Edge's product and the reference's stand at one place. -/
theorem mul_join {x y y' u k : Nat} (hx : Pos x) (hy : Pos y) (hk : key x = key y') (hk0 : 0 ≤ key y') (h : Is (mulS x y true) u) (h' : UpW (rv (rg y') * rv (rg y)) k) : key u = key k := by
  have d1 := mul_dir hx hy h
  have d2 := h'.dir
  have e : ((rv (rg y') * rv (rg y) : Nat) : Int) = vl x * vl y := by
    rw [Int.natCast_mul, ← vl_pos9 hk0, ← vl_pos9 hy.2, vl_key y', ← hk, ← vl_key x]
  rw [e] at d2
  exact key_eq d1 d2
theorem add_join {x y k s : Nat} (wx : x < 2 * W) (hx : Pos x) (hk : key x = key y) (hk0 : 0 ≤ key y) (h : Is (addS x least true) s) (h' : UpW ((rv (rg y) + rv (rg least)) * 2 ^ 1074) k) : key s = key k := by
  have d1 := add_dir wx least9.2.1 hx least9.1 h
  have d2 := h'.dir
  have hE : E = 1074 := E_eq
  have e : (((rv (rg y) + rv (rg least)) * 2 ^ 1074 : Nat) : Int) = (vl x + vl least) * 2 ^ E := by
    rw [← hE, Int.natCast_mul, Int.natCast_pow, Int.natCast_add, ← vl_pos9 hk0, ← vl_pos9 least9.1.2, vl_key y, ← hk, ← vl_key x]; rfl
  rw [e] at d2
  exact key_eq (d1.scale _ E E 0 (by rw [Int.pow_zero, Int.mul_one]) (by omega)) d2
theorem up_word {X k : Nat} (h : UpW X k) : k < W ∧ k < 2 * W ∧ 0 ≤ key k ∧ rg k = k := by
  obtain ⟨h1, h2, h3, h4⟩ := h.key
  have hIW := I_lt_W
  rw [h3] at h1
  exact ⟨by omega, by omega, by rw [h4]; omega, h3⟩
theorem last_join {u k1 k2 s : Nat} {X : Nat} (wu : u < 2 * W) (hu : Pos u) (hk : key u = key k1) (hk0 : 0 ≤ key k1) (h : Is (addS u least true) s) (ws : s < 2 * W) (h' : UpW ((rv (rg k1) + rv (rg least)) * 2 ^ 1074) k2) : s = k2 := by
  have h1 := add_join wu hu hk hk0 h h'
  obtain ⟨g1, g2, g3, g4⟩ := up_word h'
  have h3 := last_ge wu hu h
  have h4 : 0 < key s := Int.lt_of_lt_of_le least9.2.2.2 h3
  exact word_eq9 ws g1 h4 h1
theorem turn_join {k x s k1 : Nat} (hk : k ≤ 14) (hx : Ok9 x) (h : TurnIs k x s) (h1 : UpW (rv (rg (tC k)) * rv (rg x)) k1) : k1 < I ∧ ∀ k2, UpW ((rv (rg k1) + rv (rg least)) * 2 ^ 1074) k2 → s = k2 := by
  obtain ⟨u, e1, e2⟩ := h
  obtain ⟨f1, f2, f3, f4, _⟩ := fac_at k hk
  obtain ⟨g1, g2, _⟩ := fac_at 14 (by omega)
  obtain ⟨t1, t2, t3⟩ := most_t
  have s1 := step_pos ⟨f1, f2⟩ hx.2.1 e1 ⟨g1, g2⟩ most9 t1 t2 f3 hx.2.2
  have wu := Is_lt_mul2 f4 hx.1 e1
  have hj := mul_join ⟨f1, f2⟩ hx.2.1 rfl f2 e1 h1
  obtain ⟨p1, p2, p3, p4⟩ := up_word h1
  refine ⟨?_, fun k2 h2 => last_join (X := 0) wu s1.1 hj p3 e2 (Is_add_lt2 wu least9.2.1 e2) h2⟩
  have hh := fin_of_le (x := k1) (y := M1) (by rw [p4]; have := h1.key.1; rw [p4] at this; exact this) (by rw [← hj]; exact s1.2) p3 t2
  rw [p4] at hh; exact hh
theorem ring_join {k a b u1 u2 u3 k1 : Nat} (hk : k ≤ 14) (ha : Ok9 a) (hb : Ok9 b) (e1 : Is (mulS (rC k) (rS k) true) u1) (e2 : Is (mulS u1 a true) u2) (e3 : Is (mulS u2 b true) u3)
    (h1 : UpW (rv (rg (rC k)) * rv (rg (rS k))) k1) :
    k1 < I ∧ ∀ k2, UpW (rv (rg k1) * rv (rg a)) k2 → k2 < I ∧ ∀ k3, UpW (rv (rg k2) * rv (rg b)) k3 → key u3 = key k3 ∧ u3 < 2 * W := by
  obtain ⟨_, _, _, _, f1, f2, f3, f4, f5, f6, f7, f8⟩ := fac_at k hk
  obtain ⟨_, _, _, _, g1, g2, _, g4, g5, _⟩ := fac_at 14 (by omega)
  obtain ⟨t1, t2, t3, t4, t5, t6⟩ := most_r
  have s1 := step_pos ⟨f1, f2⟩ ⟨f4, f5⟩ e1 ⟨g1, g2⟩ ⟨g4, g5⟩ t1 t3 f3 f6
  have s2 := step_pos s1.1 ha.2.1 e2 ⟨t3, t4⟩ most9 t2 t5 s1.2 ha.2.2
  have w3 := Is_lt_mul2 (Is_lt_mul2 (Is_lt_mul2 f7 f8 e1) ha.1 e2) hb.1 e3
  have j1 := mul_join ⟨f1, f2⟩ ⟨f4, f5⟩ rfl f2 e1 h1
  obtain ⟨p1, p2, p3, p4⟩ := up_word h1
  refine ⟨?_, fun k2 h2 => ?_⟩
  · have hh := fin_of_le (x := k1) (y := N1) h1.key.1 (by rw [← j1]; exact s1.2) p3 t3
    rw [p4] at hh; exact hh
  · have j2 := mul_join s1.1 ha.2.1 j1 p3 e2 h2
    obtain ⟨q1, q2, q3, q4⟩ := up_word h2
    refine ⟨?_, fun k3 h3 => ⟨mul_join s2.1 hb.2.1 j2 q3 e3 h3, w3⟩⟩
    have hh := fin_of_le (x := k2) (y := N2) h2.key.1 (by rw [← j2]; exact s2.2) q3 t5
    rw [q4] at hh; exact hh
end Go.Proofs.Ytanpcieipgdnkaa

namespace Go.Proofs.Ytanpcieipgdnkaa
open Go.RowKit
theorem rorder_any (k : Int) (w : World) : Calls Try.prog 22 #[.int .i64 k] w fun e w' => e = .returned (.bool (decide (0 ≤ k ∧ k ≤ 14))) ∧ w = w' := by
  obtain ⟨T, hT⟩ : ∃ T, T = decide (0 ≤ k ∧ k ≤ 14) := ⟨_, rfl⟩
  rw [← hT]
  have HT := Lib.hid hT
  clear hT
  by_cases h1 : 0 ≤ k
  · by_cases h2 : k ≤ 14
    · have HE : Hid (T = true) := Lib.hid (by rw [HT.out]; exact decide_eq_true ⟨h1, h2⟩)
      go_enter Try.func22, Try.ntmps22
      go_wp2
      go_ret
      exact ⟨by rw [HE.out]; rfl, rfl⟩
    · have HE : Hid (T = false) := Lib.hid (by rw [HT.out]; exact decide_eq_false (fun h => h2 h.2))
      go_enter Try.func22, Try.ntmps22
      go_wp2
      go_ret
      exact ⟨by rw [HE.out]; rfl, rfl⟩
  · have HE : Hid (T = false) := Lib.hid (by rw [HT.out]; exact decide_eq_false (fun h => h1 h.1))
    go_enter Try.func22, Try.ntmps22
    go_wp2
    go_ret
    exact ⟨by rw [HE.out]; rfl, rfl⟩
theorem rsize_any (x : Nat) (w : World) (hx : x < 2 * Fl.W) : Calls Try.prog 26 #[.float .f64 x] w (BPost (!badB x) w) := by
  by_cases hf : Fl.rg x < Fl.I
  · have r1 := fun w => run_float_arith (P := Try.prog) w .sub 22 .f64 x x 0 (Fl.sub_self_fin x hx hf)
    have o1 : FloatKind.f64.format.order 0 0 = some .eq := by decide
    have h0 := Fl.ord0 x (Nat.le_of_lt hf)
    rw [Fl.compare_int] at h0
    have hd : decide (Fl.I ≤ Fl.rg x) = false := decide_eq_false (by omega)
    by_cases hb : (Fl.sg x && decide (0 < Fl.rg x)) = true
    · have HE : Hid ((!badB x) = false) := Lib.hid (by unfold badB; rw [hd, hb]; rfl)
      have hk : Fl.key x < 0 := by
        rw [Bool.and_eq_true, decide_eq_true_eq] at hb
        rw [Fl.key_of, hb.1]; unfold Fl.sgz; simp; omega
      rw [if_pos hk] at h0
      clear hd hb hk hf
      go_enter Try.func26, Try.ntmps26
      go_wp2
      go_ret
      exact ⟨by rw [HE.out]; rfl, Dr.refl _⟩
    · have HE : Hid ((!badB x) = true) := Lib.hid (by unfold badB; rw [hd, Bool.not_eq_true] at *; rw [hb]; rfl)
      have hk : ¬ Fl.key x < 0 := by
        intro hk
        apply hb
        rw [Fl.key_of] at hk
        unfold Fl.sgz at hk
        cases hs : Fl.sg x
        · rw [hs] at hk; simp at hk; omega
        · rw [hs] at hk; simp at hk; simp; omega
      rw [if_neg hk] at h0
      have h01 : FloatKind.f64.format.order x 0 = some .eq ∨ FloatKind.f64.format.order x 0 = some .gt := by
        rw [h0]; split
        · exact .inl rfl
        · exact .inr rfl
      clear hd hb hk hf h0
      rcases h01 with h0 | h0
      all_goals
        go_enter Try.func26, Try.ntmps26
        go_wp2
        go_ret
        exact ⟨by rw [HE.out]; rfl, Dr.refl _⟩
  · have HE : Hid ((!badB x) = false) := Lib.hid (by unfold badB; rw [decide_eq_true (by omega)]; rfl)
    obtain ⟨s, w1, hr, hs, hw1⟩ := run_float_any .sub 22 x x w (by simp)
    have hs1 : Fl.Is none s := by rw [← Fl.sub_self_not x hf]; exact hs
    have ho := nan_order s hs1.1
    have HD : Hid (Dr w w1) := by rcases hw1 with rfl | rfl; exact Dr.refl _; exact Dr.drew _
    clear hs hs1 hw1 hf
    go_enter Try.func26, Try.ntmps26
    go_wp2
    go_ret
    exact ⟨by rw [HE.out]; rfl, HD.out⟩
end Go.Proofs.Ytanpcieipgdnkaa

namespace Go.Proofs.Ytanpcieipgdnkaa
open Go.RowKit
theorem may1 (order : Int) (x : Nat) : mayV order 1 (fun _ => x) = if order < 0 ∨ 14 < order then 2 else if badB x = true then 5 else if overB x = true then 6 else 0 := by
  have e : ∀ b : Nat → Bool, ((List.range 1).any fun _ => b x) = b x := fun b => by simp [List.range_succ]
  unfold mayV
  rw [e badB, e overB]
theorem ok_of_may {x : Nat} (hx : x < 2 * Fl.W) (h1 : badB x = false) (h2 : overB x = false) : Ok9 x := by
  unfold badB at h1
  simp only [Bool.or_eq_false_iff, decide_eq_false_iff_not, Nat.not_le, Bool.and_eq_false_iff, Nat.not_lt] at h1
  obtain ⟨g1, g2⟩ := h1
  have hk : 0 ≤ Fl.key x := by
    rw [Fl.key_of]; unfold Fl.sgz
    cases hs : Fl.sg x
    · simp
    · rw [hs] at g2; simp at g2; simp; omega
  refine ⟨hx, ⟨g1, hk⟩, ?_⟩
  have e : Fl.key most = 8660422083433463808 := by decide
  rw [e]
  unfold overB at h2
  rw [Fl.key_of]; unfold Fl.sgz
  cases hs : Fl.sg x
  · rw [hs] at h2; simp at h2; simp; omega
  · simp <;> omega
theorem least_any (w : World) : Calls Try.prog 23 #[.float .f64 4607182418800017408, .int .i64 (-1000)] w fun e w' => e = .returned (.float .f64 least) ∧ w = w' := by
  have h := ldexp_fin 4607182418800017408 (-1000) w (by decide) (by decide) (by decide) (by decide) (by decide)
  rw [show Fl.scl 4607182418800017408 (-1000) = least by decide +kernel] at h
  exact h
theorem most_any (w : World) : Calls Try.prog 23 #[.float .f64 4607182418800017408, .int .i64 900] w fun e w' => e = .returned (.float .f64 8660422083433463808) ∧ w = w' := by
  have h := ldexp_fin 4607182418800017408 900 w (by decide) (by decide) (by decide) (by decide) (by decide)
  rw [show Fl.scl 4607182418800017408 900 = 8660422083433463808 by decide +kernel] at h
  exact h
theorem unit_any (w : World) : Calls Try.prog 23 #[.float .f64 4607182418800017408, .int .i64 (-53)] w fun e w' => e = .returned (.float .f64 4368491638549381120) ∧ w = w' := by
  have h := ldexp_fin 4607182418800017408 (-53) w (by decide) (by decide) (by decide) (by decide) (by decide)
  rw [show Fl.scl 4607182418800017408 (-53) = 4368491638549381120 by decide +kernel] at h
  exact h
theorem rpart_t (k : Nat) (hk : k ≤ 14) (w : World) : Calls Try.prog 29 #[.int .i64 (8 * (k : Int)), .int .i64 k] w fun e w' => e = .returned (.float .f64 (tC k)) ∧ w = w' := by
  obtain ⟨g1, g2, g3, g4, g5⟩ := part_t ⟨k, by omega⟩
  refine rpart_any (8 * (k : Int)) k (tC k) w (by omega) (by omega) (by omega) (by omega) (fun w => ?_)
  by_cases h0 : k = 0
  · obtain ⟨z1, z2⟩ := g5 h0
    have h := ldexp_zero (floatOfInt .f64 (8 * (k : Int))) ((k : Int) - 53) w (by rw [z1]; decide)
    refine h.mono fun e w' ⟨h1, h2⟩ => ⟨?_, h2⟩
    have z3 : tC k = 0 := z2
    rw [h1, z1, z3]
  · have h := ldexp_fin (floatOfInt .f64 (8 * (k : Int))) ((k : Int) - 53) w g2 (g4 h0) g3 (by omega) (by omega)
    have z3 : Fl.scl (floatOfInt .f64 (8 * (k : Int))) ((k : Int) - 53) = tC k := g1 h0
    rw [z3] at h
    exact h
theorem rpart_r (k : Nat) (hk : k ≤ 14) (w : World) : Calls Try.prog 29 #[.int .i64 (16 * ((k : Int) + 1)), .int .i64 k] w fun e w' => e = .returned (.float .f64 (rC k)) ∧ w = w' := by
  obtain ⟨g1, g2, g3, g4⟩ := part_r ⟨k, by omega⟩
  refine rpart_any (16 * ((k : Int) + 1)) k (rC k) w (by omega) (by omega) (by omega) (by omega) (fun w => ?_)
  have h := ldexp_fin (floatOfInt .f64 (16 * ((k : Int) + 1))) ((k : Int) - 53) w g2 g4 g3 (by omega) (by omega)
  have z3 : Fl.scl (floatOfInt .f64 (16 * ((k : Int) + 1))) ((k : Int) - 53) = rC k := g1
  rw [z3] at h
  exact h
theorem rroots_any (order : Int) (w : World) : Calls Try.prog 7 #[.int .i64 order] w fun e w' => e = .returned (.tuple #[.float .f64 (if order < 0 ∨ 14 < order then 0 else 4368491638549381120), .int .i64 (if order < 0 ∨ 14 < order then 2 else 0)]) ∧ w = w' := by
  have HO := Lib.hid (fun w => rorder_any order w)
  have HU := Lib.hid unit_any
  by_cases h : order < 0 ∨ 14 < order
  · rw [if_pos h, if_pos h]
    have e : decide (0 ≤ order ∧ order ≤ 14) = false := decide_eq_false (by omega)
    rw [e] at HO
    clear h e
    go_enter Try.func7, Try.ntmps7
    go_wp2_with fail
    refine (HO.out _).mono ?_
    rintro r w' ⟨rfl, rfl⟩
    go_wp2
    go_ret2
    exact ⟨rfl, rfl⟩
  · rw [if_neg h, if_neg h]
    have e : decide (0 ≤ order ∧ order ≤ 14) = true := decide_eq_true (by omega)
    rw [e] at HO
    clear h e
    go_enter Try.func7, Try.ntmps7
    go_wp2_with fail
    refine (HO.out _).mono ?_
    rintro r w' ⟨rfl, rfl⟩
    go_wp2_with fail
    refine (HU.out _).mono ?_
    rintro r w' ⟨rfl, rfl⟩
    go_wp2
    go_ret2
    exact ⟨rfl, rfl⟩
/-- What the reference's Turn tells. -/
def RTurnPost (order : Int) (x : Nat) (w : World) (e : Ending) (w' : World) : Prop :=
  ∃ s, e = .returned (.tuple #[.float .f64 s, .int .i64 (mayV order 1 (fun _ => x))]) ∧ (mayV order 1 (fun _ => x) ≠ 0 → s = 0) ∧
    (mayV order 1 (fun _ => x) = 0 → ∃ k1, Fl.UpW (Fl.rv (Fl.rg (tC order.toNat)) * Fl.rv (Fl.rg x)) k1 ∧ (k1 < Fl.I → Fl.UpW ((Fl.rv (Fl.rg k1) + Fl.rv (Fl.rg least)) * 2 ^ 1074) s)) ∧ Below w.heap.size w w'
set_option maxRecDepth 100000 in
set_option maxHeartbeats 4000000 in
theorem rturn_any (order : Int) (x : Nat) (w : World) (hx : x < 2 * Fl.W) : Calls Try.prog 10 #[.int .i64 order, .float .f64 x] w (RTurnPost order x w) := by
  have HO := Lib.hid (fun w => rorder_any order w)
  have HSZ := Lib.hid (fun w => rsize_any x w hx)
  have HMO := Lib.hid most_any
  have HLE := Lib.hid least_any
  unfold RTurnPost
  obtain ⟨M, hM⟩ : ∃ M, M = mayV order 1 (fun _ => x) := ⟨_, rfl⟩
  rw [← hM]
  rw [may1] at hM
  by_cases h : order < 0 ∨ 14 < order
  · rw [if_pos h] at hM
    have e : decide (0 ≤ order ∧ order ≤ 14) = false := decide_eq_false (by omega)
    rw [e] at HO
    subst hM
    clear h e
    go_enter Try.func10, Try.ntmps10
    go_wp2_with fail
    refine (HO.out _).mono ?_
    rintro r w' ⟨rfl, rfl⟩
    go_wp2
    go_ret2
    exact ⟨0, rfl, fun _ => rfl, fun h => absurd h (by decide), Below.refl _ _⟩
  · rw [if_neg h] at hM
    have e : decide (0 ≤ order ∧ order ≤ 14) = true := decide_eq_true (by omega)
    rw [e] at HO
    obtain ⟨k, rfl⟩ : ∃ k : Nat, order = k := ⟨order.toNat, by omega⟩
    have hk : k ≤ 14 := by omega
    clear h e
    cases hb : badB x
    · rw [hb] at HSZ hM
      rw [if_neg (by simp)] at hM
      have ho := over_ord x hb
      cases hv : overB x
      · rw [hv, if_neg (by simp)] at hM
        rw [hv] at ho
        obtain ⟨_, hp, _⟩ := ok_of_may hx hb hv
        obtain ⟨f1, f2, f3, f4, _⟩ := fac_at k hk
        have HPA := Lib.hid (fun w => rpart_t k hk w)
        have HTI := Lib.hid (fun w => rtimes_fin (tC k) x w f4 hx f1 hp.1 f2 hp.2)
        have hw8 : IntKind.i64.wrap (8 * (k : Int)) = 8 * (k : Int) := by rw [IntKind.wrap_i64]; omega
        subst hM
        clear hb hv hp f1 f2 f3 f4
        go_enter Try.func10, Try.ntmps10
        go_wp2_with fail
        refine (HO.out _).mono ?_
        rintro r w' ⟨rfl, rfl⟩
        go_wp2_with fail
        refine (HSZ.out _).mono ?_
        rintro r w1 ⟨rfl, hd1⟩
        have HB1 := Lib.hid (hd1.below2 w.heap.size)
        clear hd1
        go_wp2_with fail
        refine (HMO.out _).mono ?_
        rintro r w' ⟨rfl, rfl⟩
        go_wp2_with fail
        refine (HPA.out _).mono ?_
        rintro r w' ⟨rfl, rfl⟩
        go_wp2_with fail
        refine (HTI.out _).mono ?_
        rintro r w2 ⟨k1, rfl, hk1, hu1, hb2⟩
        have HU1 := Lib.hid hu1
        have HK1 := Lib.hid hk1
        have HB2 := Lib.hid (HB1.out.trans (hb2.mono HB1.out.size))
        clear hk1 hu1 hb2
        go_wp2_with fail
        refine (HLE.out _).mono ?_
        rintro r w' ⟨rfl, rfl⟩
        by_cases hf : k1 < Fl.I
        · obtain ⟨q1, q2, q3, q4⟩ := up_word HU1.out
          have HPL := Lib.hid (fun w => rplus_fin k1 least w q2 least9.2.1 (by rw [q4]; exact hf) least9.1.1 q3 least9.1.2)
          clear q1 q2 q3 q4
          go_wp2_with fail
          refine (HPL.out _).mono ?_
          rintro r w3 ⟨k2, rfl, hk2, hu2, hb3⟩
          have HU2 := Lib.hid hu2
          have HB3 := Lib.hid (HB2.out.trans (hb3.mono HB2.out.size))
          clear hk2 hu2 hb3
          go_wp2
          go_ret2
          exact ⟨k2, rfl, fun h => absurd rfl h, fun _ => ⟨k1, HU1.out, fun _ => HU2.out⟩, HB3.out⟩
        · have HPL := Lib.hid (fun w => rplus_inf k1 least w (by rw [(up_word HU1.out).2.2.2]; exact hf))
          have HF := Lib.hid hf
          clear hf
          go_wp2_with fail
          refine (HPL.out _).mono ?_
          rintro r w3 ⟨rfl, hb3⟩
          have HB3 := Lib.hid (HB2.out.trans (hb3.mono HB2.out.size))
          clear hb3
          go_wp2
          go_ret2
          exact ⟨k1, rfl, fun h => absurd rfl h, fun _ => ⟨k1, HU1.out, fun h => absurd h HF.out⟩, HB3.out⟩
      · rw [hv, if_pos rfl] at hM
        rw [hv] at ho
        subst hM
        clear hb hv
        go_enter Try.func10, Try.ntmps10
        go_wp2_with fail
        refine (HO.out _).mono ?_
        rintro r w' ⟨rfl, rfl⟩
        go_wp2_with fail
        refine (HSZ.out _).mono ?_
        rintro r w1 ⟨rfl, hd1⟩
        have HB1 := Lib.hid (hd1.below2 w.heap.size)
        clear hd1
        go_wp2_with fail
        refine (HMO.out _).mono ?_
        rintro r w' ⟨rfl, rfl⟩
        go_wp2
        go_ret2
        exact ⟨0, rfl, fun _ => rfl, fun h => absurd h (by decide), HB1.out⟩
    · rw [hb] at HSZ hM
      rw [if_pos rfl] at hM
      subst hM
      clear hb
      go_enter Try.func10, Try.ntmps10
      go_wp2_with fail
      refine (HO.out _).mono ?_
      rintro r w' ⟨rfl, rfl⟩
      go_wp2_with fail
      refine (HSZ.out _).mono ?_
      rintro r w1 ⟨rfl, hd1⟩
      have HB1 := Lib.hid (hd1.below2 w.heap.size)
      clear hd1
      go_wp2
      go_ret2
      exact ⟨0, rfl, fun _ => rfl, fun h => absurd h (by decide), HB1.out⟩
end Go.Proofs.Ytanpcieipgdnkaa

/-
  Walks: cut's carry, trim.
  Walks of the reference's short and NatDown.
  Walks: Num by value: Float, Zero, Sign, Top, Minus.
  Walks: Num by value: Zero, Sign, Top, Minus.
  Walks: Num by value: Times.
-/
import Derived.Test.YtclnmheplecknaaW3
import Derived.Deep.RegionHeld3
set_option linter.unusedVariables false
set_option linter.unusedSimpArgs false
namespace Go.Proofs.Ytclnmheplecknaa
open Go.RowKit

/-- A number by value: sign, size, exponent; its digits are canonical. -/
def NumV (w : World) (v : Value) (s : Bool) (N : Nat) (e : Int) : Prop := ∃ A c, v = .agg #[.bool s, .slice A (Nt.dg 18446744073709551616 N).length c, .int .i64 e] ∧ U w A (Nt.dg 18446744073709551616 N).length c (Nt.dg 18446744073709551616 N)
theorem NumV.below {w w' : World} {v : Value} {s : Bool} {N : Nat} {e : Int} (h : NumV w v s N e) (hb : Below w.heap.size w w') : NumV w' v s N e := by
  obtain ⟨A, c, hv, hu⟩ := h
  exact ⟨A, c, hv, hu.below hb⟩
theorem size_setCell (w : World) (p : Addr) (v : Value) : (w.setCell p v).heap.size = w.heap.size := by simp [World.setCell]
/-- A store into a cell that holds no digit turns no digits. -/
theorem U.store {w : World} {A : Option Addr} {n c : Nat} {l : List Int} (h : U w A n c l) (p : Addr) (u v : Value) (hp : w.cell? p = some u) (hn : ∀ x, u ≠ .int .u64 x) : U (w.setCell p v) A n c l := by
  obtain ⟨h1, h2, h3, h4⟩ := h
  refine ⟨h1, h2, h3, fun k x hk => ?_⟩
  obtain ⟨ad, e, hlt, hc⟩ := h4 k x hk
  refine ⟨ad, e, by rw [size_setCell]; exact hlt, ?_⟩
  rw [World.cell?_setCell_other]
  · exact hc
  · intro he; rw [he, hc] at hp; exact hn x (Option.some.inj hp).symm
namespace Fl
theorem float_fields (x : Nat) (hx : x < 2 * W) : x / 4503599627370496 % 2048 = rg x / B ∧ x % 4503599627370496 = rg x % B ∧ x / 9223372036854775808 = (if sg x then 1 else 0) := by
  unfold sg rg B W at *
  refine ⟨by omega, by omega, ?_⟩
  have : x / 9223372036854775808 = 0 ∨ x / 9223372036854775808 = 1 := by omega
  rcases this with h | h <;> rw [h] <;> rfl
theorem float_zero (r : Nat) (h : r / B = 0) : mant r = r % B ∧ ex r = 0 := by
  unfold mant ex B at *; omega
theorem float_pos (r : Nat) (h : r / B ≠ 0) : mant r = r % B + 4503599627370496 ∧ ex r = r / B - 1 := by
  unfold mant ex B at *
  refine ⟨?_, rfl⟩
  have := Nat.div_add_mod r 4503599627370496
  have e : r / 4503599627370496 = (r / 4503599627370496 - 1) + 1 := by omega
  rw [e, Nat.mul_add] at this
  rw [Nat.mul_comm]
  omega
theorem and_2047 (x : Nat) (h : x < 18446744073709551616) : bits BinOp.and IntKind.u64 ((x : Int) / 4503599627370496) 2047 = ((x / 4503599627370496 % 2048 : Nat) : Int) := by
  have e := u64_and_nat (x / 4503599627370496) 2047 (by omega) (by decide)
  rw [show ((x : Int) / 4503599627370496) = ((x / 4503599627370496 : Nat) : Int) by omega]
  refine e.trans ?_
  rw [show 2047 = 2 ^ 11 - 1 from rfl, Nat.and_two_pow_sub_one_eq_mod]
end Fl
theorem bcell {W w1 : World} (hb : Below W.heap.size W w1) : (∀ b o, b < W.heap.size → w1.cell? ⟨b, o, none⟩ = W.cell? ⟨b, o, none⟩) ∧ (∀ b o, b < W.heap.size → w1.frozen? ⟨b, o, none⟩ = W.frozen? ⟨b, o, none⟩) :=
  ⟨fun b o h => hb.cell (p := ⟨b, o, none⟩) h, fun b o h => hb.frozen (p := ⟨b, o, none⟩) h⟩
/-- A number is laid into the cells of a result. -/
theorem num_store {w1 : World} {g : Nat} {b0 : Bool} {A0 : Option Addr} {n0 c0 : Nat} {e0 : Int} (h0 : w1.cell? ⟨g, 0, none⟩ = some (.bool b0)) (h1 : w1.cell? ⟨g, 1, none⟩ = some (.slice A0 n0 c0)) (h2 : w1.cell? ⟨g, 2, none⟩ = some (.int .i64 e0))
    {A : Option Addr} {n c : Nat} {l : List Int} (hu : U w1 A n c l) (v1 v2 v3 : Value) :
    U (((w1.setCell ⟨g, 0, none⟩ v1).setCell ⟨g, 1, none⟩ v2).setCell ⟨g, 2, none⟩ v3) A n c l ∧ (∀ B (wb : World), B ≤ g → Below B wb w1 → Below B wb (((w1.setCell ⟨g, 0, none⟩ v1).setCell ⟨g, 1, none⟩ v2).setCell ⟨g, 2, none⟩ v3)) ∧
    (((w1.setCell ⟨g, 0, none⟩ v1).setCell ⟨g, 1, none⟩ v2).setCell ⟨g, 2, none⟩ v3).cell? ⟨g, 0, none⟩ = some v1 ∧ (((w1.setCell ⟨g, 0, none⟩ v1).setCell ⟨g, 1, none⟩ v2).setCell ⟨g, 2, none⟩ v3).cell? ⟨g, 1, none⟩ = some v2 ∧ (((w1.setCell ⟨g, 0, none⟩ v1).setCell ⟨g, 1, none⟩ v2).setCell ⟨g, 2, none⟩ v3).cell? ⟨g, 2, none⟩ = some v3 := by
  have n01 : (⟨g, 0, none⟩ : Addr) ≠ ⟨g, 1, none⟩ := by simp
  have n02 : (⟨g, 0, none⟩ : Addr) ≠ ⟨g, 2, none⟩ := by simp
  have n12 : (⟨g, 1, none⟩ : Addr) ≠ ⟨g, 2, none⟩ := by simp
  have k1 : (w1.setCell ⟨g, 0, none⟩ v1).cell? ⟨g, 1, none⟩ = some (.slice A0 n0 c0) := (World.cell?_setCell_other _ _ _ _ n01).trans h1
  have k2 : (w1.setCell ⟨g, 0, none⟩ v1).cell? ⟨g, 2, none⟩ = some (.int .i64 e0) := (World.cell?_setCell_other _ _ _ _ n02).trans h2
  have k3 : ((w1.setCell ⟨g, 0, none⟩ v1).setCell ⟨g, 1, none⟩ v2).cell? ⟨g, 2, none⟩ = some (.int .i64 e0) := (World.cell?_setCell_other _ _ _ _ n12).trans k2
  refine ⟨?_, fun B wb hB hb => ((hb.setCell (p := ⟨g, 0, none⟩) hB _).setCell (p := ⟨g, 1, none⟩) hB _).setCell (p := ⟨g, 2, none⟩) hB _, ?_, ?_, ?_⟩
  · exact ((hu.store _ _ v1 h0 (fun x hx => by cases hx)).store _ _ v2 k1 (fun x hx => by cases hx)).store _ _ v3 k3 (fun x hx => by cases hx)
  · rw [World.cell?_setCell_other _ _ _ _ n02.symm, World.cell?_setCell_other _ _ _ _ n01.symm]; exact World.cell?_setCell_same _ _ _ h0
  · rw [World.cell?_setCell_other _ _ _ _ n12.symm]; exact World.cell?_setCell_same _ _ _ k1
  · exact World.cell?_setCell_same _ _ _ k3
theorem new_cells (w w1 : World) (a b c : Value) (t : TypeId) (hb : Below (w.alloc (.cells #[a, b, c] t)).heap.size (w.alloc (.cells #[a, b, c] t)) w1) : w1.cell? ⟨w.heap.size, 0, none⟩ = some a ∧ w1.cell? ⟨w.heap.size, 1, none⟩ = some b ∧ w1.cell? ⟨w.heap.size, 2, none⟩ = some c ∧ Below w.heap.size w w1 := by
  have hlt := alloc_lt w (.cells #[a, b, c] t)
  have e : ∀ i, w1.cell? ⟨w.heap.size, i, none⟩ = (#[a, b, c] : Array Value)[i]? := fun i => by
    rw [hb.cell (p := ⟨w.heap.size, i, none⟩) hlt]
    have h : (w.alloc (.cells #[a, b, c] t)).heap[w.heap.size]? = some (.cells #[a, b, c] t (0, 0)) := heap_alloc_new w _
    exact cell_of_row _ _ _ _ _ _ h
  exact ⟨e 0, e 1, e 2, ((Below.refl w.heap.size w).alloc (Nat.le_refl _) _).trans (hb.mono (Nat.le_of_lt hlt))⟩
theorem natOf_int (x : Int) (w : World) (h0 : 0 ≤ x) (hx : x < 18446744073709551616) : Calls Try.prog 75 #[.int .u64 x] w (NatPost x.toNat w) := by
  have h := natOf_any x.toNat w (by omega)
  rwa [Int.toNat_of_nonneg h0] at h
set_option maxRecDepth 400000 in
set_option maxHeartbeats 4000000 in
theorem float_any (x : Nat) (w : World) (hx : x < 2 * Fl.W) :
    Calls Try.prog 155 #[.float .f64 x] w fun e w' => ∃ v, e = .returned v ∧ NumV w' v (Fl.sg x) (Fl.mant (Fl.rg x)) (Fl.pl x) ∧ Below w.heap.size w w' := by
  have h1 := run_bits x
  obtain ⟨f1, f2, f3⟩ := Fl.float_fields x hx
  have hx2 : x < 18446744073709551616 := by unfold Fl.W at hx; omega
  have h2 := Fl.and_2047 x hx2
  rw [f1] at h2
  have hE : Fl.rg x / Fl.B < 2048 := by have := Fl.rg_lt x; unfold Fl.W at this; unfold Fl.B; omega
  have h3 : ((x : Int) / 9223372036854775808 == 1) = Fl.sg x := by
    cases hs : Fl.sg x <;> rw [hs] at f3 <;> simp at f3 <;> simp <;> omega
  have h4 : (x : Int) % 4503599627370496 = ((Fl.rg x % Fl.B : Nat) : Int) := by omega
  have hfB : Fl.rg x % Fl.B < 4503599627370496 := Nat.mod_lt _ (by decide)
  by_cases h0 : Fl.rg x / Fl.B = 0
  · obtain ⟨g1, g2⟩ := Fl.float_zero _ h0
    have G1 := Lib.hid g1
    have G2 := Lib.hid g2
    rw [h0] at h2
    generalize Fl.rg x % Fl.B = f at *
    clear f1 f2 f3 g1 g2 h0 hE
    go_enter Try.func155, Try.ntmps155
    go_wp2_with fail
    refine (natOf_int _ _ (by omega) (by omega)).mono ?_
    rintro e w1 ⟨A1, c1, rfl, hu, hb⟩
    obtain ⟨hc, hf⟩ := bcell hb
    obtain ⟨k0, k1, k2, hbw⟩ := new_cells w w1 _ _ _ _ hb
    first | rw [show ((x : Int) % 4503599627370496).toNat = f by omega] at hu ⊢ | rw [show ((f : Int)).toNat = f by omega] at hu ⊢
    obtain ⟨r1, r2, r3, r4, r5⟩ := num_store k0 k1 k2 hu (Value.bool (Fl.sg x)) (.slice A1 (Nt.dg 18446744073709551616 f).length c1) (.int .i64 (-1074))
    have R1 := Lib.hid r1
    have R2 := Lib.hid (r2 _ _ (Nat.le_refl _) hbw)
    have R3 := Lib.hid (And.intro r3 (And.intro r4 r5))
    clear hu hb r1 r2 r3 r4 r5 k0 k1 k2 hbw
    go_wp2
    refine bodyPost_ret (v := .agg #[.bool (Fl.sg x), .slice A1 (Nt.dg 18446744073709551616 f).length c1, .int .i64 (-1074)]) (by simp [results, Try.results155, go_sem, R3.out.1, R3.out.2.1, R3.out.2.2]) rfl ⟨_, rfl, ⟨A1, c1, by rw [G1.out]; unfold Fl.pl; rw [G2.out]; rfl, by rw [G1.out]; exact R1.out⟩, R2.out⟩
  · obtain ⟨g1, g2⟩ := Fl.float_pos _ h0
    have G1 := Lib.hid g1
    have G2 := Lib.hid g2
    generalize Fl.rg x % Fl.B = f at *
    generalize Fl.rg x / Fl.B = E at *
    have he : ((E : Int) == 0) = false := by simp; omega
    clear f1 f2 f3 g1 g2
    go_enter Try.func155, Try.ntmps155
    go_wp2_with fail
    refine (natOf_int _ _ (by omega) (by omega)).mono ?_
    rintro e w1 ⟨A1, c1, rfl, hu, hb⟩
    obtain ⟨hc, hf⟩ := bcell hb
    obtain ⟨k0, k1, k2, hbw⟩ := new_cells w w1 _ _ _ _ hb
    rw [show ((f : Int) + 4503599627370496).toNat = f + 4503599627370496 by omega] at hu ⊢
    obtain ⟨r1, r2, r3, r4, r5⟩ := num_store k0 k1 k2 hu (Value.bool (Fl.sg x)) (.slice A1 (Nt.dg 18446744073709551616 (f + 4503599627370496)).length c1) (.int .i64 ((E : Int) - 1075))
    have R1 := Lib.hid r1
    have R2 := Lib.hid (r2 _ _ (Nat.le_refl _) hbw)
    have R3 := Lib.hid (And.intro r3 (And.intro r4 r5))
    clear hu hb r1 r2 r3 r4 r5 k0 k1 k2 hbw
    go_wp2
    refine bodyPost_ret (v := .agg #[.bool (Fl.sg x), .slice A1 (Nt.dg 18446744073709551616 (f + 4503599627370496)).length c1, .int .i64 ((E : Int) - 1075)]) (by simp [results, Try.results155, go_sem, R3.out.1, R3.out.2.1, R3.out.2.2]) rfl ⟨_, rfl, ⟨A1, c1, by rw [G1.out]; unfold Fl.pl; rw [G2.out, show (-1074 + ((E - 1 : Nat) : Int)) = (E : Int) - 1075 by omega], by rw [G1.out]; exact R1.out⟩, R2.out⟩
end Go.Proofs.Ytclnmheplecknaa

namespace Go.Proofs.Ytclnmheplecknaa
open Go.RowKit

set_option maxRecDepth 400000 in
set_option maxHeartbeats 4000000 in
theorem zero_any (v : Value) (s : Bool) (N : Nat) (e : Int) (w : World) (hv : NumV w v s N e) (hl : (Nt.dg 18446744073709551616 N).length ≤ 100000000) :
    Calls Try.prog 70 #[v] w fun r w' => r = .returned (.bool (decide (N = 0))) ∧ Below w.heap.size w w' := by
  obtain ⟨A, c, rfl, hu⟩ := hv
  have hb0 := natBits_any A _ c _ (w.alloc (.cells #[.bool s, .slice A (Nt.dg 18446744073709551616 N).length c, .int .i64 e] 65)) (hu.below ((Below.refl w.heap.size w).alloc (Nat.le_refl _) _)) (by omega) (Nt.dig_dg 18446744073709551616 (by decide) N)
  rw [Nt.val_dg _ (by decide)] at hb0
  have HB0 := Lib.hid hb0
  have HE : Hid ((((bitsN N : Nat) : Int) == 0) = decide (N = 0)) := Lib.hid (by
    unfold bitsN
    by_cases h : N = 0
    · simp [h]
    · rw [if_neg h]; simp [h]; omega)
  clear hb0 hu
  generalize (Nt.dg 18446744073709551616 N).length = n at *
  go_enter Try.func70, Try.ntmps70
  go_wp2_with fail
  refine HB0.out.mono ?_
  rintro r w1 ⟨rfl, hb⟩
  have hb2 := Lib.hid (((Below.refl w.heap.size w).alloc (Nat.le_refl _) _).trans (hb.mono (Nat.le_of_lt (alloc_lt w _))))
  clear hb
  go_wp2
  go_ret
  exact ⟨ret_bool HE.out, hb2.out⟩
theorem bitsN_len (N : Nat) : bitsN N ≤ 64 * (Nt.dg 18446744073709551616 N).length := by
  unfold bitsN
  split
  · omega
  · rename_i h
    have h1 := Nt.val_lt 18446744073709551616 (by decide) _ (Nt.dig_dg 18446744073709551616 (by decide) N)
    rw [Nt.val_dg _ (by decide)] at h1
    generalize (Nt.dg 18446744073709551616 N).length = m at *
    rw [show (18446744073709551616 : Nat) = 2 ^ 64 from rfl, ← Nat.pow_mul] at h1
    have := (Nat.log2_lt h).2 h1
    omega
set_option maxRecDepth 400000 in
set_option maxHeartbeats 4000000 in
theorem top_any (v : Value) (s : Bool) (N : Nat) (e : Int) (w : World) (hv : NumV w v s N e) (hl : (Nt.dg 18446744073709551616 N).length ≤ 100000000) (he1 : -1000000000 ≤ e) (he2 : e ≤ 1000000000) :
    Calls Try.prog 76 #[v] w fun r w' => r = .returned (.int .i64 (e + (bitsN N : Nat))) ∧ Below w.heap.size w w' := by
  obtain ⟨A, c, rfl, hu⟩ := hv
  have hb0 := fun w1 (hb : Below w.heap.size w w1) => natBits_any A _ c _ w1 (hu.below hb) (by omega) (Nt.dig_dg 18446744073709551616 (by decide) N)
  rw [Nt.val_dg _ (by decide)] at hb0
  have HB0 := Lib.hid hb0
  have hlen := bitsN_len N
  clear hb0 hu
  generalize (Nt.dg 18446744073709551616 N).length = n at *
  generalize bitsN N = b at *
  have hbb : b ≤ 6400000000 := by omega
  clear hlen
  go_enter Try.func76, Try.ntmps76
  go_wp2_with fail
  obtain ⟨W, hW⟩ : ∃ W, W = w.alloc (.cells #[.bool s, .slice A n c, .int .i64 e] 65) := ⟨_, rfl⟩
  obtain ⟨g, hg⟩ : ∃ g, g = w.heap.size := ⟨_, rfl⟩
  obtain ⟨k0, k1, k2, hbw⟩ := new_cells w W _ _ _ _ (by rw [hW]; exact Below.refl _ _)
  rw [← hW, ← hg]
  rw [← hg] at k0 k1 k2
  have HBW := Lib.hid hbw
  have hgW : g < W.heap.size := by rw [hW, hg]; exact alloc_lt w _
  have HC : ∀ w1, (w1.cell? ⟨g, 1, none⟩ = some (.slice A n c) ∧ w1.cell? ⟨g, 2, none⟩ = some (.int .i64 e) ∧ Below W.heap.size W w1) → Calls Try.prog 103 #[.slice A n c] w1 fun r w' => r = .returned (.int .i64 b) ∧ (w'.cell? ⟨g, 1, none⟩ = some (.slice A n c) ∧ w'.cell? ⟨g, 2, none⟩ = some (.int .i64 e) ∧ Below W.heap.size W w') := fun w1 ⟨a1, a2, a3⟩ =>
    (HB0.out w1 (HBW.out.trans (a3.mono HBW.out.size))).mono fun r w' ⟨h1, h2⟩ => ⟨h1, (h2.cell (p := ⟨g, 1, none⟩) (Nat.lt_of_lt_of_le hgW a3.size)).trans a1, (h2.cell (p := ⟨g, 2, none⟩) (Nat.lt_of_lt_of_le hgW a3.size)).trans a2, a3.trans (h2.mono a3.size)⟩
  have HCH := Lib.hid HC
  have hwr : IntKind.i64.wrap (e + (b : Int)) = e + (b : Int) := by rw [IntKind.wrap_i64]; omega
  clear hbw hW hg HC hgW
  go_region_held3 (fun w' => w'.cell? ⟨g, 1, none⟩ = some (.slice A n c) ∧ w'.cell? ⟨g, 2, none⟩ = some (.int .i64 e) ∧ Below W.heap.size W w') ((first | assumption | exact ⟨k1, k2, (Below.refl _ _).drew⟩)) (first | (go_at_call 103; refine (HCH.out _ ?_).mono ?_; (assumption); rintro r w' ⟨rfl, hS⟩))
  obtain ⟨hs1, hs2, hs3⟩ := hS
  have HS := Lib.hid (HBW.out.trans (hs3.mono HBW.out.size))
  clear hs1 hs2 hs3 k0 k1 k2 HCH
  go_wp2
  go_ret
  exact ⟨rfl, HS.out⟩
def signI (s : Bool) (N : Nat) : Int := if N = 0 then 0 else if s then -1 else 1
set_option maxRecDepth 400000 in
set_option maxHeartbeats 4000000 in
theorem sign_any (v : Value) (s : Bool) (N : Nat) (e : Int) (w : World) (hv : NumV w v s N e) (hl : (Nt.dg 18446744073709551616 N).length ≤ 100000000) :
    Calls Try.prog 163 #[v] w fun r w' => r = .returned (.int .i64 (signI s N)) ∧ Below w.heap.size w w' := by
  have hz := fun w1 (hb : Below w.heap.size w w1) => zero_any v s N e w1 (hv.below hb) hl
  obtain ⟨A, c, rfl, hu⟩ := hv
  have HZ := Lib.hid hz
  clear hz hu
  generalize (Nt.dg 18446744073709551616 N).length = n at *
  have HB1 := Lib.hid ((Below.refl w.heap.size w).alloc (Nat.le_refl _) (.cells #[.bool s, .slice A n c, .int .i64 e] 65))
  unfold signI
  by_cases h : N = 0
  · have hd : decide (N = 0) = true := decide_eq_true h
    rw [if_pos h]
    clear h
    go_enter Try.func163, Try.ntmps163
    go_wp2_with fail
    refine (HZ.out _ HB1.out).mono ?_
    rintro r w1 ⟨rfl, hb⟩
    have HB := Lib.hid (HB1.out.trans (hb.mono HB1.out.size))
    rw [hd]
    clear hb hd
    go_wp2
    go_ret
    exact ⟨rfl, HB.out⟩
  · have hd : decide (N = 0) = false := decide_eq_false h
    rw [if_neg h]
    clear h
    cases s
    all_goals
      go_enter Try.func163, Try.ntmps163
      go_wp2_with fail
      refine (HZ.out _ HB1.out).mono ?_
      rintro r w1 ⟨rfl, hb⟩
      obtain ⟨k0, k1, k2, hbw⟩ := new_cells w w1 _ _ _ _ hb
      have HB := Lib.hid (HB1.out.trans (hb.mono HB1.out.size))
      rw [hd]
      clear hb hd hbw
      go_wp2
      go_ret
      exact ⟨rfl, HB.out⟩
set_option maxRecDepth 400000 in
set_option maxHeartbeats 4000000 in
theorem minus_any (v : Value) (s : Bool) (N : Nat) (e : Int) (w : World) (hv : NumV w v s N e) :
    Calls Try.prog 167 #[v] w fun r w' => ∃ v', r = .returned v' ∧ NumV w' v' (!s) N e ∧ Below w.heap.size w w' := by
  obtain ⟨A, c, rfl, hu⟩ := hv
  unfold NumV
  have HU := Lib.hid hu
  clear hu
  generalize (Nt.dg 18446744073709551616 N) = l at *
  generalize l.length = n at *
  go_enter Try.func167, Try.ntmps167
  go_wp2
  have HB := Lib.hid (((Below.refl w.heap.size w).alloc (Nat.le_refl _) (.cells #[.bool s, .slice A n c, .int .i64 e] 65)).alloc (Nat.le_of_lt (alloc_lt w _)) (.cells #[.bool !s, .slice A n c, .int .i64 e] 65))
  refine bodyPost_ret (v := .agg #[.bool !s, .slice A n c, .int .i64 e]) (by simp [results, Try.results167, go_sem]) rfl ⟨_, rfl, ⟨A, c, rfl, HU.out.below HB.out⟩, HB.out⟩
end Go.Proofs.Ytclnmheplecknaa

namespace Go.Proofs.Ytclnmheplecknaa
open Go.RowKit

/-- The three cells of a number. -/
def Cells3 (w : World) (g : Nat) (s : Bool) (A : Option Addr) (n c : Nat) (e : Int) : Prop := w.cell? ⟨g, 0, none⟩ = some (.bool s) ∧ w.cell? ⟨g, 1, none⟩ = some (.slice A n c) ∧ w.cell? ⟨g, 2, none⟩ = some (.int .i64 e)
/-- A number's cells, whatever they hold. -/
def Shape (w : World) (g : Nat) : Prop := g < w.heap.size ∧ (∀ j, w.frozen? ⟨g, j, none⟩ = false) ∧ ∃ s A n c e, Cells3 w g s A n c e
theorem Cells3.below {w w' : World} {g : Nat} {s : Bool} {A : Option Addr} {n c : Nat} {e : Int} (h : Cells3 w g s A n c e) (hg : g < w.heap.size) (hb : Below w.heap.size w w') : Cells3 w' g s A n c e :=
  ⟨(hb.cell (p := ⟨g, 0, none⟩) hg).trans h.1, (hb.cell (p := ⟨g, 1, none⟩) hg).trans h.2.1, (hb.cell (p := ⟨g, 2, none⟩) hg).trans h.2.2⟩
theorem Shape.below {w w' : World} {g : Nat} (h : Shape w g) (hb : Below w.heap.size w w') : Shape w' g := by
  obtain ⟨hg, hf, s, A, n, c, e, h⟩ := h
  exact ⟨Nat.lt_of_lt_of_le hg hb.size, fun j => (hb.frozen (p := ⟨g, j, none⟩) hg).trans (hf j), s, A, n, c, e, h.below hg hb⟩
theorem setCell_block (w : World) (g h i j : Nat) (v : Value) (hne : g ≠ h) : (w.setCell ⟨g, i, none⟩ v).cell? ⟨h, j, none⟩ = w.cell? ⟨h, j, none⟩ :=
  World.cell?_setCell_other _ _ _ _ (fun e => hne (by injection e))
theorem Cells3.store {w : World} {g h : Nat} {s : Bool} {A : Option Addr} {n c : Nat} {e : Int} (hc : Cells3 w h s A n c e) (hne : g ≠ h) (v1 v2 v3 : Value) : Cells3 (((w.setCell ⟨g, 0, none⟩ v1).setCell ⟨g, 1, none⟩ v2).setCell ⟨g, 2, none⟩ v3) h s A n c e := by
  unfold Cells3 at *
  rw [setCell_block _ _ _ _ _ _ hne, setCell_block _ _ _ _ _ _ hne, setCell_block _ _ _ _ _ _ hne, setCell_block _ _ _ _ _ _ hne, setCell_block _ _ _ _ _ _ hne, setCell_block _ _ _ _ _ _ hne, setCell_block _ _ _ _ _ _ hne, setCell_block _ _ _ _ _ _ hne, setCell_block _ _ _ _ _ _ hne]
  exact hc
/-- What holds of all worlds in a call with two numbers boxed and a result's cells: the first world is w0, the boxes g0 and g1, the result g2. -/
def Two (w0 : World) (g0 : Nat) (s0 : Bool) (A0 : Option Addr) (n0 c0 : Nat) (e0 : Int) (g1 : Nat) (s1 : Bool) (A1 : Option Addr) (n1 c1 : Nat) (e1 : Int) (g2 : Nat) (w : World) : Prop :=
  (w.cell? ⟨g0, 0, none⟩ = some (.bool s0) ∧ w.cell? ⟨g0, 1, none⟩ = some (.slice A0 n0 c0) ∧ w.cell? ⟨g0, 2, none⟩ = some (.int .i64 e0)) ∧
  (w.cell? ⟨g1, 0, none⟩ = some (.bool s1) ∧ w.cell? ⟨g1, 1, none⟩ = some (.slice A1 n1 c1) ∧ w.cell? ⟨g1, 2, none⟩ = some (.int .i64 e1)) ∧ Below w0.heap.size w0 w ∧ (g0 < w.heap.size ∧ g1 < w.heap.size) ∧ Shape w g2
section
variable {w0 : World} {g0 : Nat} {s0 : Bool} {A0 : Option Addr} {n0 c0 : Nat} {e0 : Int} {g1 : Nat} {s1 : Bool} {A1 : Option Addr} {n1 c1 : Nat} {e1 : Int} {g2 : Nat} {w : World}
theorem Two.go (h : Two w0 g0 s0 A0 n0 c0 e0 g1 s1 A1 n1 c1 e1 g2 w) {w' : World} (hb : Below w.heap.size w w') : Two w0 g0 s0 A0 n0 c0 e0 g1 s1 A1 n1 c1 e1 g2 w' := by
  obtain ⟨h1, h2, h3, ⟨h4, h5⟩, h6⟩ := h
  exact ⟨Cells3.below h1 h4 hb, Cells3.below h2 h5 hb, h3.trans (hb.mono h3.size), ⟨Nat.lt_of_lt_of_le h4 hb.size, Nat.lt_of_lt_of_le h5 hb.size⟩, h6.below hb⟩
theorem Two.drew (h : Two w0 g0 s0 A0 n0 c0 e0 g1 s1 A1 n1 c1 e1 g2 w) : Two w0 g0 s0 A0 n0 c0 e0 g1 s1 A1 n1 c1 e1 g2 w.drew := h.go (Below.refl _ _).drew
theorem Two.store (h : Two w0 g0 s0 A0 n0 c0 e0 g1 s1 A1 n1 c1 e1 g2 w) (h02 : g2 ≠ g0) (h12 : g2 ≠ g1) (hw : w0.heap.size ≤ g2) (b : Bool) (A : Option Addr) (n c : Nat) (e : Int) :
    Two w0 g0 s0 A0 n0 c0 e0 g1 s1 A1 n1 c1 e1 g2 (((w.setCell ⟨g2, 0, none⟩ (.bool b)).setCell ⟨g2, 1, none⟩ (.slice A n c)).setCell ⟨g2, 2, none⟩ (.int .i64 e)) := by
  obtain ⟨h1, h2, h3, ⟨h4, h5⟩, hg, hf, s, A', n', c', e', k0, k1, k2⟩ := h
  have hz : (((w.setCell ⟨g2, 0, none⟩ (.bool b)).setCell ⟨g2, 1, none⟩ (.slice A n c)).setCell ⟨g2, 2, none⟩ (.int .i64 e)).heap.size = w.heap.size := by rw [size_setCell, size_setCell, size_setCell]
  have hu : U w none 0 0 [] := ⟨rfl, Nat.le_refl _, fun _ => rfl, fun k x hk => by simp at hk⟩
  obtain ⟨_, r2, r3, r4, r5⟩ := num_store k0 k1 k2 hu (.bool b) (.slice A n c) (.int .i64 e)
  exact ⟨Cells3.store h1 h02 _ _ _, Cells3.store h2 h12 _ _ _, r2 _ _ hw h3, ⟨by rw [hz]; exact h4, by rw [hz]; exact h5⟩, by rw [hz]; exact hg, fun j => by rw [World.frozen?_setCell, World.frozen?_setCell, World.frozen?_setCell]; exact hf j, b, A, n, c, e, r3, r4, r5⟩
/-- The number that was stored is the result. -/
theorem Two.out (h : Two w0 g0 s0 A0 n0 c0 e0 g1 s1 A1 n1 c1 e1 g2 w) (hw : w0.heap.size ≤ g2) {A : Option Addr} {n c : Nat} {l : List Int} (hu : U w A n c l) (v1 v2 v3 : Value) :
    U (((w.setCell ⟨g2, 0, none⟩ v1).setCell ⟨g2, 1, none⟩ v2).setCell ⟨g2, 2, none⟩ v3) A n c l ∧ Below w0.heap.size w0 (((w.setCell ⟨g2, 0, none⟩ v1).setCell ⟨g2, 1, none⟩ v2).setCell ⟨g2, 2, none⟩ v3) ∧
    (((w.setCell ⟨g2, 0, none⟩ v1).setCell ⟨g2, 1, none⟩ v2).setCell ⟨g2, 2, none⟩ v3).cell? ⟨g2, 0, none⟩ = some v1 ∧ (((w.setCell ⟨g2, 0, none⟩ v1).setCell ⟨g2, 1, none⟩ v2).setCell ⟨g2, 2, none⟩ v3).cell? ⟨g2, 1, none⟩ = some v2 ∧ (((w.setCell ⟨g2, 0, none⟩ v1).setCell ⟨g2, 1, none⟩ v2).setCell ⟨g2, 2, none⟩ v3).cell? ⟨g2, 2, none⟩ = some v3 := by
  obtain ⟨h1, h2, h3, ⟨h4, h5⟩, hg, _, s, A', n', c', e', k0, k1, k2⟩ := h
  obtain ⟨r1, r2, r3⟩ := num_store k0 k1 k2 hu v1 v2 v3
  exact ⟨r1, r2 _ _ hw h3, r3⟩
end
/-- Two boxes and a result are laid. -/
theorem Two.start (w : World) (s0 : Bool) (A0 : Option Addr) (n0 c0 : Nat) (e0 : Int) (s1 : Bool) (A1 : Option Addr) (n1 c1 : Nat) (e1 : Int) (t : TypeId) :
    Two w w.heap.size s0 A0 n0 c0 e0 (w.heap.size + 1) s1 A1 n1 c1 e1 (w.heap.size + 1 + 1) (((w.alloc (.cells #[.bool s0, .slice A0 n0 c0, .int .i64 e0] t)).alloc (.cells #[.bool s1, .slice A1 n1 c1, .int .i64 e1] t)).alloc (.cells #[.bool false, .slice none 0 0, .int .i64 0] t)) := by
  have z1 : (w.alloc (.cells #[.bool s0, .slice A0 n0 c0, .int .i64 e0] t)).heap.size = w.heap.size + 1 := by simp
  generalize h1 : w.alloc (.cells #[.bool s0, .slice A0 n0 c0, .int .i64 e0] t) = W1 at *
  have z2 : (W1.alloc (.cells #[.bool s1, .slice A1 n1 c1, .int .i64 e1] t)).heap.size = w.heap.size + 1 + 1 := by simp [z1]
  obtain ⟨a0, a1, a2, ha⟩ := new_cells w W1 (.bool s0) (.slice A0 n0 c0) (.int .i64 e0) t (by rw [h1]; exact Below.refl _ _)
  generalize h2 : W1.alloc (.cells #[.bool s1, .slice A1 n1 c1, .int .i64 e1] t) = W2 at *
  obtain ⟨b0, b1, b2, hb⟩ := new_cells W1 W2 (.bool s1) (.slice A1 n1 c1) (.int .i64 e1) t (by rw [h2]; exact Below.refl _ _)
  have z3 : (W2.alloc (.cells #[.bool false, .slice none 0 0, .int .i64 0] t)).heap.size = w.heap.size + 1 + 1 + 1 := by simp [z2]
  generalize h3 : W2.alloc (.cells #[.bool false, .slice none 0 0, .int .i64 0] t) = W3 at *
  obtain ⟨d0, d1, d2, hd⟩ := new_cells W2 W3 (.bool false) (.slice none 0 0) (.int .i64 0) t (by rw [h3]; exact Below.refl _ _)
  rw [z1] at b0 b1 b2
  rw [z2] at d0 d1 d2
  have hfz : ∀ j, W3.frozen? ⟨w.heap.size + 1 + 1, j, none⟩ = false := fun j => by
    rw [← h3, ← z2]
    exact frozen_of_row _ _ _ _ _ (heap_alloc_new W2 _)
  have e1 : Cells3 W3 w.heap.size s0 A0 n0 c0 e0 := Cells3.below (Cells3.below ⟨a0, a1, a2⟩ (by omega) hb) (by omega) hd
  have e2 : Cells3 W3 (w.heap.size + 1) s1 A1 n1 c1 _ := Cells3.below ⟨b0, b1, b2⟩ (by omega) hd
  exact ⟨e1, e2, ha.trans ((hb.mono ha.size).trans (hd.mono (ha.trans (hb.mono ha.size)).size)), ⟨by omega, by omega⟩, by omega, hfz, _, _, _, _, _, d0, d1, d2⟩
set_option maxRecDepth 400000 in
set_option maxHeartbeats 4000000 in
theorem times_any (v : Value) (s : Bool) (N : Nat) (e : Int) (v' : Value) (s' : Bool) (M : Nat) (f : Int) (w : World) (hv : NumV w v s N e) (hv' : NumV w v' s' M f) (hl : (Nt.dg 18446744073709551616 N).length ≤ 100000000) (hl' : (Nt.dg 18446744073709551616 M).length ≤ 100000000)
    (he1 : -1000000000 ≤ e) (he2 : e ≤ 1000000000) (hf1 : -1000000000 ≤ f) (hf2 : f ≤ 1000000000) :
    Calls Try.prog 154 #[v, v'] w fun r w' => ∃ v'', r = .returned v'' ∧ NumV w' v'' (s != s') (N * M) (e + f) ∧ Below w.heap.size w w' := by
  obtain ⟨A, c, rfl, hu⟩ := hv
  obtain ⟨A', c', rfl, hu'⟩ := hv'
  have hm := fun w1 (hb : Below w.heap.size w w1) => natMul_any A _ c _ A' _ c' _ w1 (hu.below hb) hl (Nt.dig_dg 18446744073709551616 (by decide) N) (hu'.below hb) hl' (Nt.dig_dg 18446744073709551616 (by decide) M)
  rw [Nt.val_dg _ (by decide), Nt.val_dg _ (by decide)] at hm
  have HM := Lib.hid hm
  clear hm hu hu'
  generalize (Nt.dg 18446744073709551616 N).length = n at *
  generalize (Nt.dg 18446744073709551616 M).length = n' at *
  unfold NumV
  unfold NatPost at HM
  generalize (Nt.dg 18446744073709551616 (N * M)) = l at *
  generalize l.length = k at *
  have hst := Two.start w s A n c e s' A' n' c' f 65
  go_enter Try.func154, Try.ntmps154
  go_wp2_with fail
  generalize ((w.alloc (.cells #[.bool s, .slice A n c, .int .i64 e] 65)).alloc (.cells #[.bool s', .slice A' n' c', .int .i64 f] 65)).alloc (.cells #[.bool false, .slice none 0 0, .int .i64 0] 65) = W at *
  have HC : Hid (∀ x, Two w w.heap.size s A n c e (w.heap.size + 1) s' A' n' c' f (w.heap.size + 1 + 1) x → Calls Try.prog 160 #[.slice A n c, .slice A' n' c'] x fun r w' => ∃ A3 c3, r = .returned (.slice A3 k c3) ∧ U w' A3 k c3 l ∧ Two w w.heap.size s A n c e (w.heap.size + 1) s' A' n' c' f (w.heap.size + 1 + 1) w') :=
    Lib.hid (fun x hx => (HM.out x hx.2.2.1).mono fun r w' ⟨A3, c3, h1, h2, h3⟩ => ⟨A3, c3, h1, h2, hx.go h3⟩)
  have HS0 := Lib.hid hst.drew
  have KEEP : Hid (∀ x, Two w w.heap.size s A n c e (w.heap.size + 1) s' A' n' c' f (w.heap.size + 1 + 1) x → ∀ b A n c e, _) := Lib.hid (fun x hx b A n c e => Two.store hx (by omega) (by omega) (by omega) b A n c e)
  have hwr : IntKind.i64.wrap (e + f) = e + f := by rw [IntKind.wrap_i64]; omega
  obtain ⟨k0, k1, k2, k3, k4⟩ := hst
  go_region_held3 (fun x => (x.cell? ⟨w.heap.size, 0, none⟩ = some (.bool s) ∧ x.cell? ⟨w.heap.size, 1, none⟩ = some (.slice A n c) ∧ x.cell? ⟨w.heap.size, 2, none⟩ = some (.int .i64 e)) ∧ (x.cell? ⟨w.heap.size + 1, 0, none⟩ = some (.bool s') ∧ x.cell? ⟨w.heap.size + 1, 1, none⟩ = some (.slice A' n' c') ∧ x.cell? ⟨w.heap.size + 1, 2, none⟩ = some (.int .i64 f)) ∧ Below w.heap.size w x ∧ (w.heap.size < x.heap.size ∧ w.heap.size + 1 < x.heap.size) ∧ Shape x (w.heap.size + 1 + 1)) ((first | assumption | exact HS0.out | exact KEEP.out _ (by assumption) _ _ _ _ _)) (first | (go_at_call 160; refine (HC.out _ ?_).mono ?_; (assumption); rintro r w' ⟨A3, c3, rfl, hu3, hS⟩; have hS2 := hS; obtain ⟨_, _, _, _, _, hfz, _, _, _, _, _, m0, m1, m2⟩ := hS2; have z0 := hfz 0; have z1 := hfz 1; have z2 := hfz 2; clear hfz))
  have OUT := Lib.hid (Two.out (w := w') hS (by omega) hu3 (.bool (!(s == s'))) (.slice A3 k c3) (.int .i64 (e + f)))
  clear hS m0 m1 m2 z0 z1 z2 hu3 HC KEEP HS0 HM k0 k1 k2 k3 k4
  go_wp2
  refine bodyPost_ret (v := .agg #[.bool (!(s == s')), .slice A3 k c3, .int .i64 (e + f)]) (by simp [results, Try.results154, go_sem, OUT.out.2.2.1, OUT.out.2.2.2.1, OUT.out.2.2.2.2]) rfl ⟨_, rfl, ⟨A3, c3, rfl, OUT.out.1⟩, OUT.out.2.1⟩
end Go.Proofs.Ytclnmheplecknaa

namespace Go.Proofs.Ytclnmheplecknaa
open Go.RowKit
namespace Nt
theorem drop_val (B : Nat) (l : List Int) (k : Nat) (a : Int) (h : l[k]? = some a) : val B (l.drop k) = a.toNat + B * val B (l.drop (k + 1)) := by
  obtain ⟨hk, e⟩ := List.getElem?_eq_some_iff.1 h
  rw [List.drop_eq_getElem_cons hk, e]; rfl
theorem drop_set (l : List Int) (k : Nat) (v : Int) : (l.set k v).drop (k + 1) = l.drop (k + 1) := by
  rw [List.drop_set, if_pos (Nat.lt_succ_self k)]
theorem short_step (x o : List Int) (k Y r : Nat) (a S : Int) (hY : 0 < Y) (ha : x[k]? = some a) (hl : k < o.length) (ha0 : 0 ≤ a) (hS : S = (r : Int) * 4294967296 + a)
    (hval : val 4294967296 (x.drop (k + 1)) = Y * val 4294967296 (o.drop (k + 1)) + r) :
    val 4294967296 (x.drop k) = Y * val 4294967296 ((o.set k (S / (Y : Int))).drop k) + (S % (Y : Int)).toNat := by
  have hu : (o.set k (S / (Y : Int)))[k]? = some (S / (Y : Int)) := by simp [hl]
  rw [drop_val _ _ _ _ ha, drop_val _ _ _ _ hu, drop_set, hval]
  have hS0 : 0 ≤ S := by omega
  have h1 := Int.mul_ediv_add_emod S (Y : Int)
  have h2 : 0 ≤ S / (Y : Int) := Int.ediv_nonneg hS0 (by omega)
  have h3 : 0 ≤ S % (Y : Int) := Int.emod_nonneg _ (by omega)
  obtain ⟨q, hq⟩ : ∃ q : Nat, S / (Y : Int) = q := ⟨(S / (Y : Int)).toNat, by omega⟩
  obtain ⟨t, ht⟩ : ∃ t : Nat, S % (Y : Int) = t := ⟨(S % (Y : Int)).toNat, by omega⟩
  obtain ⟨b, hb⟩ : ∃ b : Nat, a = b := ⟨a.toNat, by omega⟩
  rw [hq, ht] at h1
  rw [hq, ht, hb, Int.toNat_natCast, Int.toNat_natCast, Int.toNat_natCast]
  have h5 : ((Y * q : Nat) : Int) = (Y : Int) * q := Int.natCast_mul _ _
  have h4 : Y * q + t = r * 4294967296 + b := by rw [hS, hb] at h1; omega
  generalize val 4294967296 (o.drop (k + 1)) = V
  rw [Nat.mul_add, Nat.mul_add]
  have e1 : Y * (4294967296 * V) = 4294967296 * (Y * V) := by ac_rfl
  rw [e1]
  omega
end Nt
theorem short_any (A : Option Addr) (n c : Nat) (x : List Int) (Y : Nat) (w : World) (h : U w A n c x) (hl : n ≤ 200000000) (hd : Nt.Dig 4294967296 x) (hY0 : 0 < Y) (hY : Y ≤ 2147483648) :
    Calls Try.prog 168 #[.slice A n c, .int .u64 Y] w fun e w' => ∃ A' c', e = .returned (.tuple #[.slice A' (Nt.dg 4294967296 (Nt.val 4294967296 x / Y)).length c', .int .u64 ((Nt.val 4294967296 x % Y : Nat) : Int)]) ∧ U w' A' (Nt.dg 4294967296 (Nt.val 4294967296 x / Y)).length c' (Nt.dg 4294967296 (Nt.val 4294967296 x / Y)) ∧ Below w.heap.size w w' := by
  obtain ⟨i0, hi0, hz0, hz1, hz2⟩ := info_parts u64_info
  have HX := Lib.hid h
  have HDX := Lib.hid hd
  have HP := Lib.hid h.1
  clear h hd
  go_enter Try.func168, Try.ntmps168
  go_wp2_with (refine wpList_make_full _ rfl (.tmp 11) (.tmp 11) 22 rfl w.heap.size 55 i0 _ 1 Try.underlying22 hi0 hz0 hz1 .i64 .i64 _ _ n rfl rfl (by omega) (by omega) (by rw [hz2]; omega) (by simp only [maxLen]; omega) (Nat.le_refl _) ?_; intro w1 hown1 hg1)
  have ROW := Lib.hid (Row.made hown1)
  have HB := Lib.hid ((Below.refl w.heap.size w).grown hg1 (Nat.le_refl _) (fun k hk => by cases hk))
  clear hown1 hg1
  go_wp2_with fail
  go_loopw [7, 8] (fun rv iv wr => ∃ (k r : Nat) (o : List Int), iv = .int .i64 ((k : Int) - 1) ∧ rv = .int .u64 r ∧ k ≤ n ∧ r < Y ∧ Row wr w.heap.size w.heap.size n o ∧ Nt.Dig 4294967296 o ∧ Nt.val 4294967296 (x.drop k) = Y * Nt.val 4294967296 (o.drop k) + r ∧ Below w.heap.size w wr) (fun _ iv _ => (intOf iv + 1).toNat)
  case atStart => exact ⟨n, 0, List.replicate n 0, by go_num, rfl, Nat.le_refl _, hY0, ROW.out, (fun z hz => by rw [(List.mem_replicate.1 hz).2]; decide), by rw [List.drop_of_length_le (by have := HP.out; omega), List.drop_of_length_le (by simp)]; simp [Nt.val], HB.out⟩
  case round =>
    clear ROW HB
    obtain ⟨k, r, o, rfl, rfl, hk, hr, hrow, hdo, hval, hb⟩ := hrel
    have ROW := Lib.hid hrow
    have HDO := Lib.hid hdo
    have HVAL := Lib.hid hval
    have HB := Lib.hid hb
    clear hrow hdo hval hb
    rcases k with _ | k
    · have hv := HVAL.out
      rw [List.drop_zero, List.drop_zero] at hv
      have hq : Nt.val 4294967296 o = Nt.val 4294967296 x / Y := by
        rw [hv, Nat.mul_add_div hY0, Nat.div_eq_of_lt hr, Nat.add_zero]
      have hm : r = Nt.val 4294967296 x % Y := by
        rw [hv, Nat.mul_add_mod, Nat.mod_eq_of_lt hr]
      have HQ := Lib.hid hq
      have HM := Lib.hid hm
      obtain ⟨A3, c3, e3, hu3⟩ := U.of_own ROW.out
      injection e3 with e4 e5 e6
      subst e4
      subst e6
      have HU3 := Lib.hid hu3
      clear hv hu3 e5 hq hm
      go_wp2_with fail
      refine (low_any _ _ _ o _ HU3.out (by omega) HDO.out).mono ?_
      rintro e w4 ⟨rfl, hu4, rfl⟩
      rw [HQ.out] at hu4 ⊢
      have HU4 := Lib.hid hu4
      clear hu4
      go_wp2
      go_ret2
      exact ⟨_, _, by rw [← HM.out]; rfl, HU4.out, HB.out⟩
    · obtain ⟨a, ha⟩ : ∃ a, x[k]? = some a := ⟨_, List.getElem?_eq_getElem (by have := HP.out; omega)⟩
      obtain ⟨u, hu⟩ : ∃ u, o[k]? = some u := ⟨_, List.getElem?_eq_getElem (by have := ROW.out.len; omega)⟩
      obtain ⟨ad, rfl, _, hc1⟩ := (HX.out.below HB.out).2.2.2 k a ha
      have hc3 := ROW.out.cell k u hu
      have hfr := ROW.out.free k
      have ra := HDX.out a (List.mem_of_getElem? ha)
      obtain ⟨S, hS⟩ : ∃ S : Int, S = (r : Int) * 4294967296 + a := ⟨_, rfl⟩
      have hst := Nt.short_step x o k Y r a S hY0 ha (by have := ROW.out.len; omega) ra.1 hS HVAL.out
      have hs1 : IntKind.u64.wrap ((r : Int) * 4294967296) = (r : Int) * 4294967296 := by rw [IntKind.wrap_u64]; omega
      have hs2 : IntKind.u64.wrap ((r : Int) * 4294967296 + a) = S := by rw [IntKind.wrap_u64]; omega
      have hSb : 0 ≤ S ∧ S < 4294967296 * (Y : Int) := by omega
      have hS64 : S < 18446744073709551616 := by omega
      have hq0 : 0 ≤ S / (Y : Int) := Int.ediv_nonneg hSb.1 (by omega)
      have hq1 : S / (Y : Int) < 4294967296 := Int.ediv_lt_of_lt_mul (by omega) (by omega)
      have hm0 : 0 ≤ S % (Y : Int) := Int.emod_nonneg _ (by omega)
      have hm1 : S % (Y : Int) < (Y : Int) := Int.emod_lt_of_pos _ (by omega)
      have hr1 : Int.tmod S (Y : Int) = S % (Y : Int) := Int.tmod_eq_emod_of_nonneg hSb.1
      have hr2 : IntKind.u64.wrap (Int.tdiv S (Y : Int)) = S / (Y : Int) := by rw [IntKind.wrap_u64, Int.tdiv_eq_ediv_of_nonneg hSb.1]; omega
      have hr3 : IntKind.u64.wrap (S % (Y : Int)) = S % (Y : Int) := by rw [IntKind.wrap_u64]; omega
      have hyz : (Y : Int) ≠ 0 := by omega
      have hyz2 : ((Y : Int) == 0) = false := by simp; omega
      have HST := Lib.hid hst
      have HQ0 := Lib.hid hq0
      have HQ1 := Lib.hid hq1
      have HM0 := Lib.hid hm0
      have HM1 := Lib.hid hm1
      clear hst hSb hS hS64 hu ra hq0 hq1 hm0 hm1
      go_wp2_with fail
      have HR2 := Lib.hid (ROW.out.set k (S / (Y : Int)))
      have HB2 := Lib.hid (HB.out.setCell (p := ⟨w.heap.size, k, none⟩) (Nat.le_refl _) (Value.int IntKind.u64 (S / (Y : Int))))
      refine ⟨⟨k, (S % (Y : Int)).toNat, o.set k (S / (Y : Int)), by go_num, by rw [Int.toNat_of_nonneg HM0.out], by omega, by have := HM0.out; have := HM1.out; omega, HR2.out, HDO.out.set _ _ HQ0.out HQ1.out, HST.out, HB2.out⟩, by simp [intOf]⟩
theorem U.drop {w : World} {ad : Addr} {n c : Nat} {l : List Int} (h : U w (some ad) n c l) (k : Nat) (hk : k ≤ n) : U w (some (ad.add k)) (n - k) (c - k) (l.drop k) := by
  obtain ⟨h1, h2, h3, h4⟩ := h
  refine ⟨by rw [List.length_drop]; omega, by omega, (fun hh => nomatch hh), fun j x hj => ?_⟩
  rw [List.getElem?_drop] at hj
  obtain ⟨ad', e, hlt, hc⟩ := h4 (k + j) x hj
  obtain rfl := Option.some.inj e
  exact ⟨_, rfl, by rw [add_block]; exact hlt, by rw [Addr.add_add]; exact hc⟩
namespace Nt
theorem down_all (x : List Int) (N m p q r : Nat) (hp : x.length = p) (hd : Dig 4294967296 x) (hv : val 4294967296 x = N) (hm : m = 32 * q + r) (hq : p ≤ q) : N / 2 ^ m = 0 ∧ N % 2 ^ m = N := by
  have h1 := val_lt 4294967296 (by decide) x hd
  rw [hv, hp] at h1
  have h2 : N < 2 ^ m := by
    refine Nat.lt_of_lt_of_le h1 ?_
    rw [show (4294967296 : Nat) = 2 ^ 32 from rfl, ← Nat.pow_mul]
    exact Nat.pow_le_pow_right (by decide) (by omega)
  exact ⟨Nat.div_eq_of_lt h2, Nat.mod_eq_of_lt h2⟩
theorem down_part (x : List Int) (N m q r : Nat) (hq : q ≤ x.length) (hd : Dig 4294967296 x) (hv : val 4294967296 x = N) (hm : m = 32 * q + r) :
    N / 2 ^ m = val 4294967296 (x.drop q) / 2 ^ r ∧ (N % 2 ^ m ≠ 0 ↔ (val 4294967296 (x.take q) ≠ 0 ∨ val 4294967296 (x.drop q) % 2 ^ r ≠ 0)) := by
  have h1 := val_append 4294967296 (x.take q) (x.drop q)
  rw [List.take_append_drop, hv, List.length_take, Nat.min_eq_left hq] at h1
  have h2 := val_lt 4294967296 (by decide) (x.take q) (hd.take q)
  rw [List.length_take, Nat.min_eq_left hq] at h2
  have e : (2 : Nat) ^ m = 4294967296 ^ q * 2 ^ r := by rw [hm, Nat.pow_add, Nat.pow_mul, show (2 : Nat) ^ 32 = 4294967296 from rfl]
  have hB : 0 < 4294967296 ^ q := Nat.pow_pos (by decide)
  rw [e]
  generalize val 4294967296 (x.take q) = a at *
  generalize val 4294967296 (x.drop q) = b at *
  generalize 4294967296 ^ q = B at *
  generalize 2 ^ r = Y at *
  have hdv : N / B = b := by rw [h1, Nat.add_mul_div_left _ _ hB, Nat.div_eq_of_lt h2, Nat.zero_add]
  have hmd : N % B = a := by rw [h1, Nat.add_mul_mod_self_left, Nat.mod_eq_of_lt h2]
  refine ⟨by rw [← Nat.div_div_eq_div_mul, hdv], ?_⟩
  rw [Nat.mod_mul, hmd, hdv]
  rcases Nat.eq_zero_or_pos a with ha | ha
  · rcases Nat.eq_zero_or_pos (b % Y) with hb | hb
    · rw [ha, hb]; simp
    · have : 0 < B * (b % Y) := Nat.mul_pos hB hb
      generalize B * (b % Y) = Z at *
      generalize b % Y = t at *
      omega
  · generalize B * (b % Y) = Z
    generalize b % Y = t
    omega
end Nt
set_option maxRecDepth 400000 in
set_option maxHeartbeats 4000000 in
theorem natDown_any (A : Option Addr) (n c : Nat) (l : List Int) (m : Nat) (w : World) (h : U w A n c l) (hl : n ≤ 100000000) (hd : Nt.Dig 18446744073709551616 l) (hm : m ≤ 1000000000) :
    Calls Try.prog 166 #[.slice A n c, .int .i64 m] w fun e w' => ∃ A' c', e = .returned (.tuple #[.slice A' (Nt.dg 18446744073709551616 (Nt.val 18446744073709551616 l / 2 ^ m)).length c', .bool (decide (Nt.val 18446744073709551616 l % 2 ^ m ≠ 0))]) ∧ U w' A' (Nt.dg 18446744073709551616 (Nt.val 18446744073709551616 l / 2 ^ m)).length c' (Nt.dg 18446744073709551616 (Nt.val 18446744073709551616 l / 2 ^ m)) ∧ Below w.heap.size w w' := by
  have len1 := Nt.dg32_len l n h.1 hd
  have HV1 := Lib.hid (halves_any A n c l w h (by omega) hd)
  clear h hd
  generalize Nt.val 18446744073709551616 l = N at *
  obtain ⟨Z, hZ⟩ : ∃ Z, Z = N / 2 ^ m := ⟨_, rfl⟩
  obtain ⟨b, hb⟩ : ∃ b, b = decide (N % 2 ^ m ≠ 0) := ⟨_, rfl⟩
  rw [← hZ, ← hb]
  have HZ := Lib.hid hZ
  have HBZ := Lib.hid hb
  clear hZ hb
  go_enter Try.func166, Try.ntmps166
  go_wp2_with fail
  refine HV1.out.mono ?_
  rintro e w1 ⟨A1, c1, rfl, hu, hb⟩
  have HU := Lib.hid hu
  have HB := Lib.hid hb
  clear hu hb HV1
  have HDX := Lib.hid (Nt.dig_dg 4294967296 (by decide) N)
  have HVX := Lib.hid (Nt.val_dg 4294967296 (by decide) N)
  generalize Nt.dg 4294967296 N = x at *
  obtain ⟨p, hp⟩ : ∃ p, x.length = p := ⟨_, rfl⟩
  rw [hp] at len1 HU ⊢
  have HP := Lib.hid hp
  obtain ⟨q, hq⟩ : ∃ q, q = m / 32 := ⟨_, rfl⟩
  obtain ⟨r, hr⟩ : ∃ r, r = m % 32 := ⟨_, rfl⟩
  have hqi : (m : Int) / 32 = (q : Int) := by omega
  have HQI := Lib.hid hqi
  have hqb : q ≤ 31250000 := by omega
  have hrb : r < 32 := by omega
  have HR := Lib.hid hr
  have HQR := Lib.hid (show m = 32 * q + r by omega)
  clear hp hq hr
  have NIL : Hid (p ≤ q → Z = 0 ∧ b = decide (N ≠ 0)) := Lib.hid (fun h => by
    obtain ⟨g1, g2⟩ := Nt.down_all x N m p q r HP.out HDX.out HVX.out HQR.out h
    exact ⟨by rw [HZ.out, g1], by rw [HBZ.out, g2]⟩)
  have FULL : Hid (q ≤ p → Z = Nt.val 4294967296 (x.drop q) / 2 ^ r ∧ (b = true ↔ (Nt.val 4294967296 (x.take q) ≠ 0 ∨ Nt.val 4294967296 (x.drop q) % 2 ^ r ≠ 0))) := Lib.hid (fun h => by
    obtain ⟨g1, g2⟩ := Nt.down_part x N m q r (by rw [HP.out]; exact h) HDX.out HVX.out HQR.out
    exact ⟨by rw [HZ.out, g1], by rw [HBZ.out, decide_eq_true_eq]; exact g2⟩)
  clear HZ HBZ
  go_wp2_with fail
  go_loop [7, 8] (fun lo iv => ∃ i : Nat, i ≤ q ∧ i ≤ p ∧ iv = .int .i64 i ∧ lo = .bool (decide (Nt.val 4294967296 (x.take i) ≠ 0))) (fun _ iv => q - (intOf iv).toNat)
  case atStart => exact ⟨0, Nat.zero_le _, Nat.zero_le _, rfl, by simp [Nt.val]⟩
  case round =>
    obtain ⟨i, hiq, hip, rfl, rfl⟩ := hrel
    obtain ⟨t, ht⟩ : ∃ t, t = decide (Nt.val 4294967296 (x.take i) ≠ 0) := ⟨_, rfl⟩
    rw [← ht]
    have HT := Lib.hid ht
    clear ht
    have hmi : (i : Int) < (m : Int) / 32 ↔ i < q := by omega
    by_cases h1 : i < q
    · have h1' : (i : Int) < (m : Int) / 32 := hmi.2 h1
      by_cases h2 : i < p
      · obtain ⟨a, ha⟩ : ∃ a, x[i]? = some a := ⟨_, List.getElem?_eq_getElem (by have := HP.out; omega)⟩
        obtain ⟨ad, rfl, _, hc1⟩ := HU.out.2.2.2 i a ha
        have hs := Nt.val_take_succ 4294967296 x i HDX.out
        rw [ha, Option.getD_some] at hs
        have ra := HDX.out a (List.mem_of_getElem? ha)
        have hBi : 0 < 4294967296 ^ i := Nat.pow_pos (by decide)
        cases t
        · have h0 : Nt.val 4294967296 (x.take i) = 0 := by have := HT.out; simpa using this.symm
          rw [h0, Nat.zero_add] at hs
          by_cases ha0 : a = 0
          · have NXT : Hid (false = decide (Nt.val 4294967296 (x.take (i + 1)) ≠ 0)) := Lib.hid (by rw [hs, ha0]; simp)
            subst ha0
            clear ha hs ra hBi h0
            go_wp2_with fail
            refine ⟨⟨i + 1, h1, h2, by go_num, by rw [← NXT.out]⟩, by simp [intOf]; omega⟩
          · have hane : (a == 0) = false := by simpa using ha0
            have NXT : Hid (true = decide (Nt.val 4294967296 (x.take (i + 1)) ≠ 0)) := Lib.hid (by
              have : 0 < a.toNat * 4294967296 ^ i := Nat.mul_pos (by omega) hBi
              rw [hs]; symm; rw [decide_eq_true_eq]
              first | omega | (rw [Nat.mul_comm] at this; omega))
            clear ha hs ra hBi h0
            go_wp2_with fail
            refine ⟨⟨i + 1, h1, h2, by go_num, by rw [← NXT.out]; first | rfl | rw [show (a != 0) = true by simpa using ha0]⟩, by simp [intOf]; omega⟩
        · have h0 : Nt.val 4294967296 (x.take i) ≠ 0 := by have := HT.out; simpa using this.symm
          have NXT : Hid (true = decide (Nt.val 4294967296 (x.take (i + 1)) ≠ 0)) := Lib.hid (by
            rw [hs]; symm; rw [decide_eq_true_eq]; omega)
          clear ha hs ra hBi h0
          go_wp2_with fail
          refine ⟨⟨i + 1, h1, h2, by go_num, by rw [← NXT.out]⟩, by simp [intOf]; omega⟩
      · have hpq : (p : Int) ≤ (m : Int) / 32 := by omega
        have hip2 : i = p := by omega
        have NILL : Hid (Z = 0 ∧ b = t) := Lib.hid (by
          obtain ⟨g1, g2⟩ := NIL.out (by omega)
          refine ⟨g1, ?_⟩
          rw [g2, HT.out, hip2, List.take_of_length_le (by have := HP.out; omega), HVX.out])
        have HLT := Lib.hid NILL.out.1
        go_wp2
        go_ret2
        rw [NILL.out.1, NILL.out.2, Nt.dg_zero]
        exact ⟨none, 0, rfl, ⟨rfl, Nat.le_refl _, fun _ => rfl, fun k x hk => by simp at hk⟩, HB.out⟩
    · have h1' : ¬ (i : Int) < (m : Int) / 32 := fun h => h1 (hmi.1 h)
      have hiq2 : i = q := by omega
      by_cases h2 : p ≤ q
      · have hpq : (p : Int) ≤ (m : Int) / 32 := by omega
        have NILL : Hid (Z = 0 ∧ b = t) := Lib.hid (by
          obtain ⟨g1, g2⟩ := NIL.out h2
          refine ⟨g1, ?_⟩
          rw [g2, HT.out, List.take_of_length_le (by have := HP.out; omega), HVX.out])
        go_wp2
        go_ret2
        rw [NILL.out.1, NILL.out.2, Nt.dg_zero]
        exact ⟨none, 0, rfl, ⟨rfl, Nat.le_refl _, fun _ => rfl, fun k x hk => by simp at hk⟩, HB.out⟩
      · have hpq : ¬ (p : Int) ≤ (m : Int) / 32 := by omega
        subst hiq2
        obtain ⟨j', hj'⟩ : ∃ j', j' = i := ⟨_, rfl⟩
        subst hj'
        obtain ⟨g1, g2⟩ := FULL.out (by omega)
        have HG1 := Lib.hid g1
        have HG2 : Hid (b = true ↔ (t = true ∨ Nt.val 4294967296 (x.drop j') % 2 ^ r ≠ 0)) := Lib.hid (by rw [g2, HT.out, decide_eq_true_eq])
        clear g1 g2 NIL FULL HT
        obtain ⟨a, ha⟩ : ∃ a, x[j']? = some a := ⟨_, List.getElem?_eq_getElem (by have := HP.out; omega)⟩
        obtain ⟨ad, rfl, _, _⟩ := HU.out.2.2.2 j' a ha
        have HUD := Lib.hid (HU.out.drop j' (by omega))
        clear ha
        go_wp2_with fail
        go_loop [9, 10] (fun b t => ∃ j : Nat, j ≤ r ∧ t = .int .i64 j ∧ b = .int .u64 ((2 ^ j : Nat) : Int)) (fun _ t => r - (intOf t).toNat)
        case atStart => exact ⟨0, Nat.zero_le _, rfl, rfl⟩
        case round =>
          obtain ⟨j, hj, rfl, rfl⟩ := hrel
          by_cases hlt : j < r
          · have k1 : (j : Int) < (m : Int) % 32 := by have := HR.out; omega
            have hp2 : 2 ^ j ≤ 2147483648 := Nat.le_trans (Nat.pow_le_pow_right (n := 2) (by decide) (show _ ≤ 31 by omega)) (by decide)
            have HE := Lib.hid (show 2 * 2 ^ j = 2 ^ (j + 1) by rw [Nat.pow_succ]; omega)
            generalize 2 ^ j = Y at *
            go_wp2
            go_round
            case rel => exact ⟨j + 1, hlt, by go_num, by rw [← HE.out]; go_num⟩
            case measure => simp [intOf]; omega
          · have k1 : ¬ (j : Int) < (m : Int) % 32 := by have := HR.out; omega
            have hjr : j = r := by omega
            subst hjr
            have hp2 : 2 ^ j ≤ 2147483648 := Nat.le_trans (Nat.pow_le_pow_right (n := 2) (by decide) (show _ ≤ 31 by omega)) (by decide)
            obtain ⟨Y, hY⟩ : ∃ Y, 2 ^ j = Y := ⟨_, rfl⟩
            have hY0 : 0 < Y := by rw [← hY]; exact Nat.two_pow_pos _
            rw [hY] at hp2 HG1 HG2 ⊢
            clear hY
            have hne : ¬ c1 = j' := by have := HU.out.2.1; omega
            have hnl : (Nt.dg 4294967296 (Nt.val 4294967296 (x.drop j') / Y)).length ≤ p := by
              refine Nt.dg_len 4294967296 (by decide) _ _ (Nat.lt_of_le_of_lt (Nat.div_le_self _ _) ?_)
              have k2 := Nt.val_lt 4294967296 (by decide) (x.drop j') (fun y hy => HDX.out y (List.mem_of_mem_drop hy))
              refine Nat.lt_of_lt_of_le k2 (Nat.pow_le_pow_right (by decide) ?_)
              rw [List.length_drop, HP.out]; omega
            have HSH := Lib.hid (short_any (some (ad.add j')) (p - j') (c1 - j') (x.drop j') Y w1 HUD.out (by omega) (fun y hy => HDX.out y (List.mem_of_mem_drop hy)) hY0 hp2)
            rw [← HG1.out] at hnl HSH
            have HND := Lib.hid (Nt.dig_dg 4294967296 (by decide) Z)
            have HNV := Lib.hid (Nt.val_dg 4294967296 (by decide) Z)
            obtain ⟨y, hy⟩ : ∃ y, y = Nt.dg 4294967296 Z := ⟨_, rfl⟩
            rw [← hy] at hnl HSH HND HNV
            clear hy
            obtain ⟨v, hv⟩ : ∃ v, v = Nt.val 4294967296 (x.drop j') % Y := ⟨_, rfl⟩
            rw [← hv] at HSH HG2
            clear hv hp2 hY0 HG1 HUD
            go_wp2_with fail
            refine HSH.out.mono ?_
            rintro e w2 ⟨A2, c2, rfl, hu2, hb2⟩
            have HU2 := Lib.hid hu2
            have HB2 := Lib.hid (HB.out.trans (hb2.mono HB.out.size))
            clear hu2 hb2 HSH HU
            go_wp2_with fail
            refine (limbs_any A2 _ c2 y w2 HU2.out (by omega) HND.out).mono ?_
            rintro e w3 ⟨A3, c3, rfl, hu3, hb3⟩
            rw [HNV.out] at hu3 ⊢
            have HU3 := Lib.hid hu3
            have HB3 := Lib.hid (HB2.out.trans (hb3.mono HB2.out.size))
            clear hu3 hb3 HU2
            cases t
            · by_cases hv0 : v = 0
              · subst hv0
                have hbf : b = false := by
                  cases hb : b
                  · rfl
                  · have := HG2.out.1 hb; simp at this
                go_wp2
                go_ret2
                exact ⟨A3, c3, by rw [hbf]; rfl, HU3.out, HB3.out⟩
              · have hvz : ((v : Int) == 0) = false := by simpa using hv0
                have hbt : b = true := HG2.out.2 (.inr hv0)
                go_wp2
                go_ret2
                exact ⟨A3, c3, by rw [hbt, ← show ((v : Int) != 0) = true by simpa using hv0]; rfl, HU3.out, HB3.out⟩
            · have hbt : b = true := HG2.out.2 (.inl rfl)
              go_wp2
              go_ret2
              exact ⟨A3, c3, by rw [hbt]; rfl, HU3.out, HB3.out⟩
end Go.Proofs.Ytclnmheplecknaa

namespace Go.Proofs.Ytclnmheplecknaa
open Go.RowKit
namespace Nt
theorem carry_stop (o : List Int) (j m V : Nat) (u : Int) (hu : o[j]? = some u) (hd : Dig 18446744073709551616 o) (hlt : u.toNat + m < 18446744073709551616) (hv : val 18446744073709551616 o + 18446744073709551616 ^ j * m = V) :
    Dig 18446744073709551616 (o.set j (u + m)) ∧ val 18446744073709551616 (o.set j (u + m)) = V := by
  have hu0 := hd u (List.mem_of_getElem? hu)
  have h1 := val_set 18446744073709551616 o j (u + m) u hu
  refine ⟨hd.set _ _ (by omega) (by omega), ?_⟩
  have e : (u + m).toNat = u.toNat + m := by omega
  rw [e, Nat.mul_add] at h1
  omega
theorem carry_go (o : List Int) (j m V : Nat) (u : Int) (hu : o[j]? = some u) (hd : Dig 18446744073709551616 o) (hm : m < 18446744073709551616) (hge : 18446744073709551616 ≤ u.toNat + m) (hv : val 18446744073709551616 o + 18446744073709551616 ^ j * m = V) :
    Dig 18446744073709551616 (o.set j (u + m - 18446744073709551616)) ∧ val 18446744073709551616 (o.set j (u + m - 18446744073709551616)) + 18446744073709551616 ^ (j + 1) * 1 = V := by
  have hu0 := hd u (List.mem_of_getElem? hu)
  have h1 := val_set 18446744073709551616 o j (u + m - 18446744073709551616) u hu
  refine ⟨hd.set _ _ (by omega) (by omega), ?_⟩
  have e : (u + m - 18446744073709551616).toNat + 18446744073709551616 = u.toNat + m := by omega
  have e2 : 18446744073709551616 ^ j * (u + m - 18446744073709551616).toNat + 18446744073709551616 ^ j * 18446744073709551616 = 18446744073709551616 ^ j * u.toNat + 18446744073709551616 ^ j * m := by
    rw [← Nat.mul_add, e, Nat.mul_add]
  rw [Nat.pow_succ]
  generalize 18446744073709551616 ^ j = P at *
  generalize P * 18446744073709551616 = Q at *
  omega
theorem val_lt_pow (B : Nat) (hB : 1 ≤ B) : ∀ l : List Int, Dig B l → val B l < B ^ l.length
  | [], _ => by simp [val]
  | x :: l, h => by
    have h1 := val_lt_pow B hB l (fun y hy => h y (List.mem_cons_of_mem _ hy))
    have h2 := h x (List.mem_cons_self ..)
    simp only [val, List.length_cons]
    rw [Nat.pow_succ, Nat.mul_comm (B ^ l.length) B]
    have h3 : B * (val B l + 1) ≤ B * B ^ l.length := Nat.mul_le_mul_left B h1
    rw [Nat.mul_add, Nat.mul_one] at h3
    omega
end Nt
def CarryPost (base g n : Nat) (V : Nat) (w : World) (e : Ending) (w' : World) : Prop := (∃ v, e = .returned v) ∧ ∃ o, Row w' base g n o ∧ Nt.Dig 18446744073709551616 o ∧ Nt.val 18446744073709551616 o = V ∧ Below base w w'
set_option maxRecDepth 400000 in
set_option maxHeartbeats 4000000 in
theorem carry_any (base g n p : Nat) (o : List Int) (N V : Nat) (w : World) (hr : Row w base g n o) (hd : Nt.Dig 18446744073709551616 o) (hN : N < 18446744073709551616) (hp : p ≤ n) (hn : n ≤ 1000000000) (hv : Nt.val 18446744073709551616 o + 18446744073709551616 ^ p * N = V) (hV : V < 18446744073709551616 ^ n) :
    Calls Try.prog 69 #[.slice (some ⟨g, 0, none⟩) n n, .int .i64 (p : Int), .int .u64 (N : Int)] w (CarryPost base g n V w) := by
  have HR := Lib.hid hr
  have HD := Lib.hid hd
  have HN := Lib.hid hN
  have HV := Lib.hid hv
  have HVV := Lib.hid hV
  have HBL := Lib.hid hr.base_le
  clear hr hd hN hv hV
  go_enter Try.func69, Try.ntmps69
  go_wp2_with fail
  go_loopw [1, 2, 10] (fun av nv iv wr => ∃ (j m : Nat) (o1 : List Int), p ≤ j ∧ j ≤ n ∧ av = .int .i64 j ∧ nv = .int .u64 m ∧ iv = .int .i64 ((j : Int) - p) ∧ Hid (m < 18446744073709551616) ∧ Row wr base g n o1 ∧ Hid (Nt.Dig 18446744073709551616 o1) ∧ Hid (Nt.val 18446744073709551616 o1 + 18446744073709551616 ^ j * m = V) ∧ Below base w wr) (fun _ _ iv _ => (n - p) - (intOf iv).toNat)
  case atStart => exact ⟨p, N, o, Nat.le_refl _, hp, rfl, rfl, by simp, HN, HR.out, HD, HV, Below.refl _ _⟩
  case round =>
    obtain ⟨j, m, o1, hpj, hj, rfl, rfl, rfl, HM, hr1, HD1, HV1, hb1⟩ := hrel
    have HR1 := Lib.hid hr1
    have HB1 := Lib.hid hb1
    clear hr1 hb1 HR HD HN HV
    by_cases hlt : j < n
    · have hcmp : (j : Int) - p < (n : Int) - p := by omega
      by_cases hm : m = 0
      · subst hm
        have HF : Hid (Nt.val 18446744073709551616 o1 = V) := Lib.hid (by have := HV1.out; rw [Nat.mul_zero, Nat.add_zero] at this; exact this)
        go_wp2
        go_end0
        exact ⟨⟨_, rfl⟩, o1, HR1.out, HD1.out, HF.out, HB1.out⟩
      · obtain ⟨u, hu⟩ : ∃ u, o1[j]? = some u := ⟨_, List.getElem?_eq_getElem (by have := HR1.out.len; omega)⟩
        have hc := HR1.out.cell j u hu
        have hfr := HR1.out.free j
        have HU := Lib.hid (HD1.out u (List.mem_of_getElem? hu))
        have hm1 : ((m : Int) == 0) = false := by simpa using hm
        by_cases hov : u.toNat + m < 18446744073709551616
        · have hst := Nt.carry_stop o1 j m V u hu HD1.out hov HV1.out
          have HST := Lib.hid hst
          have hw : IntKind.u64.wrap (u + (m : Int)) = u + m := by have := HU.out; rw [IntKind.wrap_u64]; omega
          have HR2 := Lib.hid (HR1.out.set j (u + m))
          have HB2 := Lib.hid (HB1.out.setCell (p := ⟨g, j, none⟩) HBL.out (Value.int IntKind.u64 (u + m)))
          have hc2 := HR2.out.cell j (u + m) (by rw [List.getElem?_set_self (by have := HR1.out.len; omega)])
          have hge : decide ((m : Int) ≤ u + (m : Int)) = true := decide_eq_true (by have := HU.out; omega)
          have hge2 : (m : Int) ≤ u + (m : Int) := by have := HU.out; omega
          clear hov hst hu
          go_wp2
          go_end0
          exact ⟨⟨_, rfl⟩, _, HR2.out, HST.out.1, HST.out.2, HB2.out⟩
        · have hst := Nt.carry_go o1 j m V u hu HD1.out HM.out (by omega) HV1.out
          have HST := Lib.hid hst
          have hw : IntKind.u64.wrap (u + (m : Int)) = u + m - 18446744073709551616 := by have := HU.out; have := HM.out; rw [IntKind.wrap_u64]; omega
          obtain ⟨s, hs⟩ : ∃ s : Int, s = u + m - 18446744073709551616 := ⟨_, rfl⟩
          rw [← hs] at hw hst
          have HST := Lib.hid hst
          have HR2 := Lib.hid (HR1.out.set j s)
          have HB2 := Lib.hid (HB1.out.setCell (p := ⟨g, j, none⟩) HBL.out (Value.int IntKind.u64 s))
          have hc2 := HR2.out.cell j s (by rw [List.getElem?_set_self (by have := HR1.out.len; omega)])
          have hge2 : ¬ ((m : Int) ≤ s) := by have := HU.out; omega
          clear hov hst hu hs
          go_wp2_with fail
          refine ⟨⟨j + 1, 1, _, by omega, by omega, by go_num, rfl, by go_num, Lib.hid (by decide), HR2.out, Lib.hid HST.out.1, Lib.hid HST.out.2, HB2.out⟩, by simp [intOf]; omega⟩
    · obtain rfl : j = n := by omega
      have HF : Hid (Nt.val 18446744073709551616 o1 = V) := Lib.hid (by
        have h1 := HV1.out
        have h2 := HVV.out
        rcases Nat.eq_zero_or_pos m with rfl | h3
        · simpa using h1
        · have := Nat.mul_le_mul_left (18446744073709551616 ^ j) h3
          omega)
      go_wp2
      go_end0
      exact ⟨⟨_, rfl⟩, o1, HR1.out, HD1.out, HF.out, HB1.out⟩
end Go.Proofs.Ytclnmheplecknaa

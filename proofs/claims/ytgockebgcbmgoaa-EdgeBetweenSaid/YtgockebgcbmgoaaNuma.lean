/-
  Walks: Num by value: Float, Zero, Sign, Top, Minus.
  Walks: Num by value: Zero, Sign, Top, Minus.
  Walks: Num by value: Times.
-/
import Derived.Test.YtgockebgcbmgoaaNmul
import Derived.Test.YtgockebgcbmgoaaMult
import Derived.Deep.RegionHeld3
set_option linter.unusedVariables false
set_option linter.unusedSimpArgs false
namespace Go.Proofs.Ytgockebgcbmgoaa
open Go.RowKit

/-- A number by value: sign, size, exponent; its digits are canonical. -/
def NumV (w : World) (v : Value) (s : Bool) (N : Nat) (e : Int) : Prop := ∃ A c, v = .agg #[.bool s, .slice A (Nt.dg 18446744073709551616 N).length c, .int .i64 e] ∧ U w A (Nt.dg 18446744073709551616 N).length c (Nt.dg 18446744073709551616 N)
theorem NumV.below {w w' : World} {v : Value} {s : Bool} {N : Nat} {e : Int} (h : NumV w v s N e) (hb : Below w.heap.size w w') : NumV w' v s N e := by
  obtain ⟨A, c, hv, hu⟩ := h
  exact ⟨A, c, hv, hu.below hb⟩
theorem size_setCell (w : World) (p : Addr) (v : Value) : (w.setCell p v).heap.size = w.heap.size := by simp [World.setCell]
/-- A store into a cell that holds no digit turns no digits. -/
theorem U.store {w : World} {A : Option Addr} {n c : Nat} {l : List Int} (h : U w A n c l) (p : Addr) (u v : Value) (hp : w.cell? p = some u) (hn : ∀ x, u ≠ .int .u64 x) : U (w.setCell p v) A n c l := by
  obtain ⟨h1, h2, h3, h4⟩ := h
  refine ⟨h1, h2, h3, fun k x hk => ?_⟩
  obtain ⟨ad, e, hlt, hc⟩ := h4 k x hk
  refine ⟨ad, e, by rw [size_setCell]; exact hlt, ?_⟩
  rw [World.cell?_setCell_other]
  · exact hc
  · intro he; rw [he, hc] at hp; exact hn x (Option.some.inj hp).symm
namespace Fl
theorem float_fields (x : Nat) (hx : x < 2 * W) : x / 4503599627370496 % 2048 = rg x / B ∧ x % 4503599627370496 = rg x % B ∧ x / 9223372036854775808 = (if sg x then 1 else 0) := by
  unfold sg rg B W at *
  refine ⟨by omega, by omega, ?_⟩
  have : x / 9223372036854775808 = 0 ∨ x / 9223372036854775808 = 1 := by omega
  rcases this with h | h <;> rw [h] <;> rfl
theorem float_zero (r : Nat) (h : r / B = 0) : mant r = r % B ∧ ex r = 0 := by
  unfold mant ex B at *; omega
theorem float_pos (r : Nat) (h : r / B ≠ 0) : mant r = r % B + 4503599627370496 ∧ ex r = r / B - 1 := by
  unfold mant ex B at *
  refine ⟨?_, rfl⟩
  have := Nat.div_add_mod r 4503599627370496
  have e : r / 4503599627370496 = (r / 4503599627370496 - 1) + 1 := by omega
  rw [e, Nat.mul_add] at this
  rw [Nat.mul_comm]
  omega
theorem and_2047 (x : Nat) (h : x < 18446744073709551616) : bits BinOp.and IntKind.u64 ((x : Int) / 4503599627370496) 2047 = ((x / 4503599627370496 % 2048 : Nat) : Int) := by
  have e := u64_and_nat (x / 4503599627370496) 2047 (by omega) (by decide)
  rw [show ((x : Int) / 4503599627370496) = ((x / 4503599627370496 : Nat) : Int) by omega]
  refine e.trans ?_
  rw [show 2047 = 2 ^ 11 - 1 from rfl, Nat.and_two_pow_sub_one_eq_mod]
end Fl
theorem bcell {W w1 : World} (hb : Below W.heap.size W w1) : (∀ b o, b < W.heap.size → w1.cell? ⟨b, o, none⟩ = W.cell? ⟨b, o, none⟩) ∧ (∀ b o, b < W.heap.size → w1.frozen? ⟨b, o, none⟩ = W.frozen? ⟨b, o, none⟩) :=
  ⟨fun b o h => hb.cell (p := ⟨b, o, none⟩) h, fun b o h => hb.frozen (p := ⟨b, o, none⟩) h⟩
/-- A number is laid into the cells of a result. -/
theorem num_store {w1 : World} {g : Nat} {b0 : Bool} {A0 : Option Addr} {n0 c0 : Nat} {e0 : Int} (h0 : w1.cell? ⟨g, 0, none⟩ = some (.bool b0)) (h1 : w1.cell? ⟨g, 1, none⟩ = some (.slice A0 n0 c0)) (h2 : w1.cell? ⟨g, 2, none⟩ = some (.int .i64 e0))
    {A : Option Addr} {n c : Nat} {l : List Int} (hu : U w1 A n c l) (v1 v2 v3 : Value) :
    U (((w1.setCell ⟨g, 0, none⟩ v1).setCell ⟨g, 1, none⟩ v2).setCell ⟨g, 2, none⟩ v3) A n c l ∧ (∀ B (wb : World), B ≤ g → Below B wb w1 → Below B wb (((w1.setCell ⟨g, 0, none⟩ v1).setCell ⟨g, 1, none⟩ v2).setCell ⟨g, 2, none⟩ v3)) ∧
    (((w1.setCell ⟨g, 0, none⟩ v1).setCell ⟨g, 1, none⟩ v2).setCell ⟨g, 2, none⟩ v3).cell? ⟨g, 0, none⟩ = some v1 ∧ (((w1.setCell ⟨g, 0, none⟩ v1).setCell ⟨g, 1, none⟩ v2).setCell ⟨g, 2, none⟩ v3).cell? ⟨g, 1, none⟩ = some v2 ∧ (((w1.setCell ⟨g, 0, none⟩ v1).setCell ⟨g, 1, none⟩ v2).setCell ⟨g, 2, none⟩ v3).cell? ⟨g, 2, none⟩ = some v3 := by
  have n01 : (⟨g, 0, none⟩ : Addr) ≠ ⟨g, 1, none⟩ := by simp
  have n02 : (⟨g, 0, none⟩ : Addr) ≠ ⟨g, 2, none⟩ := by simp
  have n12 : (⟨g, 1, none⟩ : Addr) ≠ ⟨g, 2, none⟩ := by simp
  have k1 : (w1.setCell ⟨g, 0, none⟩ v1).cell? ⟨g, 1, none⟩ = some (.slice A0 n0 c0) := (World.cell?_setCell_other _ _ _ _ n01).trans h1
  have k2 : (w1.setCell ⟨g, 0, none⟩ v1).cell? ⟨g, 2, none⟩ = some (.int .i64 e0) := (World.cell?_setCell_other _ _ _ _ n02).trans h2
  have k3 : ((w1.setCell ⟨g, 0, none⟩ v1).setCell ⟨g, 1, none⟩ v2).cell? ⟨g, 2, none⟩ = some (.int .i64 e0) := (World.cell?_setCell_other _ _ _ _ n12).trans k2
  refine ⟨?_, fun B wb hB hb => ((hb.setCell (p := ⟨g, 0, none⟩) hB _).setCell (p := ⟨g, 1, none⟩) hB _).setCell (p := ⟨g, 2, none⟩) hB _, ?_, ?_, ?_⟩
  · exact ((hu.store _ _ v1 h0 (fun x hx => by cases hx)).store _ _ v2 k1 (fun x hx => by cases hx)).store _ _ v3 k3 (fun x hx => by cases hx)
  · rw [World.cell?_setCell_other _ _ _ _ n02.symm, World.cell?_setCell_other _ _ _ _ n01.symm]; exact World.cell?_setCell_same _ _ _ h0
  · rw [World.cell?_setCell_other _ _ _ _ n12.symm]; exact World.cell?_setCell_same _ _ _ k1
  · exact World.cell?_setCell_same _ _ _ k3
theorem new_cells (w w1 : World) (a b c : Value) (t : TypeId) (hb : Below (w.alloc (.cells #[a, b, c] t)).heap.size (w.alloc (.cells #[a, b, c] t)) w1) : w1.cell? ⟨w.heap.size, 0, none⟩ = some a ∧ w1.cell? ⟨w.heap.size, 1, none⟩ = some b ∧ w1.cell? ⟨w.heap.size, 2, none⟩ = some c ∧ Below w.heap.size w w1 := by
  have hlt := alloc_lt w (.cells #[a, b, c] t)
  have e : ∀ i, w1.cell? ⟨w.heap.size, i, none⟩ = (#[a, b, c] : Array Value)[i]? := fun i => by
    rw [hb.cell (p := ⟨w.heap.size, i, none⟩) hlt]
    have h : (w.alloc (.cells #[a, b, c] t)).heap[w.heap.size]? = some (.cells #[a, b, c] t (0, 0)) := heap_alloc_new w _
    exact cell_of_row _ _ _ _ _ _ h
  exact ⟨e 0, e 1, e 2, ((Below.refl w.heap.size w).alloc (Nat.le_refl _) _).trans (hb.mono (Nat.le_of_lt hlt))⟩
theorem natOf_int (x : Int) (w : World) (h0 : 0 ≤ x) (hx : x < 18446744073709551616) : Calls Try.prog 74 #[.int .u64 x] w (NatPost x.toNat w) := by
  have h := natOf_any x.toNat w (by omega)
  rwa [Int.toNat_of_nonneg h0] at h
set_option maxRecDepth 400000 in
set_option maxHeartbeats 4000000 in
theorem float_any (x : Nat) (w : World) (hx : x < 2 * Fl.W) :
    Calls Try.prog 59 #[.float .f64 x] w fun e w' => ∃ v, e = .returned v ∧ NumV w' v (Fl.sg x) (Fl.mant (Fl.rg x)) (Fl.pl x) ∧ Below w.heap.size w w' := by
  have h1 := run_bits x
  obtain ⟨f1, f2, f3⟩ := Fl.float_fields x hx
  have hx2 : x < 18446744073709551616 := by unfold Fl.W at hx; omega
  have h2 := Fl.and_2047 x hx2
  rw [f1] at h2
  have hE : Fl.rg x / Fl.B < 2048 := by have := Fl.rg_lt x; unfold Fl.W at this; unfold Fl.B; omega
  have h3 : ((x : Int) / 9223372036854775808 == 1) = Fl.sg x := by
    cases hs : Fl.sg x <;> rw [hs] at f3 <;> simp at f3 <;> simp <;> omega
  have h4 : (x : Int) % 4503599627370496 = ((Fl.rg x % Fl.B : Nat) : Int) := by omega
  have hfB : Fl.rg x % Fl.B < 4503599627370496 := Nat.mod_lt _ (by decide)
  by_cases h0 : Fl.rg x / Fl.B = 0
  · obtain ⟨g1, g2⟩ := Fl.float_zero _ h0
    have G1 := Lib.hid g1
    have G2 := Lib.hid g2
    rw [h0] at h2
    generalize Fl.rg x % Fl.B = f at *
    clear f1 f2 f3 g1 g2 h0 hE
    go_enter Try.func59, Try.ntmps59
    go_wp2_with fail
    refine (natOf_int _ _ (by omega) (by omega)).mono ?_
    rintro e w1 ⟨A1, c1, rfl, hu, hb⟩
    obtain ⟨hc, hf⟩ := bcell hb
    obtain ⟨k0, k1, k2, hbw⟩ := new_cells w w1 _ _ _ _ hb
    first | rw [show ((x : Int) % 4503599627370496).toNat = f by omega] at hu ⊢ | rw [show ((f : Int)).toNat = f by omega] at hu ⊢
    obtain ⟨r1, r2, r3, r4, r5⟩ := num_store k0 k1 k2 hu (Value.bool (Fl.sg x)) (.slice A1 (Nt.dg 18446744073709551616 f).length c1) (.int .i64 (-1074))
    have R1 := Lib.hid r1
    have R2 := Lib.hid (r2 _ _ (Nat.le_refl _) hbw)
    have R3 := Lib.hid (And.intro r3 (And.intro r4 r5))
    clear hu hb r1 r2 r3 r4 r5 k0 k1 k2 hbw
    go_wp2
    refine bodyPost_ret (v := .agg #[.bool (Fl.sg x), .slice A1 (Nt.dg 18446744073709551616 f).length c1, .int .i64 (-1074)]) (by simp [results, Try.results59, go_sem, R3.out.1, R3.out.2.1, R3.out.2.2]) rfl ⟨_, rfl, ⟨A1, c1, by rw [G1.out]; unfold Fl.pl; rw [G2.out]; rfl, by rw [G1.out]; exact R1.out⟩, R2.out⟩
  · obtain ⟨g1, g2⟩ := Fl.float_pos _ h0
    have G1 := Lib.hid g1
    have G2 := Lib.hid g2
    generalize Fl.rg x % Fl.B = f at *
    generalize Fl.rg x / Fl.B = E at *
    have he : ((E : Int) == 0) = false := by simp; omega
    clear f1 f2 f3 g1 g2
    go_enter Try.func59, Try.ntmps59
    go_wp2_with fail
    refine (natOf_int _ _ (by omega) (by omega)).mono ?_
    rintro e w1 ⟨A1, c1, rfl, hu, hb⟩
    obtain ⟨hc, hf⟩ := bcell hb
    obtain ⟨k0, k1, k2, hbw⟩ := new_cells w w1 _ _ _ _ hb
    rw [show ((f : Int) + 4503599627370496).toNat = f + 4503599627370496 by omega] at hu ⊢
    obtain ⟨r1, r2, r3, r4, r5⟩ := num_store k0 k1 k2 hu (Value.bool (Fl.sg x)) (.slice A1 (Nt.dg 18446744073709551616 (f + 4503599627370496)).length c1) (.int .i64 ((E : Int) - 1075))
    have R1 := Lib.hid r1
    have R2 := Lib.hid (r2 _ _ (Nat.le_refl _) hbw)
    have R3 := Lib.hid (And.intro r3 (And.intro r4 r5))
    clear hu hb r1 r2 r3 r4 r5 k0 k1 k2 hbw
    go_wp2
    refine bodyPost_ret (v := .agg #[.bool (Fl.sg x), .slice A1 (Nt.dg 18446744073709551616 (f + 4503599627370496)).length c1, .int .i64 ((E : Int) - 1075)]) (by simp [results, Try.results59, go_sem, R3.out.1, R3.out.2.1, R3.out.2.2]) rfl ⟨_, rfl, ⟨A1, c1, by rw [G1.out]; unfold Fl.pl; rw [G2.out, show (-1074 + ((E - 1 : Nat) : Int)) = (E : Int) - 1075 by omega], by rw [G1.out]; exact R1.out⟩, R2.out⟩
end Go.Proofs.Ytgockebgcbmgoaa

namespace Go.Proofs.Ytgockebgcbmgoaa
open Go.RowKit

set_option maxRecDepth 400000 in
set_option maxHeartbeats 4000000 in
theorem zero_any (v : Value) (s : Bool) (N : Nat) (e : Int) (w : World) (hv : NumV w v s N e) (hl : (Nt.dg 18446744073709551616 N).length ≤ 100000000) :
    Calls Try.prog 69 #[v] w fun r w' => r = .returned (.bool (decide (N = 0))) ∧ Below w.heap.size w w' := by
  obtain ⟨A, c, rfl, hu⟩ := hv
  have hb0 := natBits_any A _ c _ (w.alloc (.cells #[.bool s, .slice A (Nt.dg 18446744073709551616 N).length c, .int .i64 e] 61)) (hu.below ((Below.refl w.heap.size w).alloc (Nat.le_refl _) _)) (by omega) (Nt.dig_dg 18446744073709551616 (by decide) N)
  rw [Nt.val_dg _ (by decide)] at hb0
  have HB0 := Lib.hid hb0
  have HE : Hid ((((bitsN N : Nat) : Int) == 0) = decide (N = 0)) := Lib.hid (by
    unfold bitsN
    by_cases h : N = 0
    · simp [h]
    · rw [if_neg h]; simp [h]; omega)
  clear hb0 hu
  generalize (Nt.dg 18446744073709551616 N).length = n at *
  go_enter Try.func69, Try.ntmps69
  go_wp2_with fail
  refine HB0.out.mono ?_
  rintro r w1 ⟨rfl, hb⟩
  have hb2 := Lib.hid (((Below.refl w.heap.size w).alloc (Nat.le_refl _) _).trans (hb.mono (Nat.le_of_lt (alloc_lt w _))))
  clear hb
  go_wp2
  go_ret
  exact ⟨ret_bool HE.out, hb2.out⟩
theorem bitsN_len (N : Nat) : bitsN N ≤ 64 * (Nt.dg 18446744073709551616 N).length := by
  unfold bitsN
  split
  · omega
  · rename_i h
    have h1 := Nt.val_lt 18446744073709551616 (by decide) _ (Nt.dig_dg 18446744073709551616 (by decide) N)
    rw [Nt.val_dg _ (by decide)] at h1
    generalize (Nt.dg 18446744073709551616 N).length = m at *
    rw [show (18446744073709551616 : Nat) = 2 ^ 64 from rfl, ← Nat.pow_mul] at h1
    have := (Nat.log2_lt h).2 h1
    omega
set_option maxRecDepth 400000 in
set_option maxHeartbeats 4000000 in
theorem top_any (v : Value) (s : Bool) (N : Nat) (e : Int) (w : World) (hv : NumV w v s N e) (hl : (Nt.dg 18446744073709551616 N).length ≤ 100000000) (he1 : -1000000000 ≤ e) (he2 : e ≤ 1000000000) :
    Calls Try.prog 77 #[v] w fun r w' => r = .returned (.int .i64 (e + (bitsN N : Nat))) ∧ Below w.heap.size w w' := by
  obtain ⟨A, c, rfl, hu⟩ := hv
  have hb0 := fun w1 (hb : Below w.heap.size w w1) => natBits_any A _ c _ w1 (hu.below hb) (by omega) (Nt.dig_dg 18446744073709551616 (by decide) N)
  rw [Nt.val_dg _ (by decide)] at hb0
  have HB0 := Lib.hid hb0
  have hlen := bitsN_len N
  clear hb0 hu
  generalize (Nt.dg 18446744073709551616 N).length = n at *
  generalize bitsN N = b at *
  have hbb : b ≤ 6400000000 := by omega
  clear hlen
  go_enter Try.func77, Try.ntmps77
  go_wp2_with fail
  obtain ⟨W, hW⟩ : ∃ W, W = w.alloc (.cells #[.bool s, .slice A n c, .int .i64 e] 61) := ⟨_, rfl⟩
  obtain ⟨g, hg⟩ : ∃ g, g = w.heap.size := ⟨_, rfl⟩
  obtain ⟨k0, k1, k2, hbw⟩ := new_cells w W _ _ _ _ (by rw [hW]; exact Below.refl _ _)
  rw [← hW, ← hg]
  rw [← hg] at k0 k1 k2
  have HBW := Lib.hid hbw
  have hgW : g < W.heap.size := by rw [hW, hg]; exact alloc_lt w _
  have HC : ∀ w1, (w1.cell? ⟨g, 1, none⟩ = some (.slice A n c) ∧ w1.cell? ⟨g, 2, none⟩ = some (.int .i64 e) ∧ Below W.heap.size W w1) → Calls Try.prog 83 #[.slice A n c] w1 fun r w' => r = .returned (.int .i64 b) ∧ (w'.cell? ⟨g, 1, none⟩ = some (.slice A n c) ∧ w'.cell? ⟨g, 2, none⟩ = some (.int .i64 e) ∧ Below W.heap.size W w') := fun w1 ⟨a1, a2, a3⟩ =>
    (HB0.out w1 (HBW.out.trans (a3.mono HBW.out.size))).mono fun r w' ⟨h1, h2⟩ => ⟨h1, (h2.cell (p := ⟨g, 1, none⟩) (Nat.lt_of_lt_of_le hgW a3.size)).trans a1, (h2.cell (p := ⟨g, 2, none⟩) (Nat.lt_of_lt_of_le hgW a3.size)).trans a2, a3.trans (h2.mono a3.size)⟩
  have HCH := Lib.hid HC
  have hwr : IntKind.i64.wrap (e + (b : Int)) = e + (b : Int) := by rw [IntKind.wrap_i64]; omega
  clear hbw hW hg HC hgW
  go_region_held3 (fun w' => w'.cell? ⟨g, 1, none⟩ = some (.slice A n c) ∧ w'.cell? ⟨g, 2, none⟩ = some (.int .i64 e) ∧ Below W.heap.size W w') ((first | assumption | exact ⟨k1, k2, (Below.refl _ _).drew⟩)) (first | (go_at_call 83; refine (HCH.out _ ?_).mono ?_; (assumption); rintro r w' ⟨rfl, hS⟩))
  obtain ⟨hs1, hs2, hs3⟩ := hS
  have HS := Lib.hid (HBW.out.trans (hs3.mono HBW.out.size))
  clear hs1 hs2 hs3 k0 k1 k2 HCH
  go_wp2
  go_ret
  exact ⟨rfl, HS.out⟩
def signI (s : Bool) (N : Nat) : Int := if N = 0 then 0 else if s then -1 else 1
set_option maxRecDepth 400000 in
set_option maxHeartbeats 4000000 in
theorem sign_any (v : Value) (s : Bool) (N : Nat) (e : Int) (w : World) (hv : NumV w v s N e) (hl : (Nt.dg 18446744073709551616 N).length ≤ 100000000) :
    Calls Try.prog 76 #[v] w fun r w' => r = .returned (.int .i64 (signI s N)) ∧ Below w.heap.size w w' := by
  have hz := fun w1 (hb : Below w.heap.size w w1) => zero_any v s N e w1 (hv.below hb) hl
  obtain ⟨A, c, rfl, hu⟩ := hv
  have HZ := Lib.hid hz
  clear hz hu
  generalize (Nt.dg 18446744073709551616 N).length = n at *
  have HB1 := Lib.hid ((Below.refl w.heap.size w).alloc (Nat.le_refl _) (.cells #[.bool s, .slice A n c, .int .i64 e] 61))
  unfold signI
  by_cases h : N = 0
  · have hd : decide (N = 0) = true := decide_eq_true h
    rw [if_pos h]
    clear h
    go_enter Try.func76, Try.ntmps76
    go_wp2_with fail
    refine (HZ.out _ HB1.out).mono ?_
    rintro r w1 ⟨rfl, hb⟩
    have HB := Lib.hid (HB1.out.trans (hb.mono HB1.out.size))
    rw [hd]
    clear hb hd
    go_wp2
    go_ret
    exact ⟨rfl, HB.out⟩
  · have hd : decide (N = 0) = false := decide_eq_false h
    rw [if_neg h]
    clear h
    cases s
    all_goals
      go_enter Try.func76, Try.ntmps76
      go_wp2_with fail
      refine (HZ.out _ HB1.out).mono ?_
      rintro r w1 ⟨rfl, hb⟩
      obtain ⟨k0, k1, k2, hbw⟩ := new_cells w w1 _ _ _ _ hb
      have HB := Lib.hid (HB1.out.trans (hb.mono HB1.out.size))
      rw [hd]
      clear hb hd hbw
      go_wp2
      go_ret
      exact ⟨rfl, HB.out⟩
set_option maxRecDepth 400000 in
set_option maxHeartbeats 4000000 in
theorem minus_any (v : Value) (s : Bool) (N : Nat) (e : Int) (w : World) (hv : NumV w v s N e) :
    Calls Try.prog 78 #[v] w fun r w' => ∃ v', r = .returned v' ∧ NumV w' v' (!s) N e ∧ Below w.heap.size w w' := by
  obtain ⟨A, c, rfl, hu⟩ := hv
  unfold NumV
  have HU := Lib.hid hu
  clear hu
  generalize (Nt.dg 18446744073709551616 N) = l at *
  generalize l.length = n at *
  go_enter Try.func78, Try.ntmps78
  go_wp2
  have HB := Lib.hid (((Below.refl w.heap.size w).alloc (Nat.le_refl _) (.cells #[.bool s, .slice A n c, .int .i64 e] 61)).alloc (Nat.le_of_lt (alloc_lt w _)) (.cells #[.bool !s, .slice A n c, .int .i64 e] 61))
  refine bodyPost_ret (v := .agg #[.bool !s, .slice A n c, .int .i64 e]) (by simp [results, Try.results78, go_sem]) rfl ⟨_, rfl, ⟨A, c, rfl, HU.out.below HB.out⟩, HB.out⟩
end Go.Proofs.Ytgockebgcbmgoaa

namespace Go.Proofs.Ytgockebgcbmgoaa
open Go.RowKit

/-- The three cells of a number. -/
def Cells3 (w : World) (g : Nat) (s : Bool) (A : Option Addr) (n c : Nat) (e : Int) : Prop := w.cell? ⟨g, 0, none⟩ = some (.bool s) ∧ w.cell? ⟨g, 1, none⟩ = some (.slice A n c) ∧ w.cell? ⟨g, 2, none⟩ = some (.int .i64 e)
/-- A number's cells, whatever they hold. -/
def Shape (w : World) (g : Nat) : Prop := g < w.heap.size ∧ (∀ j, w.frozen? ⟨g, j, none⟩ = false) ∧ ∃ s A n c e, Cells3 w g s A n c e
theorem Cells3.below {w w' : World} {g : Nat} {s : Bool} {A : Option Addr} {n c : Nat} {e : Int} (h : Cells3 w g s A n c e) (hg : g < w.heap.size) (hb : Below w.heap.size w w') : Cells3 w' g s A n c e :=
  ⟨(hb.cell (p := ⟨g, 0, none⟩) hg).trans h.1, (hb.cell (p := ⟨g, 1, none⟩) hg).trans h.2.1, (hb.cell (p := ⟨g, 2, none⟩) hg).trans h.2.2⟩
theorem Shape.below {w w' : World} {g : Nat} (h : Shape w g) (hb : Below w.heap.size w w') : Shape w' g := by
  obtain ⟨hg, hf, s, A, n, c, e, h⟩ := h
  exact ⟨Nat.lt_of_lt_of_le hg hb.size, fun j => (hb.frozen (p := ⟨g, j, none⟩) hg).trans (hf j), s, A, n, c, e, h.below hg hb⟩
theorem setCell_block (w : World) (g h i j : Nat) (v : Value) (hne : g ≠ h) : (w.setCell ⟨g, i, none⟩ v).cell? ⟨h, j, none⟩ = w.cell? ⟨h, j, none⟩ :=
  World.cell?_setCell_other _ _ _ _ (fun e => hne (by injection e))
theorem Cells3.store {w : World} {g h : Nat} {s : Bool} {A : Option Addr} {n c : Nat} {e : Int} (hc : Cells3 w h s A n c e) (hne : g ≠ h) (v1 v2 v3 : Value) : Cells3 (((w.setCell ⟨g, 0, none⟩ v1).setCell ⟨g, 1, none⟩ v2).setCell ⟨g, 2, none⟩ v3) h s A n c e := by
  unfold Cells3 at *
  rw [setCell_block _ _ _ _ _ _ hne, setCell_block _ _ _ _ _ _ hne, setCell_block _ _ _ _ _ _ hne, setCell_block _ _ _ _ _ _ hne, setCell_block _ _ _ _ _ _ hne, setCell_block _ _ _ _ _ _ hne, setCell_block _ _ _ _ _ _ hne, setCell_block _ _ _ _ _ _ hne, setCell_block _ _ _ _ _ _ hne]
  exact hc
/-- What holds of all worlds in a call with two numbers boxed and a result's cells: the first world is w0, the boxes g0 and g1, the result g2. -/
def Two (w0 : World) (g0 : Nat) (s0 : Bool) (A0 : Option Addr) (n0 c0 : Nat) (e0 : Int) (g1 : Nat) (s1 : Bool) (A1 : Option Addr) (n1 c1 : Nat) (e1 : Int) (g2 : Nat) (w : World) : Prop :=
  (w.cell? ⟨g0, 0, none⟩ = some (.bool s0) ∧ w.cell? ⟨g0, 1, none⟩ = some (.slice A0 n0 c0) ∧ w.cell? ⟨g0, 2, none⟩ = some (.int .i64 e0)) ∧
  (w.cell? ⟨g1, 0, none⟩ = some (.bool s1) ∧ w.cell? ⟨g1, 1, none⟩ = some (.slice A1 n1 c1) ∧ w.cell? ⟨g1, 2, none⟩ = some (.int .i64 e1)) ∧ Below w0.heap.size w0 w ∧ (g0 < w.heap.size ∧ g1 < w.heap.size) ∧ Shape w g2
section
variable {w0 : World} {g0 : Nat} {s0 : Bool} {A0 : Option Addr} {n0 c0 : Nat} {e0 : Int} {g1 : Nat} {s1 : Bool} {A1 : Option Addr} {n1 c1 : Nat} {e1 : Int} {g2 : Nat} {w : World}
theorem Two.go (h : Two w0 g0 s0 A0 n0 c0 e0 g1 s1 A1 n1 c1 e1 g2 w) {w' : World} (hb : Below w.heap.size w w') : Two w0 g0 s0 A0 n0 c0 e0 g1 s1 A1 n1 c1 e1 g2 w' := by
  obtain ⟨h1, h2, h3, ⟨h4, h5⟩, h6⟩ := h
  exact ⟨Cells3.below h1 h4 hb, Cells3.below h2 h5 hb, h3.trans (hb.mono h3.size), ⟨Nat.lt_of_lt_of_le h4 hb.size, Nat.lt_of_lt_of_le h5 hb.size⟩, h6.below hb⟩
theorem Two.drew (h : Two w0 g0 s0 A0 n0 c0 e0 g1 s1 A1 n1 c1 e1 g2 w) : Two w0 g0 s0 A0 n0 c0 e0 g1 s1 A1 n1 c1 e1 g2 w.drew := h.go (Below.refl _ _).drew
theorem Two.store (h : Two w0 g0 s0 A0 n0 c0 e0 g1 s1 A1 n1 c1 e1 g2 w) (h02 : g2 ≠ g0) (h12 : g2 ≠ g1) (hw : w0.heap.size ≤ g2) (b : Bool) (A : Option Addr) (n c : Nat) (e : Int) :
    Two w0 g0 s0 A0 n0 c0 e0 g1 s1 A1 n1 c1 e1 g2 (((w.setCell ⟨g2, 0, none⟩ (.bool b)).setCell ⟨g2, 1, none⟩ (.slice A n c)).setCell ⟨g2, 2, none⟩ (.int .i64 e)) := by
  obtain ⟨h1, h2, h3, ⟨h4, h5⟩, hg, hf, s, A', n', c', e', k0, k1, k2⟩ := h
  have hz : (((w.setCell ⟨g2, 0, none⟩ (.bool b)).setCell ⟨g2, 1, none⟩ (.slice A n c)).setCell ⟨g2, 2, none⟩ (.int .i64 e)).heap.size = w.heap.size := by rw [size_setCell, size_setCell, size_setCell]
  have hu : U w none 0 0 [] := ⟨rfl, Nat.le_refl _, fun _ => rfl, fun k x hk => by simp at hk⟩
  obtain ⟨_, r2, r3, r4, r5⟩ := num_store k0 k1 k2 hu (.bool b) (.slice A n c) (.int .i64 e)
  exact ⟨Cells3.store h1 h02 _ _ _, Cells3.store h2 h12 _ _ _, r2 _ _ hw h3, ⟨by rw [hz]; exact h4, by rw [hz]; exact h5⟩, by rw [hz]; exact hg, fun j => by rw [World.frozen?_setCell, World.frozen?_setCell, World.frozen?_setCell]; exact hf j, b, A, n, c, e, r3, r4, r5⟩
/-- The number that was stored is the result. -/
theorem Two.out (h : Two w0 g0 s0 A0 n0 c0 e0 g1 s1 A1 n1 c1 e1 g2 w) (hw : w0.heap.size ≤ g2) {A : Option Addr} {n c : Nat} {l : List Int} (hu : U w A n c l) (v1 v2 v3 : Value) :
    U (((w.setCell ⟨g2, 0, none⟩ v1).setCell ⟨g2, 1, none⟩ v2).setCell ⟨g2, 2, none⟩ v3) A n c l ∧ Below w0.heap.size w0 (((w.setCell ⟨g2, 0, none⟩ v1).setCell ⟨g2, 1, none⟩ v2).setCell ⟨g2, 2, none⟩ v3) ∧
    (((w.setCell ⟨g2, 0, none⟩ v1).setCell ⟨g2, 1, none⟩ v2).setCell ⟨g2, 2, none⟩ v3).cell? ⟨g2, 0, none⟩ = some v1 ∧ (((w.setCell ⟨g2, 0, none⟩ v1).setCell ⟨g2, 1, none⟩ v2).setCell ⟨g2, 2, none⟩ v3).cell? ⟨g2, 1, none⟩ = some v2 ∧ (((w.setCell ⟨g2, 0, none⟩ v1).setCell ⟨g2, 1, none⟩ v2).setCell ⟨g2, 2, none⟩ v3).cell? ⟨g2, 2, none⟩ = some v3 := by
  obtain ⟨h1, h2, h3, ⟨h4, h5⟩, hg, _, s, A', n', c', e', k0, k1, k2⟩ := h
  obtain ⟨r1, r2, r3⟩ := num_store k0 k1 k2 hu v1 v2 v3
  exact ⟨r1, r2 _ _ hw h3, r3⟩
end
/-- Two boxes and a result are laid. -/
theorem Two.start (w : World) (s0 : Bool) (A0 : Option Addr) (n0 c0 : Nat) (e0 : Int) (s1 : Bool) (A1 : Option Addr) (n1 c1 : Nat) (e1 : Int) (t : TypeId) :
    Two w w.heap.size s0 A0 n0 c0 e0 (w.heap.size + 1) s1 A1 n1 c1 e1 (w.heap.size + 1 + 1) (((w.alloc (.cells #[.bool s0, .slice A0 n0 c0, .int .i64 e0] t)).alloc (.cells #[.bool s1, .slice A1 n1 c1, .int .i64 e1] t)).alloc (.cells #[.bool false, .slice none 0 0, .int .i64 0] t)) := by
  have z1 : (w.alloc (.cells #[.bool s0, .slice A0 n0 c0, .int .i64 e0] t)).heap.size = w.heap.size + 1 := by simp
  generalize h1 : w.alloc (.cells #[.bool s0, .slice A0 n0 c0, .int .i64 e0] t) = W1 at *
  have z2 : (W1.alloc (.cells #[.bool s1, .slice A1 n1 c1, .int .i64 e1] t)).heap.size = w.heap.size + 1 + 1 := by simp [z1]
  obtain ⟨a0, a1, a2, ha⟩ := new_cells w W1 (.bool s0) (.slice A0 n0 c0) (.int .i64 e0) t (by rw [h1]; exact Below.refl _ _)
  generalize h2 : W1.alloc (.cells #[.bool s1, .slice A1 n1 c1, .int .i64 e1] t) = W2 at *
  obtain ⟨b0, b1, b2, hb⟩ := new_cells W1 W2 (.bool s1) (.slice A1 n1 c1) (.int .i64 e1) t (by rw [h2]; exact Below.refl _ _)
  have z3 : (W2.alloc (.cells #[.bool false, .slice none 0 0, .int .i64 0] t)).heap.size = w.heap.size + 1 + 1 + 1 := by simp [z2]
  generalize h3 : W2.alloc (.cells #[.bool false, .slice none 0 0, .int .i64 0] t) = W3 at *
  obtain ⟨d0, d1, d2, hd⟩ := new_cells W2 W3 (.bool false) (.slice none 0 0) (.int .i64 0) t (by rw [h3]; exact Below.refl _ _)
  rw [z1] at b0 b1 b2
  rw [z2] at d0 d1 d2
  have hfz : ∀ j, W3.frozen? ⟨w.heap.size + 1 + 1, j, none⟩ = false := fun j => by
    rw [← h3, ← z2]
    exact frozen_of_row _ _ _ _ _ (heap_alloc_new W2 _)
  have e1 : Cells3 W3 w.heap.size s0 A0 n0 c0 e0 := Cells3.below (Cells3.below ⟨a0, a1, a2⟩ (by omega) hb) (by omega) hd
  have e2 : Cells3 W3 (w.heap.size + 1) s1 A1 n1 c1 _ := Cells3.below ⟨b0, b1, b2⟩ (by omega) hd
  exact ⟨e1, e2, ha.trans ((hb.mono ha.size).trans (hd.mono (ha.trans (hb.mono ha.size)).size)), ⟨by omega, by omega⟩, by omega, hfz, _, _, _, _, _, d0, d1, d2⟩
set_option maxRecDepth 400000 in
set_option maxHeartbeats 4000000 in
theorem times_any (v : Value) (s : Bool) (N : Nat) (e : Int) (v' : Value) (s' : Bool) (M : Nat) (f : Int) (w : World) (hv : NumV w v s N e) (hv' : NumV w v' s' M f) (hl : (Nt.dg 18446744073709551616 N).length ≤ 100000000) (hl' : (Nt.dg 18446744073709551616 M).length ≤ 100000000)
    (he1 : -1000000000 ≤ e) (he2 : e ≤ 1000000000) (hf1 : -1000000000 ≤ f) (hf2 : f ≤ 1000000000) :
    Calls Try.prog 60 #[v, v'] w fun r w' => ∃ v'', r = .returned v'' ∧ NumV w' v'' (s != s') (N * M) (e + f) ∧ Below w.heap.size w w' := by
  obtain ⟨A, c, rfl, hu⟩ := hv
  obtain ⟨A', c', rfl, hu'⟩ := hv'
  have hm := fun w1 (hb : Below w.heap.size w w1) => natMul_any A _ c _ A' _ c' _ w1 (hu.below hb) hl (Nt.dig_dg 18446744073709551616 (by decide) N) (hu'.below hb) hl' (Nt.dig_dg 18446744073709551616 (by decide) M)
  rw [Nt.val_dg _ (by decide), Nt.val_dg _ (by decide)] at hm
  have HM := Lib.hid hm
  clear hm hu hu'
  generalize (Nt.dg 18446744073709551616 N).length = n at *
  generalize (Nt.dg 18446744073709551616 M).length = n' at *
  unfold NumV
  unfold NatPost at HM
  generalize (Nt.dg 18446744073709551616 (N * M)) = l at *
  generalize l.length = k at *
  have hst := Two.start w s A n c e s' A' n' c' f 61
  go_enter Try.func60, Try.ntmps60
  go_wp2_with fail
  generalize ((w.alloc (.cells #[.bool s, .slice A n c, .int .i64 e] 61)).alloc (.cells #[.bool s', .slice A' n' c', .int .i64 f] 61)).alloc (.cells #[.bool false, .slice none 0 0, .int .i64 0] 61) = W at *
  have HC : Hid (∀ x, Two w w.heap.size s A n c e (w.heap.size + 1) s' A' n' c' f (w.heap.size + 1 + 1) x → Calls Try.prog 75 #[.slice A n c, .slice A' n' c'] x fun r w' => ∃ A3 c3, r = .returned (.slice A3 k c3) ∧ U w' A3 k c3 l ∧ Two w w.heap.size s A n c e (w.heap.size + 1) s' A' n' c' f (w.heap.size + 1 + 1) w') :=
    Lib.hid (fun x hx => (HM.out x hx.2.2.1).mono fun r w' ⟨A3, c3, h1, h2, h3⟩ => ⟨A3, c3, h1, h2, hx.go h3⟩)
  have HS0 := Lib.hid hst.drew
  have KEEP : Hid (∀ x, Two w w.heap.size s A n c e (w.heap.size + 1) s' A' n' c' f (w.heap.size + 1 + 1) x → ∀ b A n c e, _) := Lib.hid (fun x hx b A n c e => Two.store hx (by omega) (by omega) (by omega) b A n c e)
  have hwr : IntKind.i64.wrap (e + f) = e + f := by rw [IntKind.wrap_i64]; omega
  obtain ⟨k0, k1, k2, k3, k4⟩ := hst
  go_region_held3 (fun x => (x.cell? ⟨w.heap.size, 0, none⟩ = some (.bool s) ∧ x.cell? ⟨w.heap.size, 1, none⟩ = some (.slice A n c) ∧ x.cell? ⟨w.heap.size, 2, none⟩ = some (.int .i64 e)) ∧ (x.cell? ⟨w.heap.size + 1, 0, none⟩ = some (.bool s') ∧ x.cell? ⟨w.heap.size + 1, 1, none⟩ = some (.slice A' n' c') ∧ x.cell? ⟨w.heap.size + 1, 2, none⟩ = some (.int .i64 f)) ∧ Below w.heap.size w x ∧ (w.heap.size < x.heap.size ∧ w.heap.size + 1 < x.heap.size) ∧ Shape x (w.heap.size + 1 + 1)) ((first | assumption | exact HS0.out | exact KEEP.out _ (by assumption) _ _ _ _ _)) (first | (go_at_call 75; refine (HC.out _ ?_).mono ?_; (assumption); rintro r w' ⟨A3, c3, rfl, hu3, hS⟩; have hS2 := hS; obtain ⟨_, _, _, _, _, hfz, _, _, _, _, _, m0, m1, m2⟩ := hS2; have z0 := hfz 0; have z1 := hfz 1; have z2 := hfz 2; clear hfz))
  have OUT := Lib.hid (Two.out (w := w') hS (by omega) hu3 (.bool (!(s == s'))) (.slice A3 k c3) (.int .i64 (e + f)))
  clear hS m0 m1 m2 z0 z1 z2 hu3 HC KEEP HS0 HM k0 k1 k2 k3 k4
  go_wp2
  refine bodyPost_ret (v := .agg #[.bool (!(s == s')), .slice A3 k c3, .int .i64 (e + f)]) (by simp [results, Try.results60, go_sem, OUT.out.2.2.1, OUT.out.2.2.2.1, OUT.out.2.2.2.2]) rfl ⟨_, rfl, ⟨A3, c3, rfl, OUT.out.1⟩, OUT.out.2.1⟩
end Go.Proofs.Ytgockebgcbmgoaa

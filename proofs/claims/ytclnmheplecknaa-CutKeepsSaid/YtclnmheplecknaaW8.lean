/-
  The walks of the reference's Whole, and of Nearest, of edge and of its reference.
  The walks of Trunc; Whole and Nearest, of edge and of its reference.
  The walks of SameFloat, LikeFloat, Finite, the reference's Next; Whole and Nearest, of edge and of its reference.
  The walks of Next (edge and its reference), SameFloat, LikeFloat, Finite.
  Walk: the closure of cut's Digits that puts a digit.
  Walk: rosetteref14's Whole: it tells as cut's Whole does.
-/
import Derived.Test.YtclnmheplecknaaW7
import Derived.Deep.RegionWith
import Derived.RangeFuncBox
set_option linter.unusedVariables false
set_option linter.unusedSimpArgs false
namespace Go.Proofs.Ytclnmheplecknaa
open Go.RowKit
theorem rmay14_any (b : Int) (w : World) : Calls Try.prog 39 #[.int .i64 b] w fun e w' => e = .returned (.bool (decide (2 ≤ b ∧ b ≤ 30))) ∧ w = w' := by
  obtain ⟨T, hT⟩ : ∃ T, T = decide (2 ≤ b ∧ b ≤ 30) := ⟨_, rfl⟩
  rw [← hT]
  have HT := Lib.hid hT
  clear hT
  by_cases h1 : 2 ≤ b
  · by_cases h2 : b ≤ 30
    · have HE : Hid (T = true) := Lib.hid (by rw [HT.out]; exact decide_eq_true ⟨h1, h2⟩)
      go_enter Try.func39, Try.ntmps39
      go_wp2
      go_ret
      exact ⟨by rw [HE.out]; rfl, rfl⟩
    · have HE : Hid (T = false) := Lib.hid (by rw [HT.out]; exact decide_eq_false (fun h => h2 h.2))
      go_enter Try.func39, Try.ntmps39
      go_wp2
      go_ret
      exact ⟨by rw [HE.out]; rfl, rfl⟩
  · have HE : Hid (T = false) := Lib.hid (by rw [HT.out]; exact decide_eq_false (fun h => h1 h.1))
    go_enter Try.func39, Try.ntmps39
    go_wp2
    go_ret
    exact ⟨by rw [HE.out]; rfl, rfl⟩
namespace Nt
theorem pos_sub (d : Int) : (pos false d : Int) - pos true d = d := by unfold pos; simp; omega
theorem sz_abs (d : Int) : sz (decide (d < 0)) d.natAbs = d := by
  unfold sz
  by_cases h : d < 0
  · rw [decide_eq_true h, if_pos rfl]; omega
  · rw [decide_eq_false h, if_neg (by simp)]; omega
theorem plusN_exp (s : Bool) (N : Nat) (e : Int) (s' : Bool) (M : Nat) (f m : Int) (he : e ≤ m) (hf : f ≤ m) : (plusN s N e s' M f).2.2 ≤ m := by
  unfold plusN plusC
  repeat' split
  all_goals assumption
/-- A sum of digits, sign and size. -/
theorem sum_size (X Y N : Nat) (s : Bool) (e : Int) (he : 0 ≤ e) (h : nv s N e 0 = (X : Int) - Y) : N * 2 ^ e.toNat = max X Y - min X Y ∧ (N ≠ 0 → s = decide (X < Y)) := by
  unfold nv sz at h
  rw [Int.add_zero] at h
  have hp : 0 < 2 ^ e.toNat := Nat.two_pow_pos _
  have hN : N ≠ 0 → 0 < N * 2 ^ e.toNat := fun h => Nat.mul_pos (Nat.pos_of_ne_zero h) hp
  generalize N * 2 ^ e.toNat = D at *
  cases s
  · rw [if_neg (by simp)] at h
    refine ⟨by omega, fun h0 => ?_⟩
    have := hN h0
    rw [decide_eq_false (by omega)]
  · rw [if_pos rfl] at h
    refine ⟨by omega, fun h0 => ?_⟩
    have := hN h0
    rw [decide_eq_true (by omega)]
theorem size_le (N e : Nat) : N ≤ N * 2 ^ e := Nat.le_mul_of_pos_right N (Nat.two_pow_pos e)
theorem bits_len (N e K : Nat) (hN : N ≠ 0) : (e + bitsN N ≤ 64 * K → (dg 18446744073709551616 (N * 2 ^ e)).length ≤ K) ∧ (64 * K < e + bitsN N → K < (dg 18446744073709551616 (N * 2 ^ e)).length) := by
  obtain ⟨h0, h1, h2⟩ := bits_range N hN
  have eB : ∀ k : Nat, (18446744073709551616 : Nat) ^ k = 2 ^ (64 * k) := fun k => by rw [show (18446744073709551616 : Nat) = 2 ^ 64 by decide, ← Nat.pow_mul]
  constructor
  · intro h
    refine dg_len _ (by decide) K _ ?_
    rw [eB]
    have h3 : N * 2 ^ e < 2 ^ bitsN N * 2 ^ e := Nat.mul_lt_mul_of_pos_right h2 (Nat.two_pow_pos e)
    rw [← Nat.pow_add] at h3
    exact Nat.lt_of_lt_of_le h3 (Nat.pow_le_pow_right (by decide) (by omega))
  · intro h
    rcases Nat.lt_or_ge K (dg 18446744073709551616 (N * 2 ^ e)).length with h4 | h4
    · exact h4
    · exfalso
      have h5 := dg_lt_len 18446744073709551616 (by decide) (N * 2 ^ e)
      rw [eB] at h5
      have h6 : 2 ^ (64 * (dg 18446744073709551616 (N * 2 ^ e)).length) ≤ 2 ^ (64 * K) := Nat.pow_le_pow_right (by decide) (by omega)
      have h7 : 2 ^ (bitsN N - 1) * 2 ^ e ≤ N * 2 ^ e := Nat.mul_le_mul_right _ h1
      rw [← Nat.pow_add] at h7
      have h8 : 2 ^ (64 * K) ≤ 2 ^ (bitsN N - 1 + e) := Nat.pow_le_pow_right (by decide) (by omega)
      omega
theorem upN_le (b : Nat) (below : Bool) (l : List Int) (hb : 1 ≤ b) (hl : L64 l) : sumP (2 ^ b) (pos below) l < 2 ^ (63 + b * l.length) := by
  have h1 := sumP_le (2 ^ b) 9223372036854775808 (by have := Nat.pow_le_pow_right (show 1 ≤ 2 by decide) hb; simpa using this) (pos below) l (fun x hx => pos_le below x (hl x hx))
  rw [← Nat.pow_mul] at h1
  rw [Nat.pow_add]
  have : (2 : Nat) ^ 63 = 9223372036854775808 := by decide
  rw [this]
  omega
end Nt
/-- What holds of the worlds of the loop: the sum lies in block g6, the result in g4. -/
def RW (w0 : World) (g6 g4 : Nat) (s : Bool) (A : Option Addr) (n c : Nat) (e : Int) (x : World) : Prop :=
  (x.cell? ⟨g6, 0, none⟩ = some (.bool s) ∧ x.cell? ⟨g6, 1, none⟩ = some (.slice A n c) ∧ x.cell? ⟨g6, 2, none⟩ = some (.int .i64 e)) ∧ Below w0.heap.size w0 x ∧ g6 < x.heap.size ∧ (∀ j, x.frozen? ⟨g6, j, none⟩ = false) ∧ Cell2 g4 x
theorem RW.go {w0 : World} {g6 g4 : Nat} {s : Bool} {A : Option Addr} {n c : Nat} {e : Int} {x y : World} (h : RW w0 g6 g4 s A n c e x) (hb : Below x.heap.size x y) : RW w0 g6 g4 s A n c e y := by
  obtain ⟨h1, h2, h3, h4, h5⟩ := h
  exact ⟨Cells3.below h1 h3 hb, h2.trans (hb.mono h2.size), Nat.lt_of_lt_of_le h3 hb.size, fun j => (hb.frozen (p := ⟨g6, j, none⟩) h3).trans (h4 j), h5.below hb⟩
theorem RW.store {w0 : World} {g6 g4 : Nat} {s : Bool} {A : Option Addr} {n c : Nat} {e : Int} {x : World} (h : RW w0 g6 g4 s A n c e x) (hne : g6 ≠ g4) (hw : w0.heap.size ≤ g6) (s' : Bool) (A' : Option Addr) (n' c' : Nat) (e' : Int) :
    RW w0 g6 g4 s' A' n' c' e' (((x.setCell ⟨g6, 0, none⟩ (.bool s')).setCell ⟨g6, 1, none⟩ (.slice A' n' c')).setCell ⟨g6, 2, none⟩ (.int .i64 e')) ∧ (∀ (A : Option Addr) (n c : Nat) (l : List Int), U x A n c l → U (((x.setCell ⟨g6, 0, none⟩ (.bool s')).setCell ⟨g6, 1, none⟩ (.slice A' n' c')).setCell ⟨g6, 2, none⟩ (.int .i64 e')) A n c l) := by
  obtain ⟨⟨k0, k1, k2⟩, h2, h3, h4, h5⟩ := h
  have hu : U x none 0 0 [] := ⟨rfl, Nat.le_refl _, fun _ => rfl, fun k x hk => by simp at hk⟩
  obtain ⟨_, r2, r3, r4, r5⟩ := num_store k0 k1 k2 hu (.bool s') (.slice A' n' c') (.int .i64 e')
  refine ⟨⟨⟨r3, r4, r5⟩, r2 _ _ hw h2, by rw [size_setCell, size_setCell, size_setCell]; exact h3, fun j => by rw [World.frozen?_setCell, World.frozen?_setCell, World.frozen?_setCell]; exact h4 j, ((h5.store hne _).store hne _).store hne _⟩, fun A n c l hul => (num_store k0 k1 k2 hul (.bool s') (.slice A' n' c') (.int .i64 e')).1⟩
theorem res_out {w0 x : World} {g : Nat} (hc : Cell2 g x) (hw : w0.heap.size ≤ g) (hb : Below w0.heap.size w0 x) (v1 v2 : Value) (o : Obj) :
    (∀ (A : Option Addr) (n c : Nat) (l : List Int), U x A n c l → U (((x.setCell ⟨g, 0, none⟩ v1).setCell ⟨g, 1, none⟩ v2).alloc o) A n c l) ∧ Below w0.heap.size w0 (((x.setCell ⟨g, 0, none⟩ v1).setCell ⟨g, 1, none⟩ v2).alloc o) ∧
    (((x.setCell ⟨g, 0, none⟩ v1).setCell ⟨g, 1, none⟩ v2).alloc o).cell? ⟨g, 0, none⟩ = some v1 ∧ (((x.setCell ⟨g, 0, none⟩ v1).setCell ⟨g, 1, none⟩ v2).alloc o).cell? ⟨g, 1, none⟩ = some v2 := by
  obtain ⟨r1, r2, r3, r4⟩ := int_store hc.1 hc.2.1 v1 v2
  have hz : ((x.setCell ⟨g, 0, none⟩ v1).setCell ⟨g, 1, none⟩ v2).heap.size = x.heap.size := by rw [size_setCell, size_setCell]
  have h2 := r2 _ _ hw hb
  generalize (x.setCell ⟨g, 0, none⟩ v1).setCell ⟨g, 1, none⟩ v2 = y at *
  have h3 := (Below.refl y.heap.size y).alloc (Nat.le_refl _) o
  have hg : g < y.heap.size := by rw [hz]; exact hc.2.2.2
  exact ⟨fun A n c l hu => (r1 A n c l hu).below h3, h2.trans (h3.mono h2.size), (h3.cell (p := ⟨g, 0, none⟩) hg).trans r3, (h3.cell (p := ⟨g, 1, none⟩) hg).trans r4⟩
set_option maxRecDepth 400000 in
set_option maxHeartbeats 4000000 in
theorem rwhole_yes (A : Option Addr) (len c b : Nat) (l : List Int) (w : World) (hu : UL w A len c l) (hl : L64 l) (hlen : len ≤ 1000000) (hb1 : 2 ≤ b) (hb2 : b ≤ 30) :
    Calls Try.prog 19 #[.slice A len c, .int .i64 b] w (WholePost b l w) := by
  have hm := fun w => rmay14_any (b : Int) w
  rw [decide_eq_true (by omega)] at hm
  have HM := Lib.hid hm
  have HU := Lib.hid hu
  have HL := Lib.hid hl
  have HLEN := Lib.hid hu.1
  clear hm hu hl
  go_enter Try.func19, Try.ntmps19
  go_wp2_with fail
  refine (HM.out _).mono ?_
  rintro e w' ⟨rfl, rfl⟩
  go_wp2_with fail
  have hrw : RW w (w.heap.size + 1) w.heap.size false none 0 0 0 ((w.alloc (.cells #[.bool false, .slice none 0 0] 24)).alloc (.cells #[.bool false, .slice none 0 0, .int .i64 0] 65)) := by
    have z1 : (w.alloc (.cells #[.bool false, .slice none 0 0] 24)).heap.size = w.heap.size + 1 := by simp
    have hc := Cell2.new w 24
    have hb1 := (Below.refl w.heap.size w).alloc (Nat.le_refl _) (.cells #[.bool false, .slice none 0 0] 24)
    generalize (w.alloc (.cells #[.bool false, .slice none 0 0] 24)) = W1 at *
    have hb2 := (Below.refl W1.heap.size W1).alloc (Nat.le_refl _) (.cells #[.bool false, .slice none 0 0, .int .i64 0] 65)
    obtain ⟨a0, a1, a2, ha⟩ := new_cells W1 (W1.alloc (.cells #[.bool false, .slice none 0 0, .int .i64 0] 65)) _ _ _ 65 (Below.refl _ _)
    rw [← z1]
    exact ⟨⟨a0, a1, a2⟩, hb1.trans (hb2.mono hb1.size), by simp, fun j => by simp, hc.below hb2⟩
  generalize ((w.alloc (.cells #[.bool false, .slice none 0 0] 24)).alloc (.cells #[.bool false, .slice none 0 0, .int .i64 0] 65)) = W at hrw ⊢
  have HRW := Lib.hid hrw
  clear hrw
  go_loopw [7] (fun t wr => ∃ (i : Nat) (s : Bool) (N : Nat) (A6 : Option Addr) (n c6 : Nat) (e : Int), t = .int .i64 i ∧ i ≤ len ∧ Hid (RW w (w.heap.size + 1) w.heap.size s A6 n c6 e wr) ∧ Hid (n = (Nt.dg 18446744073709551616 N).length ∧ U wr A6 n c6 (Nt.dg 18446744073709551616 N)) ∧ Hid (0 ≤ e ∧ e ≤ ((b * i : Nat) : Int)) ∧ Hid (Nt.nv s N e 0 = (Nt.sumP (2 ^ b) (Nt.pos false) (l.take i) : Int) - Nt.sumP (2 ^ b) (Nt.pos true) (l.take i))) (fun t _ => len - (intOf t).toNat)
  case atStart => exact ⟨0, false, 0, none, 0, 0, 0, rfl, Nat.zero_le _, HRW, Lib.hid (by rw [Nt.dg_zero]; exact ⟨rfl, rfl, Nat.le_refl _, fun _ => rfl, fun k x hk => by simp at hk⟩), Lib.hid (by omega), Lib.hid (by rw [Nt.nv_zero]; simp [Nt.sumP])⟩
  case round =>
    clear HRW
    obtain ⟨i, s, N, A6, n, c6, e, rfl, hi, HR, HN, HE, HS⟩ := hrel
    have hbi : b * i ≤ 30000000 := by have := Nat.mul_le_mul hb2 (Nat.le_trans hi hlen); omega
    have HNL : Hid ((Nt.dg 18446744073709551616 N).length ≤ 1000000) := Lib.hid (by
      obtain ⟨q1, q2⟩ := Nt.sum_size _ _ N s e HE.out.1 HS.out
      have q3 := Nt.size_le N e.toNat
      have q4 := Nt.upN_le b false (l.take i) (by omega) (fun x hx => HL.out x (List.mem_of_mem_take hx))
      have q5 := Nt.upN_le b true (l.take i) (by omega) (fun x hx => HL.out x (List.mem_of_mem_take hx))
      rw [List.length_take, Nat.min_eq_left (by have := HLEN.out; omega)] at q4 q5
      have q6 := Nt.len_of_lt N (63 + b * i) (by omega)
      omega)
    by_cases hlt : i < len
    · obtain ⟨d, hd⟩ : ∃ d, l[i]? = some d := ⟨_, List.getElem?_eq_getElem (by have := HLEN.out; omega)⟩
      obtain ⟨ad, rfl, _, hc⟩ := (HU.out.below HR.out.2.1).2.2.2 i d hd
      have hdl := HL.out d (List.mem_of_getElem? hd)
      obtain ⟨Pi, hPi⟩ : ∃ Pi, Pi = b * i := ⟨_, rfl⟩
      have hmul : IntKind.i64.wrap ((b : Int) * (i : Int)) = (Pi : Int) := by rw [← Int.natCast_mul, ← hPi, IntKind.wrap_i64]; omega
      have HC1 : Hid (∀ x, RW w (w.heap.size + 1) w.heap.size s A6 n c6 e x → Calls Try.prog 47 #[.int .i64 d] x fun r w' => ∃ v, r = .returned v ∧ NumV w' v (decide (d < 0)) d.natAbs 0 ∧ RW w (w.heap.size + 1) w.heap.size s A6 n c6 e w' ∧ Below x.heap.size x w') :=
        Lib.hid (fun x hx => (numWhole_any d x hdl.1 hdl.2).mono fun r w' ⟨v, h1, h2, h3⟩ => ⟨v, h1, h2, hx.go h3, h3⟩)
      have HC2 : Hid (∀ x v, RW w (w.heap.size + 1) w.heap.size s A6 n c6 e x → NumV x v (decide (d < 0)) d.natAbs 0 → Calls Try.prog 46 #[v, .int .i64 Pi] x fun r w' => ∃ v, r = .returned v ∧ NumV w' v (decide (d < 0)) d.natAbs (0 + Pi) ∧ RW w (w.heap.size + 1) w.heap.size s A6 n c6 e w' ∧ Below x.heap.size x w') :=
        Lib.hid (fun x v hx hv => (scaled_any v _ _ 0 Pi x hv (by omega) (by omega) (by omega) (by omega)).mono fun r w' ⟨v, h1, h2, h3⟩ => ⟨v, h1, h2, hx.go h3, h3⟩)
      have HC3 : Hid (∀ x v, RW w (w.heap.size + 1) w.heap.size s A6 n c6 e x → NumV x v (decide (d < 0)) d.natAbs (0 + Pi) → U x A6 n c6 (Nt.dg 18446744073709551616 N) → Calls Try.prog 45 #[.agg #[.bool s, .slice A6 n c6, .int .i64 e], v] x fun r w' => ∃ s3 N3 A3 n3 c3 e3, r = .returned (.agg #[.bool s3, .slice A3 n3 c3, .int .i64 e3]) ∧ Hid (n3 = (Nt.dg 18446744073709551616 N3).length ∧ U w' A3 n3 c3 (Nt.dg 18446744073709551616 N3)) ∧ Hid (0 ≤ e3 ∧ e3 ≤ ((b * (i + 1) : Nat) : Int)) ∧ Hid (Nt.nv s3 N3 e3 0 = (Nt.sumP (2 ^ b) (Nt.pos false) (l.take (i + 1)) : Int) - Nt.sumP (2 ^ b) (Nt.pos true) (l.take (i + 1))) ∧ RW w (w.heap.size + 1) w.heap.size s A6 n c6 e w') :=
        Lib.hid (fun x v hx hv hux => by
          have he := HE.out
          have hpv := Nt.plusN_val s N e (decide (d < 0)) d.natAbs (0 + Pi) 0 (by omega) (by omega)
          have hpe := Nt.plusN_exp s N e (decide (d < 0)) d.natAbs (0 + Pi) ((b * (i + 1) : Nat) : Int) (by rw [Nat.mul_add]; omega) (by rw [Nat.mul_add]; omega)
          have hsum : Nt.nv s N e 0 + Nt.nv (decide (d < 0)) d.natAbs (0 + Pi) 0 = (Nt.sumP (2 ^ b) (Nt.pos false) (l.take (i + 1)) : Int) - Nt.sumP (2 ^ b) (Nt.pos true) (l.take (i + 1)) := by
            rw [Nt.sumP_take _ _ _ _ _ hd, Nt.sumP_take _ _ _ _ _ hd, HS.out]
            have e1 : Nt.nv (decide (d < 0)) d.natAbs (0 + Pi) 0 = d * ((2 ^ b) ^ i : Nat) := by
              unfold Nt.nv
              rw [show ((0 : Int) + Pi + 0).toNat = Pi by omega, hPi, Nat.pow_mul]
              generalize (2 ^ b) ^ i = Q
              unfold Nt.sz
              by_cases hd0 : d < 0
              · rw [decide_eq_true hd0, if_pos rfl]
                have : d = -(d.natAbs : Int) := by omega
                rw [Int.natCast_mul]
                conv => rhs; rw [this]
                rw [Int.neg_mul]
              · rw [decide_eq_false hd0, if_neg (by simp)]
                have : d = (d.natAbs : Int) := by omega
                rw [Int.natCast_mul]
                conv => rhs; rw [this]
            rw [e1]
            have e2 := Nt.pos_sub d
            rw [Int.natCast_add, Int.natCast_add, Int.natCast_mul, Int.natCast_mul]
            generalize (((2 ^ b) ^ i : Nat) : Int) = Q
            have e3 : Q * (Nt.pos false d : Int) - Q * (Nt.pos true d : Int) = d * Q := by rw [← Int.mul_sub, e2, Int.mul_comm]
            omega
          refine (plus_any (.agg #[.bool s, .slice A6 n c6, .int .i64 e]) s N e v (decide (d < 0)) d.natAbs (0 + Pi) x ⟨A6, c6, by rw [HN.out.1], by have := hux; rw [HN.out.1] at this; exact this⟩ hv (by have := HNL.out; omega) (by
            have := Nt.len_of_lt d.natAbs 64 (by have : (2 : Nat) ^ 64 = 18446744073709551616 := by decide
                                                 omega)
            omega) (by omega) (by omega) (by omega) (by omega)).mono ?_
          rintro r w' ⟨v3, h1, ⟨A3, c3, h2, h3⟩, h4⟩
          exact ⟨_, _, A3, _, c3, _, by rw [h1, h2], Lib.hid ⟨rfl, h3⟩, Lib.hid ⟨by have := hpv.1; omega, hpe⟩, Lib.hid (by rw [hpv.2, hsum]), hx.go h4⟩)
      have hS0 : RW w (w.heap.size + 1) w.heap.size s A6 n c6 e wr.drew := HR.out.go (Below.refl _ _).drew
      have hU0 : U wr.drew A6 n c6 (Nt.dg 18446744073709551616 N) := HN.out.2.below (Below.refl _ _).drew
      have KEEP : Hid (∀ x, RW w (w.heap.size + 1) w.heap.size s A6 n c6 e x → x.cell? (ad.add i) = some (.int .i64 d)) := Lib.hid (fun x hx => by
        obtain ⟨ad', e1, _, h2⟩ := (HU.out.below hx.2.1).2.2.2 i d hd
        injection e1 with e1
        subst e1
        exact h2)
      clear hd hdl hPi hbi
      generalize Nt.dg 18446744073709551616 N = lN at *
      obtain ⟨⟨p1, p2, p3⟩, _⟩ := HR.out
      go_wp2_with fail
      go_region_with (first
        | (go_at_call 47; refine (HC1.out _ ?_).mono ?_; (assumption); rintro r w1 ⟨v1, rfl, hn1, hS1, hb1⟩; have hU1 := hU0.below hb1; have hk1 := KEEP.out _ hS1; have hS1' := hS1; obtain ⟨⟨q1, q2, q3⟩, _⟩ := hS1')
        | (go_at_call 46; refine (HC2.out _ _ ?_ ?_).mono ?_; (assumption); (assumption); rintro r w2 ⟨v2, rfl, hn2, hS2, hb2⟩; have hU2 := hU1.below hb2; have hS2' := hS2; obtain ⟨⟨q4, q5, q6⟩, _⟩ := hS2')
        | (go_at_call 45; refine (HC3.out _ _ ?_ ?_ ?_).mono ?_; (assumption); (assumption); (assumption); rintro r w3 ⟨s3, N3, A3, n3, c3, e3, rfl, HN3, HE3, HS3, hS3⟩; have HST := Lib.hid (hS3.store (by omega) (by omega) s3 A3 n3 c3 e3); obtain ⟨⟨q7, q8, q9⟩, _, _, q10, _⟩ := hS3; have q11 := q10 0; have q12 := q10 1; have q13 := q10 2; clear q10))
      all_goals
        go_wp2_with fail
        refine ⟨⟨i + 1, s3, N3, A3, n3, c3, e3, by go_num, hlt, Lib.hid HST.out.1, Lib.hid ⟨HN3.out.1, HST.out.2 _ _ _ _ HN3.out.2⟩, HE3, HS3⟩, by simp [intOf]; omega⟩
    · obtain rfl : i = len := by omega
      have hS := HS.out
      rw [List.take_of_length_le (by have := HLEN.out; omega)] at hS
      have HS2 : Hid (Nt.nv s N e 0 = (upN b l : Int) - dnN b l) := Lib.hid hS
      have HTI := Lib.hid (fun x (hx : RW w (w.heap.size + 1) w.heap.size s A6 n c6 e x) (hu : U x A6 n c6 (Nt.dg 18446744073709551616 N)) => tellInt_any (.agg #[.bool s, .slice A6 n c6, .int .i64 e]) s N e x ⟨A6, c6, by rw [HN.out.1], by have := hu; rw [HN.out.1] at this; exact this⟩ (by have := HNL.out; omega) HE.out.1 (by have := HE.out.2; omega))
      have HSZ := Lib.hid (Nt.sum_size _ _ N s e HE.out.1 HS2.out)
      have HBL := Lib.hid (fun hN => Nt.bits_len N e.toNat 4096 hN)
      have HE1 := Lib.hid HE.out.1
      clear hS hbi HS
      obtain ⟨⟨p1, p2, p3⟩, _⟩ := HR.out
      go_wp2_with fail
      refine (HTI.out _ HR.out HN.out.2).mono ?_
      rintro r w3 ⟨v, ok, rfl, hb, hcase⟩
      have HR3 := Lib.hid (HR.out.go hb)
      obtain ⟨k0, k1, k2, k3⟩ := HR3.out.2.2.2.2
      have k20 := k2 0
      have k21 := k2 1
      clear k2 p1 p2 p3 hb
      rcases hcase with ⟨hN, rfl, rfl⟩ | ⟨hN, hB, rfl, ⟨A3, c3, rfl, hu3⟩⟩ | ⟨hN, hB, rfl, rfl⟩
      · have HN0 := Lib.hid hN
        have OUT := Lib.hid (res_out HR3.out.2.2.2.2 (Nat.le_refl _) HR3.out.2.1 (.bool false) (.slice none 0 0) (.cells #[.bool false, .slice none 0 0] 24))
        clear hN
        go_wp2
        refine bodyPost_ret (v := .tuple #[.agg #[.bool false, .slice none 0 0], .int .i64 0]) (by simp [results, Try.results19, go_sem, OUT.out.2.2.1, OUT.out.2.2.2]) rfl ?_
        have hz := HSZ.out.1
        rw [HN0.out, Nat.zero_mul] at hz
        refine ⟨_, 0, rfl, OUT.out.2.1, .inl ⟨rfl, ?_, by rw [← hz, Nt.dg_zero]; simp⟩⟩
        rw [← hz, decide_eq_false (by omega)]
        exact IntV.zero _
      · have HN0 := Lib.hid hN
        have HBB := Lib.hid hB
        obtain ⟨k3', hk3'⟩ : ∃ k, k = (Nt.dg 18446744073709551616 (N * 2 ^ e.toNat)).length := ⟨_, rfl⟩
        have HK3 := Lib.hid hk3'
        obtain ⟨l3, hl3⟩ : ∃ l3, l3 = Nt.dg 18446744073709551616 (N * 2 ^ e.toNat) := ⟨_, rfl⟩
        have HL3 := Lib.hid hl3
        rw [← hk3', ← hl3] at hu3
        rw [← hk3']
        have OUT := Lib.hid (res_out HR3.out.2.2.2.2 (Nat.le_refl _) HR3.out.2.1 (.bool s) (.slice A3 k3' c3) (.cells #[.bool s, .slice A3 k3' c3] 24))
        have HU3 := Lib.hid hu3
        clear hN hB hk3' hl3 hu3
        go_wp2
        refine bodyPost_ret (v := .tuple #[.agg #[.bool s, .slice A3 k3' c3], .int .i64 0]) (by simp [results, Try.results19, go_sem, OUT.out.2.2.1, OUT.out.2.2.2]) rfl ?_
        have hz := HSZ.out
        have hb := HBB.out
        have he := HE1.out
        have hD : max (upN b l) (dnN b l) - min (upN b l) (dnN b l) = N * 2 ^ e.toNat := hz.1.symm
        have hs : decide (upN b l < dnN b l) = s := (hz.2 HN0.out).symm
        refine ⟨_, 0, rfl, OUT.out.2.1, .inl ⟨rfl, ?_, ?_⟩⟩
        · rw [hs, hD]
          exact ⟨A3, c3, by rw [← HK3.out], by rw [← HL3.out, ← show k3' = l3.length by rw [HL3.out, HK3.out]]; exact OUT.out.1 _ _ _ _ HU3.out⟩
        · rw [hD]
          exact (HBL.out HN0.out).1 (by omega)
      · have HN0 := Lib.hid hN
        have HBB := Lib.hid hB
        have OUT := Lib.hid (res_out HR3.out.2.2.2.2 (Nat.le_refl _) HR3.out.2.1 (.bool false) (.slice none 0 0) (.cells #[.bool false, .slice none 0 0] 24))
        clear hN hB
        go_wp2
        refine bodyPost_ret (v := .tuple #[.agg #[.bool false, .slice none 0 0], .int .i64 3]) (by simp [results, Try.results19, go_sem, OUT.out.2.2.1, OUT.out.2.2.2]) rfl ?_
        have hD : max (upN b l) (dnN b l) - min (upN b l) (dnN b l) = N * 2 ^ e.toNat := HSZ.out.1.symm
        have hb := HBB.out
        have he := HE1.out
        exact ⟨_, 3, rfl, OUT.out.2.1, .inr ⟨rfl, rfl, by rw [hD]; exact (HBL.out HN0.out).2 (by omega)⟩⟩
end Go.Proofs.Ytclnmheplecknaa

namespace Go.Proofs.Ytclnmheplecknaa
open Go.RowKit
/-- A digit brought into its limits, and what is carried. -/
def stepD (h e : Int) : Int × Int := if h ≤ e then (e - 2 * h, 1) else if e < -h then (e + 2 * h, -1) else (e, 0)
/-- What holds of the boxes of Digits: half, carry, out. -/
def Boxes (w : World) (n1 Bh Bc Bo : Nat) (h c : Int) (v : Value) (xs : List Int) : Prop :=
  Boxed w Bh 2 (.int .i64 h) ∧ Boxed w Bc 2 (.int .i64 c) ∧ Boxed w Bo 27 v ∧ w.ownsRow n1 2 1 v xs.length (xs.map (Value.int .i64)) ∧ n1 ≤ w.heap.size
/-- Whatever lay below n1 lies as it lay, but for two boxes; no block that is no cells has turned. -/
def Still (n1 Bc Bo : Nat) (w w' : World) : Prop := KeepsOthers w w' ∧ (∀ B, B ≤ Bc → B ≤ Bo → B ≤ w.heap.size → Below B w w') ∧ (∀ k, k < n1 → k ≠ Bc → k ≠ Bo → w'.heap[k]? = w.heap[k]?)
theorem Still.refl (n1 Bc Bo : Nat) (w : World) : Still n1 Bc Bo w w := ⟨KeepsOthers.refl _, fun B _ _ _ => Below.refl _ _, fun _ _ _ _ => rfl⟩
theorem Still.trans {n1 Bc Bo : Nat} {a b c : World} (h : Still n1 Bc Bo a b) (h' : Still n1 Bc Bo b c) : Still n1 Bc Bo a c :=
  ⟨h.1.trans h'.1, fun B h1 h2 h3 => (h.2.1 B h1 h2 h3).trans (h'.2.1 B h1 h2 (Nat.le_trans h3 (h.2.1 B h1 h2 h3).size)), fun k h1 h2 h3 => (h'.2.2 k h1 h2 h3).trans (h.2.2 k h1 h2 h3)⟩
theorem Still.setC {n1 Bc Bo : Nat} (w : World) (v : Value) : Still n1 Bc Bo w (w.setCell ⟨Bc, 0, none⟩ v) :=
  ⟨KeepsOthers.setCell _ _ _, fun B h1 _ _ => (Below.refl _ _).setCell (p := ⟨Bc, 0, none⟩) h1 _, fun k _ h2 _ => Below.heap_setCell _ _ _ k h2⟩
theorem row_ge {w : World} {base : Nat} {e : TypeId} {size : Nat} {v : Value} {k : Nat} {xs : List Value} (h : w.ownsRow base e size v k xs) : ∀ j, v.ownBlock = some j → base ≤ j := fun j hj => (h.lt j hj).1
theorem put_tail {w w3 : World} {n1 Bh Bc Bo : Nat} {h c d : Int} {v v' : Value} {xs : List Int} {tmp : Obj} (hb : Boxes w n1 Bh Bc Bo h c v xs) (l1 : Bh < n1) (l2 : Bc < n1) (l3 : Bo < n1) (hho : Bh ≠ Bo) (hco : Bc ≠ Bo)
    (hown : w3.ownsRow n1 2 1 v' (xs.length + 1) (xs.map (Value.int .i64) ++ [.int .i64 d])) (hg : (w.alloc tmp).grownBy w3 v.ownBlock) :
    (w3.cell? ⟨Bo, 0, none⟩ = some v ∧ w3.frozen? ⟨Bo, 0, none⟩ = false) ∧ Boxes (w3.setCell ⟨Bo, 0, none⟩ v') n1 Bh Bc Bo h c v' (xs ++ [d]) ∧ Still n1 Bc Bo w (w3.setCell ⟨Bo, 0, none⟩ v') := by
  obtain ⟨b1, b2, b3, b4, b5⟩ := hb
  have hz : n1 ≤ (w.alloc tmp).heap.size := by simp; omega
  have hne : ∀ k, k < n1 → some k ≠ v.ownBlock := fun k hk e => by have := row_ge b4 k e.symm; omega
  have same : ∀ k, k < n1 → w3.heap[k]? = w.heap[k]? := fun k hk => (hg.block k (by omega) (hne k hk)).trans (Below.heap_alloc _ _ _ (by omega))
  have c1 : Boxed w3 Bh 2 (.int .i64 h) := (same Bh l1).trans b1
  have c2 : Boxed w3 Bc 2 (.int .i64 c) := (same Bc l2).trans b2
  have c3 : Boxed w3 Bo 27 v := (same Bo l3).trans b3
  have st : ∀ k, k ≠ Bo → (w3.setCell ⟨Bo, 0, none⟩ v').heap[k]? = w3.heap[k]? := fun k hk => Below.heap_setCell _ _ _ k hk
  have hsz : w.heap.size ≤ w3.heap.size := by have := hg.size; simp at this; omega
  refine ⟨⟨c3.cell, c3.frozen⟩, ⟨(st Bh hho).trans c1, (st Bc hco).trans c2, c3.set v', ?_, ?_⟩, ?_, ?_, ?_⟩
  · have h1 := hown.kept (grownBy_setCell' w3 Bo v') (.inr (fun e => by have := row_ge hown Bo e; omega))
    rw [List.length_append, List.map_append]
    exact h1
  · have : (w3.setCell ⟨Bo, 0, none⟩ v').heap.size = w3.heap.size := size_setCell _ _ _
    omega
  · refine ((KeepsOthers.alloc w tmp).trans (KeepsOthers.of_grownBy hg fun j o ej hj => ?_)).trans (KeepsOthers.setCell _ _ _)
    rcases (b4.alloc tmp).2 with ⟨rfl, _⟩ | ⟨g, cap, cur, rfl, _, hgb, _⟩
    · simp [Value.ownBlock] at ej
    · obtain rfl : g = j := by simpa [Value.ownBlock] using ej
      rw [hgb] at hj; cases hj; rfl
  · intro B hB1 hB2 hB3
    refine (((Below.refl B w).alloc hB3 tmp).grown hg (by simp; omega) fun j ej => ?_).setCell (p := ⟨Bo, 0, none⟩) hB2 v'
    have := row_ge b4 j ej
    omega
  · intro k h1 h2 h3
    exact (st k h3).trans (same k h1)
/-- What putting a digit does. -/
def PutPost (n1 Bh Bc Bo : Nat) (h E : Int) (xs : List Int) (w : World) (e : Ending) (w' : World) : Prop :=
  (∃ v, e = .returned v) ∧ ∃ v', Boxes w' n1 Bh Bc Bo h (stepD h E).2 v' (xs ++ [(stepD h E).1]) ∧ Still n1 Bc Bo w w'
set_option maxRecDepth 100000 in
set_option maxHeartbeats 4000000 in
theorem put_any (n1 Bh Bc Bo : Nat) (h E c : Int) (v : Value) (xs : List Int) (w : World) (hb : Boxes w n1 Bh Bc Bo h c v xs) (l1 : Bh < n1) (l2 : Bc < n1) (l3 : Bo < n1) (hhc : Bh ≠ Bc) (hho : Bh ≠ Bo) (hco : Bc ≠ Bo)
    (hh1 : 2 ≤ h) (hh2 : h ≤ 1000000000) (hE1 : -10000000000 ≤ E) (hE2 : E ≤ 10000000000) (hlen : xs.length ≤ 1000000000) :
    Calls Try.prog 36 #[.int .i64 E, .pointer (some ⟨Bh, 0, none⟩), .pointer (some ⟨Bc, 0, none⟩), .pointer (some ⟨Bo, 0, none⟩)] w (PutPost n1 Bh Bc Bo h E xs w) := by
  obtain ⟨i0, hi0, hz0, hz1, hz2⟩ := info_parts i64_info
  have HSET : Hid (∀ c', Boxes (w.setCell ⟨Bc, 0, none⟩ (.int .i64 c')) n1 Bh Bc Bo h c' v xs) := Lib.hid (fun c' => by
    obtain ⟨b1, b2, b3, b4, b5⟩ := hb
    have st : ∀ k, k ≠ Bc → (w.setCell ⟨Bc, 0, none⟩ (.int .i64 c')).heap[k]? = w.heap[k]? := fun k hk => Below.heap_setCell _ _ _ k hk
    refine ⟨(st Bh hhc).trans b1, b2.set _, (st Bo hco.symm).trans b3, b4.kept (grownBy_setCell' w Bc _) (.inr (fun e => by have := row_ge b4 Bc e; omega)), ?_⟩
    have : (w.setCell ⟨Bc, 0, none⟩ (.int .i64 c')).heap.size = w.heap.size := size_setCell _ _ _
    omega)
  have HTAIL := Lib.hid (fun (c' d : Int) (v' : Value) (w3 : World) => put_tail (d := d) (v' := v') (w3 := w3) (tmp := .cells #[.int .i64 d] 2) (HSET.out c') l1 l2 l3 hho hco)
  have hc1 := hb.1.cell
  have hc2 := hb.2.1.cell
  have hf2 := hb.2.1.frozen
  have HC3 : Hid (∀ c', (w.setCell ⟨Bc, 0, none⟩ (.int .i64 c')).cell? ⟨Bo, 0, none⟩ = some v) := Lib.hid (fun c' => (HSET.out c').2.2.1.cell)
  have HOWN : Hid (∀ c' d, ((w.setCell ⟨Bc, 0, none⟩ (.int .i64 c')).alloc (.cells #[.int .i64 d] 2)).ownsRow n1 2 1 v xs.length (xs.map (Value.int .i64))) := Lib.hid (fun c' d => (HSET.out c').2.2.2.1.alloc _)
  have HSZ : Hid (∀ c' d, n1 ≤ ((w.setCell ⟨Bc, 0, none⟩ (.int .i64 c')).alloc (.cells #[.int .i64 d] 2)).heap.size) := Lib.hid (fun c' d => by have := (HSET.out c').2.2.2.2; simp at this ⊢; omega)
  have HCELL : Hid (∀ c' d, ([Value.int .i64 d] : List Value).length = 1 * 1 ∧ (∀ j u, ([Value.int .i64 d] : List Value)[j]? = some u → ((w.setCell ⟨Bc, 0, none⟩ (.int .i64 c')).alloc (.cells #[Value.int .i64 d] 2)).cell? ((⟨w.heap.size, 0, none⟩ : Addr).add j) = some u) ∧ (∀ u ∈ ([Value.int .i64 d] : List Value), u.oneCell' = true)) := Lib.hid (fun c' d => by
    have := cell1L (w.setCell ⟨Bc, 0, none⟩ (.int .i64 c')) d 2
    rw [size_setCell] at this
    exact this)
  have H63 : Hid (xs.length + 1 ≤ maxLen) := Lib.hid (by simp only [maxLen]; omega)
  have hw1 : IntKind.i64.wrap (2 * h) = 2 * h := by rw [IntKind.wrap_i64]; omega
  obtain ⟨m, hm⟩ : ∃ m, m = xs.length := ⟨_, rfl⟩
  obtain ⟨lv, hlv⟩ : ∃ lv, lv = xs.map (Value.int .i64) := ⟨_, rfl⟩
  rw [← hm, ← hlv] at HOWN
  rw [← hm] at H63
  rw [← hm, ← hlv] at HTAIL
  rw [← hm] at hlen
  clear hb hhc hho hco hm hlv
  have fin : ∀ (d c' : Int), stepD h E = (d, c') → ∀ (v' : Value) (w3 : World), w3.ownsRow n1 2 1 v' (m + 1) (lv ++ [.int .i64 d]) → ((w.setCell ⟨Bc, 0, none⟩ (.int .i64 c')).alloc (.cells #[.int .i64 d] 2)).grownBy w3 v.ownBlock →
      (w3.cell? ⟨Bo, 0, none⟩ = some v ∧ w3.frozen? ⟨Bo, 0, none⟩ = false) ∧ Hid (∀ r, PutPost n1 Bh Bc Bo h E xs w (.returned r) (w3.setCell ⟨Bo, 0, none⟩ v')) := fun d c' hs v' w3 h1 h2 => by
    obtain ⟨q1, q2, q3⟩ := HTAIL.out c' d v' w3 h1 h2
    exact ⟨q1, Lib.hid (fun r => ⟨⟨r, rfl⟩, v', by rw [hs]; exact q2, (Still.setC w _).trans q3⟩)⟩
  have FIN := Lib.hid fin
  clear fin
  by_cases h1 : h ≤ E
  · have hs : stepD h E = (E - 2 * h, 1) := by unfold stepD; rw [if_pos h1]
    obtain ⟨d, hd⟩ : ∃ d, d = E - 2 * h := ⟨_, rfl⟩
    rw [← hd] at hs
    have hw2 : IntKind.i64.wrap (E - 2 * h) = d := by rw [IntKind.wrap_i64]; omega
    have hw3 : E - 2 * h = d := hd.symm
    have FIN2 := Lib.hid (FIN.out d 1 hs)
    have hcb := HC3.out 1
    clear hd hs
    go_enter Try.func36, Try.ntmps36
    go_wp2_with (at_builtin; refine wpList_append_own _ rfl (.tmp 22) (.tmp 24) _ rfl n1 2 i0 _ 1 8 Try.underlying27 hi0 hz0 hz1 hz2 rfl (Nat.le_refl 1) v m lv rfl (HOWN.out 1 d) ⟨w.heap.size, 0, none⟩ 1 1 [Value.int .i64 d] rfl (HCELL.out 1 d).1 (HCELL.out 1 d).2.1 (HCELL.out 1 d).2.2 H63.out (by omega) (HSZ.out 1 d) ?_; intro v' w3 hown hg _; obtain ⟨g', cap', rfl⟩ := ownsRow_succ hown; obtain ⟨⟨q1, q2⟩, q3⟩ := FIN2.out _ w3 hown hg; clear hown hg)
    go_end0
    exact q3.out _
  · by_cases h2 : E < -h
    · have hs : stepD h E = (E + 2 * h, -1) := by unfold stepD; rw [if_neg h1, if_pos h2]
      obtain ⟨d, hd⟩ : ∃ d, d = E + 2 * h := ⟨_, rfl⟩
      rw [← hd] at hs
      have hw2 : IntKind.i64.wrap (E + 2 * h) = d := by rw [IntKind.wrap_i64]; omega
      have hw3 : E + 2 * h = d := hd.symm
      have FIN2 := Lib.hid (FIN.out d (-1) hs)
      have hcb := HC3.out (-1)
      clear hd hs
      go_enter Try.func36, Try.ntmps36
      go_wp2_with (at_builtin; refine wpList_append_own _ rfl (.tmp 22) (.tmp 24) _ rfl n1 2 i0 _ 1 8 Try.underlying27 hi0 hz0 hz1 hz2 rfl (Nat.le_refl 1) v m lv rfl (HOWN.out (-1) d) ⟨w.heap.size, 0, none⟩ 1 1 [Value.int .i64 d] rfl (HCELL.out (-1) d).1 (HCELL.out (-1) d).2.1 (HCELL.out (-1) d).2.2 H63.out (by omega) (HSZ.out (-1) d) ?_; intro v' w3 hown hg _; obtain ⟨g', cap', rfl⟩ := ownsRow_succ hown; obtain ⟨⟨q1, q2⟩, q3⟩ := FIN2.out _ w3 hown hg; clear hown hg)
      go_end0
      exact q3.out _
    · have hs : stepD h E = (E, 0) := by unfold stepD; rw [if_neg h1, if_neg h2]
      obtain ⟨d, hd⟩ : ∃ d, d = E := ⟨_, rfl⟩
      rw [← hd] at hs
      subst hd
      have hd : True := trivial
      have FIN2 := Lib.hid (FIN.out d 0 hs)
      have hcb := HC3.out 0
      clear hd hs
      go_enter Try.func36, Try.ntmps36
      go_wp2_with (at_builtin; refine wpList_append_own _ rfl (.tmp 22) (.tmp 24) _ rfl n1 2 i0 _ 1 8 Try.underlying27 hi0 hz0 hz1 hz2 rfl (Nat.le_refl 1) v m lv rfl (HOWN.out 0 d) ⟨w.heap.size, 0, none⟩ 1 1 [Value.int .i64 d] rfl (HCELL.out 0 d).1 (HCELL.out 0 d).2.1 (HCELL.out 0 d).2.2 H63.out (by omega) (HSZ.out 0 d) ?_; intro v' w3 hown hg _; obtain ⟨g', cap', rfl⟩ := ownsRow_succ hown; obtain ⟨⟨q1, q2⟩, q3⟩ := FIN2.out _ w3 hown hg; clear hown hg)
      go_end0
      exact q3.out _
end Go.Proofs.Ytclnmheplecknaa

namespace Go.Proofs.Ytclnmheplecknaa
open Go.RowKit

theorem Fl.cmp_self (x : Nat) (h : Fl.rg x ≤ Fl.I) : FloatKind.f64.format.order x x = some .eq := Fl.order_eq x x h h rfl
theorem Fl.cmp_nan (x y : Nat) (h : Fl.I < Fl.rg x) : FloatKind.f64.format.order x y = none := Fl.order_nan _ _ (.inl h)
theorem Fl.key0 : Fl.key 0 = 0 := by decide
theorem Fl.cmp0_eq (x : Nat) (h : Fl.rg x = 0) : FloatKind.f64.format.order x 0 = some .eq := by
  refine Fl.order_eq x 0 (by rw [h]; exact Nat.zero_le _) (by decide) ?_
  rw [Fl.key0]; unfold Fl.key; rw [h]; simp
theorem Fl.cmp0_gt (x : Nat) (h0 : 0 < Fl.rg x) (h : Fl.rg x ≤ Fl.I) (hs : Fl.sg x = false) : FloatKind.f64.format.order x 0 = some .gt := by
  refine Fl.order_gt x 0 h (by decide) ?_
  rw [Fl.key0]; unfold Fl.key; rw [hs]; simp; omega
theorem Fl.cmp0_lt (x : Nat) (h0 : 0 < Fl.rg x) (h : Fl.rg x ≤ Fl.I) (hs : Fl.sg x = true) : FloatKind.f64.format.order x 0 = some .lt := by
  refine Fl.order_lt x 0 h (by decide) ?_
  rw [Fl.key0]; unfold Fl.key; rw [hs]; simp; omega

theorem u64_succ (x : Nat) (h : x + 1 < 2 * Fl.W) : (IntKind.u64.wrap ((x : Int) + 1)).toNat = x + 1 := by
  rw [IntKind.wrap_u64]; unfold Fl.W at h; omega
theorem u64_pred (x : Nat) (h : x < 2 * Fl.W) (h0 : 0 < x) : (IntKind.u64.wrap ((x : Int) - 1)).toNat = x - 1 := by
  rw [IntKind.wrap_u64]; unfold Fl.W at h; omega
theorem rg_succ_lt (x : Nat) (hx : x < 2 * Fl.W) (h : Fl.rg x ≤ Fl.I) : x + 1 < 2 * Fl.W := by
  have := Fl.wd_sg_rg x hx
  have : Fl.wd (Fl.sg x) (Fl.rg x) ≤ Fl.W + Fl.I := by unfold Fl.wd; split <;> omega
  have : Fl.I + 1 < Fl.W := by decide
  omega
theorem sg_pos (x : Nat) (hx : x < 2 * Fl.W) (h0 : 0 < Fl.rg x) : 0 < x := by
  rcases Nat.eq_zero_or_pos x with h | h
  · subst h; exact absurd h0 (by decide)
  · exact h

theorem next_any (x : Nat) (up : Bool) (w : World) (hx : x < 2 * Fl.W) : Calls Try.prog 156 #[.float .f64 x, .bool up] w fun e w' => e = .returned (.float .f64 (Fl.next x up)) ∧ w = w' := by
  have hb := run_bits
  have hf := run_from
  have hn : ∀ w, (Op.unary .neg (.float .f64 1)).run Try.prog w = .ok (.float .f64 (Fl.W + 1)) w := fun w => by
    rw [show Fl.W + 1 = Fl.ng 1 from rfl, ← Fl.neg_word 1 (by decide)]; rfl
  unfold Fl.next
  rcases Nat.lt_or_ge Fl.I (Fl.rg x) with h | h
  · have h1 := Fl.cmp_nan x x h
    rw [if_pos h]
    clear h hn
    go_enter Try.func156, Try.ntmps156
    go_wp2
    go_ret
    exact ⟨rfl, rfl⟩
  · have h1 := Fl.cmp_self x h
    rw [if_neg (by omega)]
    by_cases hI : Fl.rg x = Fl.I
    · have hI' : decide (Fl.rg x = Fl.I) = true := decide_eq_true hI
      have h0 : 0 < Fl.rg x := by rw [hI]; decide
      have H0 := Lib.hid h0
      have HI := Lib.hid hI
      have HH := Lib.hid h
      cases hs : Fl.sg x
      · have h2 := Fl.cmp0_gt x h0 h hs
        cases up
        · rw [if_neg (by simp), if_neg (by omega), if_neg (by simp)]
          clear h h0 hI
          go_enter Try.func156, Try.ntmps156
          go_wp2_with (first | (go_at_call 82; refine (isinf_down _ _ hx).mono ?_; rintro e w' ⟨rfl, rfl⟩))
          go_ret
          exact ⟨ret_fl (u64_pred x hx (sg_pos x hx H0.out)), rfl⟩
        · rw [if_pos ⟨hI, rfl⟩]
          clear h h0 hI
          go_enter Try.func156, Try.ntmps156
          go_wp2_with (first | (go_at_call 82; refine (isinf_up _ _).mono ?_; rintro e w' ⟨rfl, rfl⟩))
          go_ret
          exact ⟨rfl, rfl⟩
      · have h2 := Fl.cmp0_lt x h0 h hs
        cases up
        · rw [if_pos ⟨hI, rfl⟩]
          clear h h0 hI
          go_enter Try.func156, Try.ntmps156
          go_wp2_with (first | (go_at_call 82; refine (isinf_down _ _ hx).mono ?_; rintro e w' ⟨rfl, rfl⟩))
          go_ret
          exact ⟨rfl, rfl⟩
        · rw [if_neg (by simp), if_neg (by omega), if_neg (by simp)]
          clear h h0 hI
          go_enter Try.func156, Try.ntmps156
          go_wp2_with (first | (go_at_call 82; refine (isinf_up _ _).mono ?_; rintro e w' ⟨rfl, rfl⟩))
          go_ret
          exact ⟨ret_fl (u64_pred x hx (sg_pos x hx H0.out)), rfl⟩
    · have hI' : decide (Fl.rg x = Fl.I) = false := decide_eq_false hI
      rw [if_neg (by simp [hI])]
      have HH := Lib.hid h
      by_cases hz : Fl.rg x = 0
      · have h2 := Fl.cmp0_eq x hz
        rw [if_pos hz]
        cases up
        · rw [if_neg (by simp)]
          clear h hz hI
          go_enter Try.func156, Try.ntmps156
          go_wp2_with (first | (go_at_call 82; refine (isinf_down _ _ hx).mono ?_; rintro e w' ⟨rfl, rfl⟩))
          go_ret
          exact ⟨rfl, rfl⟩
        · rw [if_pos rfl]
          clear h hz hI
          go_enter Try.func156, Try.ntmps156
          go_wp2_with (first | (go_at_call 82; refine (isinf_up _ _).mono ?_; rintro e w' ⟨rfl, rfl⟩))
          go_ret
          exact ⟨rfl, rfl⟩
      · have h0 : 0 < Fl.rg x := by omega
        have H0 := Lib.hid h0
        rw [if_neg hz]
        cases hs : Fl.sg x
        · have h2 := Fl.cmp0_gt x h0 h hs
          cases up
          · rw [if_neg (by simp)]
            clear h h0 hI hz
            go_enter Try.func156, Try.ntmps156
            go_wp2_with (first | (go_at_call 82; refine (isinf_down _ _ hx).mono ?_; rintro e w' ⟨rfl, rfl⟩))
            go_ret
            exact ⟨ret_fl (u64_pred x hx (sg_pos x hx H0.out)), rfl⟩
          · rw [if_pos (by simp)]
            clear h h0 hI hz
            go_enter Try.func156, Try.ntmps156
            go_wp2_with (first | (go_at_call 82; refine (isinf_up _ _).mono ?_; rintro e w' ⟨rfl, rfl⟩))
            go_ret
            exact ⟨ret_fl (u64_succ x (rg_succ_lt x hx HH.out)), rfl⟩
        · have h2 := Fl.cmp0_lt x h0 h hs
          cases up
          · rw [if_pos (by simp)]
            clear h h0 hI hz
            go_enter Try.func156, Try.ntmps156
            go_wp2_with (first | (go_at_call 82; refine (isinf_down _ _ hx).mono ?_; rintro e w' ⟨rfl, rfl⟩))
            go_ret
            exact ⟨ret_fl (u64_succ x (rg_succ_lt x hx HH.out)), rfl⟩
          · rw [if_neg (by simp)]
            clear h h0 hI hz
            go_enter Try.func156, Try.ntmps156
            go_wp2_with (first | (go_at_call 82; refine (isinf_up _ _).mono ?_; rintro e w' ⟨rfl, rfl⟩))
            go_ret
            exact ⟨ret_fl (u64_pred x hx (sg_pos x hx H0.out)), rfl⟩
end Go.Proofs.Ytclnmheplecknaa

namespace Go.Proofs.Ytclnmheplecknaa
open Go.RowKit

/-- The same floats: one word, or both NaN. -/
def Fl.Same (a b : Nat) : Prop := a = b ∨ (Fl.I < Fl.rg a ∧ Fl.I < Fl.rg b)

/-- Alike: equal, or both NaN. -/
def Fl.Like (a b : Nat) : Prop := (Fl.rg a ≤ Fl.I ∧ Fl.rg b ≤ Fl.I ∧ Fl.key a = Fl.key b) ∨ (Fl.I < Fl.rg a ∧ Fl.I < Fl.rg b)
/-! ### the reference's Next -/
theorem most_no (x : Nat) (h : Fl.rg x < Fl.I) : (FloatKind.f64.format.order x 9218868437227405311 == some .gt) = false := by
  rw [Fl.gt_most, decide_eq_false (by omega)]; rfl
theorem Fl.next_lt (x : Nat) (up : Bool) (hx : x < 2 * Fl.W) : Fl.next x up < 2 * Fl.W := by
  unfold Fl.next
  split
  · exact hx
  · rename_i h
    have := rg_succ_lt x hx (by omega)
    split
    · exact hx
    · split
      · split <;> decide
      · split <;> omega
theorem Fl.next_ng (x : Nat) (hx : x < 2 * Fl.W) : Fl.ng (Fl.next (Fl.ng x) true) = Fl.next x false := by
  unfold Fl.next
  rw [Fl.rg_ng x hx, Fl.sg_ng x hx]
  have hI : Fl.I < Fl.W := by decide
  split
  · exact Fl.ng_ng x hx
  · rename_i h
    cases hs : Fl.sg x
    · simp only [Bool.not_false, Bool.not_true]
      by_cases h1 : Fl.rg x = Fl.I
      · have h0 : ¬ Fl.rg x = 0 := by rw [h1]; decide
        simp only [h1, Bool.true_eq_false, Bool.false_eq_true, and_false, if_false]
        rw [if_neg (by decide)]
        have e : x = Fl.rg x := by have := Fl.wd_sg_rg x hx; rw [hs] at this; exact this.symm
        have : Fl.ng x = Fl.W + x := by unfold Fl.ng; rw [hs]; simp; omega
        rw [this]
        have : Fl.W + x - 1 = Fl.wd true (x - 1) := by unfold Fl.wd; simp; rw [e, h1]; decide
        rw [this, Fl.ng_wd _ _ (by rw [e, h1]; decide)]; rfl
      · simp only [h1, false_and, if_false]
        by_cases h2 : Fl.rg x = 0
        · rw [if_pos h2, if_pos h2]; rfl
        · rw [if_neg h2, if_neg h2, if_neg (by simp), if_neg (by simp)]
          have e : x = Fl.rg x := by have := Fl.wd_sg_rg x hx; rw [hs] at this; exact this.symm
          have : Fl.ng x = Fl.W + x := by unfold Fl.ng; rw [hs]; simp; omega
          rw [this]
          have hl := Fl.rg_lt x
          have : Fl.W + x - 1 = Fl.wd true (x - 1) := by unfold Fl.wd; simp; omega
          rw [this, Fl.ng_wd _ _ (by omega)]; rfl
    · simp only [Bool.not_false, Bool.not_true]
      have e : x = Fl.W + Fl.rg x := by have := Fl.wd_sg_rg x hx; rw [hs] at this; exact this.symm
      have hn : Fl.ng x = Fl.rg x := by unfold Fl.ng; rw [hs]; simp; omega
      by_cases h1 : Fl.rg x = Fl.I
      · simp only [h1, and_self, if_true]
        exact Fl.ng_ng x hx
      · simp only [h1, false_and, if_false]
        by_cases h2 : Fl.rg x = 0
        · rw [if_pos h2, if_pos h2]; rfl
        · rw [if_neg h2, if_neg h2]
          simp only [if_true]
          rw [hn]
          have : Fl.rg x + 1 = Fl.wd false (Fl.rg x + 1) := rfl
          rw [this, Fl.ng_wd _ _ (by omega)]
          unfold Fl.wd; simp; omega
theorem run_neg (x : Nat) (hx : x < 2 * Fl.W) (w : World) : (Op.unary .neg (.float .f64 x)).run Try.prog w = .ok (.float .f64 (Fl.ng x)) w := by
  rw [← Fl.neg_word x hx]; rfl
end Go.Proofs.Ytclnmheplecknaa

namespace Go.Proofs.Ytclnmheplecknaa
open Go.RowKit

theorem decode64 (x : Nat) : FloatKind.f64.decode x = Ieee.double.read x := rfl
theorem encode64 (d : Ieee.Datum) : FloatKind.f64.encode d = Ieee.double.write d := rfl
theorem toIntegral_ex (x : Nat) (way : Ieee.Toward) (name : String) : ∃ f : Bool → Nat → Sem Value, Extern.MathFloor.toIntegral name way #[.float .f64 x] = (match FloatKind.f64.decode x with | .nan s t => f s t | d => pure (.float .f64 (FloatKind.f64.encode (d.integral way)))) := ⟨_, rfl⟩
theorem integral_num (x : Nat) (h : Fl.rg x < Fl.I) (way : Ieee.Toward) (k : Nat) (hk : (Ieee.double.read x).integral way = .number (Fl.sg x) k 0) (name : String) (w : World) :
    (Extern.MathFloor.toIntegral name way #[.float .f64 x]).run Try.prog w = .ok (.float .f64 (Fl.rnd (Fl.sg x) (k * Fl.U))) w := by
  have hr := Fl.read_fin x h
  obtain ⟨f, hf⟩ := toIntegral_ex x way name
  rw [hf, decode64, ← Fl.write_whole, ← hk, hr]
  rfl
/-- What Trunc and RoundToEven tell of finite floats. -/
noncomputable def Fl.tr (x : Nat) : Nat := Fl.rnd (Fl.sg x) (Fl.wh x * Fl.U)
noncomputable def Fl.rte (x : Nat) : Nat := Fl.rnd (Fl.sg x) (Fl.nk x * Fl.U)
/-! ### floats against 2^53 -/
theorem Fl.key_pos (r : Nat) (h : r < Fl.W) : Fl.key r = r := by
  have h1 : Fl.rg r = r := Nat.mod_eq_of_lt h
  have h2 : Fl.sg r = false := by unfold Fl.sg; rw [Nat.div_eq_of_lt h]; rfl
  unfold Fl.key; rw [h1, h2]; rfl
theorem Fl.ord_pos (a b : Nat) (ha : a ≤ Fl.I) (hb : b ≤ Fl.I) : FloatKind.f64.format.order a b = some (compare (a : Int) (b : Int)) := by
  have hI : Fl.I < Fl.W := by decide
  have := Fl.order_key a b (by rw [Fl.rg, Nat.mod_eq_of_lt (by omega)]; exact ha) (by rw [Fl.rg, Nat.mod_eq_of_lt (by omega)]; exact hb)
  rw [Fl.key_pos a (by omega), Fl.key_pos b (by omega)] at this
  exact this
theorem Fl.lo53 (x : Nat) (h : Fl.rg x ≤ Fl.I) : (FloatKind.f64.format.order x 14069245235905429504 == some .gt || FloatKind.f64.format.order x 14069245235905429504 == some .eq) = decide (Fl.sg x = false ∨ Fl.rg x ≤ Fl.c53) := by
  have e : FloatKind.f64.format.order x 14069245235905429504 = some (compare (Fl.key x) (Fl.key 14069245235905429504)) := Fl.order_key _ _ h (by decide)
  have k : Fl.key 14069245235905429504 = -4845873199050653696 := by decide
  rw [e, k, Fl.compare_int]
  unfold Fl.key Fl.c53
  cases Fl.sg x
  · simp only [Bool.false_eq_true, if_false]
    rw [if_neg (by omega), if_neg (by omega)]; simp
  · simp only [if_true]
    rcases Int.lt_trichotomy (-(Fl.rg x : Int)) (-4845873199050653696) with h1 | h1 | h1
    · rw [if_pos h1, decide_eq_false (by simp; omega)]; rfl
    · rw [if_neg (by omega), if_pos h1, decide_eq_true (by right; omega)]; rfl
    · rw [if_neg (by omega), if_neg (by omega), decide_eq_true (by right; omega)]; rfl
theorem Fl.hi53 (x : Nat) (h : Fl.rg x ≤ Fl.I) : (FloatKind.f64.format.order x 4845873199050653696 == some .lt || FloatKind.f64.format.order x 4845873199050653696 == some .eq) = decide (Fl.sg x = true ∨ Fl.rg x ≤ Fl.c53) := by
  have e : FloatKind.f64.format.order x 4845873199050653696 = some (compare (Fl.key x) (Fl.key 4845873199050653696)) := Fl.order_key _ _ h (by decide)
  have k : Fl.key 4845873199050653696 = 4845873199050653696 := by decide
  rw [e, k, Fl.compare_int]
  unfold Fl.key Fl.c53
  cases Fl.sg x
  · simp only [Bool.false_eq_true, if_false]
    rcases Int.lt_trichotomy (Fl.rg x : Int) 4845873199050653696 with h1 | h1 | h1
    · rw [if_pos h1, decide_eq_true (by right; omega)]; rfl
    · rw [if_neg (by omega), if_pos h1, decide_eq_true (by right; omega)]; rfl
    · rw [if_neg (by omega), if_neg (by omega), decide_eq_false (by simp; omega)]; rfl
  · simp only [if_true]
    rw [if_pos (by omega)]; simp
theorem Fl.abs53 (x : Nat) (h : Fl.rg x ≤ Fl.I) : FloatKind.f64.format.order (Fl.rg x) 4845873199050653696 = some (compare (Fl.rg x : Int) 4845873199050653696) := Fl.ord_pos _ _ h (by decide)

/-- Is it a whole number of a size up to 2^53? -/
noncomputable def Fl.isW (x : Nat) : Bool := decide (Fl.rg x ≤ Fl.c53 ∧ Fl.wh x * Fl.U = Fl.rv (Fl.rg x))
noncomputable def Fl.whI (x : Nat) : Int := if Fl.isW x then Fl.sgi (Fl.sg x) (Fl.wh x) else 0

theorem Fl.wh_eq (x : Nat) (h : Fl.rg x ≤ Fl.c53) (t : Bool) (ht : t = Fl.sg x ∨ Fl.wh x = 0) :
    FloatKind.f64.format.order x (Fl.rnd t (Fl.wh x * Fl.U)) = some .eq ∧ Fl.wh x * Fl.U = Fl.rv (Fl.rg x) ∨
    (∃ o, FloatKind.f64.format.order x (Fl.rnd t (Fl.wh x * Fl.U)) = some o ∧ o ≠ .eq) ∧ Fl.wh x * Fl.U ≠ Fl.rv (Fl.rg x) := by
  have hc := Fl.c53_lt
  obtain ⟨h1, h2⟩ := Fl.whole_rr (Fl.wh x) (Fl.wh_le x h)
  have e : FloatKind.f64.format.order x (Fl.rnd t (Fl.wh x * Fl.U)) = some (compare (Fl.key x) (Fl.key (Fl.rnd t (Fl.wh x * Fl.U)))) := Fl.order_key _ _ (by omega) (by rw [Fl.rg_rnd]; omega)
  have k : Fl.key (Fl.rnd t (Fl.wh x * Fl.U)) = if t then -(Fl.rr (Fl.wh x * Fl.U) : Int) else (Fl.rr (Fl.wh x * Fl.U) : Int) := by
    unfold Fl.key; rw [Fl.rg_rnd, Fl.sg_rnd]
  have hz : Fl.wh x = 0 → Fl.rr (Fl.wh x * Fl.U) = 0 := fun h => by rw [h, Nat.zero_mul, Fl.rr_zero]
  by_cases he : Fl.wh x * Fl.U = Fl.rv (Fl.rg x)
  · left
    refine ⟨?_, he⟩
    have hr : Fl.rr (Fl.wh x * Fl.U) = Fl.rg x := by rw [he]; exact Fl.rr_exact _ (by omega)
    rw [e, k, Fl.compare_int]
    unfold Fl.key
    rw [hr]
    rcases ht with rfl | ht
    · cases Fl.sg x <;> simp
    · have := hz ht; rw [hr] at this; rw [this]; cases Fl.sg x <;> cases t <;> simp
  · right
    refine ⟨⟨_, e, ?_⟩, he⟩
    have hr : Fl.rr (Fl.wh x * Fl.U) ≠ Fl.rg x := fun h3 => he (by rw [← h1, h3])
    rw [k, Fl.compare_int]
    unfold Fl.key
    generalize Fl.rr (Fl.wh x * Fl.U) = q at *
    rcases ht with rfl | ht
    · cases Fl.sg x
      · simp only [Bool.false_eq_true, if_false]; split; decide; rw [if_neg (by omega)]; decide
      · simp only [if_true]; split; decide; rw [if_neg (by omega)]; decide
    · have := hz ht; subst this
      cases Fl.sg x <;> cases t <;> simp only [Bool.false_eq_true, if_false, if_true] <;> (split; decide; rw [if_neg (by omega)]; decide)

theorem Fl.inInt (s : Bool) (k : Nat) (h : k ≤ 9007199254740992) : IntKind.i64.min ≤ Fl.sgi s k ∧ Fl.sgi s k ≤ IntKind.i64.max := by
  have h1 : IntKind.i64.min = -9223372036854775808 := rfl
  have h2 : IntKind.i64.max = 9223372036854775807 := rfl
  rw [h1, h2]
  unfold Fl.sgi
  split <;> omega
theorem run_int_trunc (src dst : TypeId) (hs : (Try.prog.underlying src).isSome = true) (hd : Try.prog.underlying dst = some (.int .i64)) (x : Nat) (h : Fl.rg x ≤ Fl.c53) (w : World) : (convert src dst (.float .f64 x)).run Try.prog w = .ok (.int .i64 (Fl.sgi (Fl.sg x) (Fl.wh x))) w := by
  refine run_convert_float_int w src dst .f64 .i64 x _ hs hd ?_
  unfold floatToIntVal
  rw [decode64, Fl.toInt_zero x (Nat.lt_of_le_of_lt h Fl.c53_lt)]
  dsimp only
  rw [if_pos (Fl.inInt _ _ (Fl.wh_le x h))]
/-- Of a whole number's word. -/
theorem run_int_whole (src dst : TypeId) (hs : (Try.prog.underlying src).isSome = true) (hd : Try.prog.underlying dst = some (.int .i64)) (s : Bool) (k : Nat) (h : k ≤ 9007199254740992) (w : World) : (convert src dst (.float .f64 (Fl.rnd s (k * Fl.U)))).run Try.prog w = .ok (.int .i64 (Fl.sgi s k)) w := by
  obtain ⟨h1, h2⟩ := Fl.whole_rr k h
  have hr := Fl.rg_rnd s (k * Fl.U)
  have hw : Fl.wh (Fl.rnd s (k * Fl.U)) = k := by
    unfold Fl.wh; rw [hr, h1]; exact Nat.mul_div_cancel _ Fl.U_pos
  have hc : Fl.rg (Fl.rnd s (k * Fl.U)) ≤ Fl.c53 := by
    rw [hr, ← Fl.rv_le_iff, h1, Fl.rv_c53]; exact Nat.mul_le_mul_right _ h
  have := run_int_trunc src dst hs hd _ hc w
  rw [hw, Fl.sg_rnd] at this
  exact this

theorem ret_W {n m : Int} {b c : Bool} (h1 : n = m) (h2 : b = c) : Ending.returned (.tuple #[.int .i64 n, .bool b]) = .returned (.tuple #[.int .i64 m, .bool c]) := by rw [h1, h2]
theorem isW_no (x : Nat) (h : ¬ (Fl.rg x ≤ Fl.c53 ∧ Fl.wh x * Fl.U = Fl.rv (Fl.rg x))) : Fl.isW x = false := decide_eq_false h
theorem isW_yes (x : Nat) (h : Fl.rg x ≤ Fl.c53 ∧ Fl.wh x * Fl.U = Fl.rv (Fl.rg x)) : Fl.isW x = true := decide_eq_true h

theorem abs_le53 (x : Nat) (hc : Fl.rg x ≤ Fl.c53) : FloatKind.f64.format.order (Fl.rg x) 4845873199050653696 = some .lt ∨ FloatKind.f64.format.order (Fl.rg x) 4845873199050653696 = some .eq := by
  have cl := Fl.c53_lt
  rw [Fl.abs53 x (by omega), Fl.compare_int]
  unfold Fl.c53 at hc
  by_cases h : (Fl.rg x : Int) < 4845873199050653696
  · left; rw [if_pos h]
  · right; rw [if_neg h, if_pos (by omega)]
theorem abs_gt53 (x : Nat) (hc : ¬ Fl.rg x ≤ Fl.c53) : FloatKind.f64.format.order (Fl.rg x) 4845873199050653696 = some .gt ∨ FloatKind.f64.format.order (Fl.rg x) 4845873199050653696 = none := by
  rcases Nat.lt_or_ge Fl.I (Fl.rg x) with h | h
  · right; exact Fl.cmp_nan _ _ (by rw [show Fl.rg (Fl.rg x) = Fl.rg x from Nat.mod_eq_of_lt (Fl.rg_lt x)]; exact h)
  · left
    rw [Fl.abs53 x h, Fl.compare_int]
    unfold Fl.c53 at hc
    rw [if_neg (by omega), if_neg (by omega)]

theorem isW_dec (x : Nat) (hc : Fl.rg x ≤ Fl.c53) : (FloatKind.f64.format.order x (Fl.tr x) == some .eq) = Fl.isW x := by
  rcases Fl.wh_eq x hc (Fl.sg x) (.inl rfl) with ⟨ho, he⟩ | ⟨⟨o, ho, hne⟩, he⟩
  · rw [isW_yes x ⟨hc, he⟩, Fl.tr, ho]; rfl
  · rw [isW_no x (fun h => he h.2), Fl.tr, ho]
    cases o <;> first | rfl | exact absurd rfl hne
end Go.Proofs.Ytclnmheplecknaa

namespace Go.Proofs.Ytclnmheplecknaa
open Go.RowKit

theorem in53 (x : Nat) (h : Fl.rg x ≤ Fl.c53) : (FloatKind.f64.format.order x 14069245235905429504 = some .gt ∨ FloatKind.f64.format.order x 14069245235905429504 = some .eq) ∧ (FloatKind.f64.format.order x 4845873199050653696 = some .lt ∨ FloatKind.f64.format.order x 4845873199050653696 = some .eq) := by
  have cl := Fl.c53_lt
  have h1 := Fl.lo53 x (by omega)
  have h2 := Fl.hi53 x (by omega)
  rw [decide_eq_true (.inr h)] at h1 h2
  exact ⟨by simpa using h1, by simpa using h2⟩
theorem out53 (x : Nat) (h : ¬ Fl.rg x ≤ Fl.c53) : FloatKind.f64.format.order x 14069245235905429504 = none ∨ FloatKind.f64.format.order x 14069245235905429504 = some .lt ∨ (FloatKind.f64.format.order x 14069245235905429504 = some .gt ∧ FloatKind.f64.format.order x 4845873199050653696 = some .gt) := by
  rcases Nat.lt_or_ge Fl.I (Fl.rg x) with h0 | h0
  · exact .inl (Fl.cmp_nan _ _ h0)
  · right
    cases hs : Fl.sg x
    · right
      refine ⟨Fl.order_gt _ _ h0 (by decide) ?_, Fl.order_gt _ _ h0 (by decide) ?_⟩
      · rw [show Fl.key 14069245235905429504 = -4845873199050653696 by decide]; unfold Fl.key; rw [hs]; simp; omega
      · rw [show Fl.key 4845873199050653696 = 4845873199050653696 by decide]; unfold Fl.key; rw [hs]; unfold Fl.c53 at h; simp; omega
    · left
      refine Fl.order_lt _ _ h0 (by decide) ?_
      rw [show Fl.key 14069245235905429504 = -4845873199050653696 by decide]; unfold Fl.key; rw [hs]; unfold Fl.c53 at h; simp; omega

theorem ord_eq_symm (x y : Nat) : (FloatKind.f64.format.order x y == some .eq) = (FloatKind.f64.format.order y x == some .eq) := by
  rcases Nat.lt_or_ge Fl.I (Fl.rg x) with h | h
  · rw [show FloatKind.f64.format.order x y = none from Fl.order_nan _ _ (.inl h), show FloatKind.f64.format.order y x = none from Fl.order_nan _ _ (.inr h)]
  · rcases Nat.lt_or_ge Fl.I (Fl.rg y) with h2 | h2
    · rw [show FloatKind.f64.format.order x y = none from Fl.order_nan _ _ (.inr h2), show FloatKind.f64.format.order y x = none from Fl.order_nan _ _ (.inl h2)]
    · rw [show FloatKind.f64.format.order x y = _ from Fl.order_key _ _ h h2, show FloatKind.f64.format.order y x = _ from Fl.order_key _ _ h2 h, Fl.compare_int, Fl.compare_int]
      rcases Int.lt_trichotomy (Fl.key x) (Fl.key y) with h3 | h3 | h3
      · rw [if_pos h3, if_neg (by omega), if_neg (by omega)]; rfl
      · rw [h3]
      · rw [if_neg (by omega), if_neg (by omega), if_pos h3]; rfl

theorem fi_dec (x : Nat) (hc : Fl.rg x ≤ Fl.c53) : (FloatKind.f64.format.order (floatOfInt .f64 (Fl.sgi (Fl.sg x) (Fl.wh x))) x == some .eq) = Fl.isW x := by
  rw [ord_eq_symm, Fl.ofInt_sgi]
  have ht : (Fl.sg x && decide (0 < Fl.wh x)) = Fl.sg x ∨ Fl.wh x = 0 := by
    by_cases h : 0 < Fl.wh x
    · left; rw [decide_eq_true h, Bool.and_true]
    · right; omega
  rcases Fl.wh_eq x hc _ ht with ⟨ho, he⟩ | ⟨⟨o, ho, hne⟩, he⟩
  · rw [isW_yes x ⟨hc, he⟩, ho]; rfl
  · rw [isW_no x (fun h => he h.2), ho]
    cases o <;> first | rfl | exact absurd rfl hne
/-! ### Nearest -/
/-- What Nearest tells: the whole number, how far it is, the error. -/
def Fl.nearN (x : Nat) : Int := if Fl.rg x ≤ Fl.c53 then Fl.sgi (Fl.sg x) (Fl.nk x) else 0
noncomputable def Fl.nearD (x : Nat) : Nat := if Fl.rg x ≤ Fl.c53 then Fl.rr (Fl.dist (Fl.rv (Fl.rg x)) (Fl.nk x)) else 0
def Fl.nearE (x : Nat) : Int := if Fl.rg x ≤ Fl.c53 then 0 else if Fl.rg x < Fl.I then 6 else 5
def NPost (x : Nat) (w : World) (e : Ending) (w' : World) : Prop := e = .returned (.tuple #[.int .i64 (Fl.nearN x), .float .f64 (Fl.nearD x), .int .i64 (Fl.nearE x)]) ∧ Dr w w'

end Go.Proofs.Ytclnmheplecknaa

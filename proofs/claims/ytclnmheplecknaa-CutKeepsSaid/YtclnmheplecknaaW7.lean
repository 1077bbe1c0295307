/-
  Walks: rosetteref00's Whole, Scaled, TellInt.
  Plain facts: the sum and the order of numbers by sign, size and exponent.
  Walks: Num by value: Plus, Less.
  Walks: Num by value: Less, Compare.
-/
import Derived.Test.YtclnmheplecknaaW6
set_option linter.unusedVariables false
set_option linter.unusedSimpArgs false
namespace Go.Proofs.Ytclnmheplecknaa
open Go.RowKit

theorem NumV.zero_len {w : World} {v : Value} {s : Bool} {N : Nat} {e : Int} (h : NumV w v s N e) : True := trivial
set_option maxRecDepth 400000 in
set_option maxHeartbeats 8000000 in
theorem plus_any (v : Value) (s : Bool) (N : Nat) (e : Int) (v' : Value) (s' : Bool) (M : Nat) (f : Int) (w : World) (hv : NumV w v s N e) (hv' : NumV w v' s' M f) (hl : (Nt.dg 18446744073709551616 N).length ≤ 50000000) (hl' : (Nt.dg 18446744073709551616 M).length ≤ 50000000)
    (he1 : -100000000 ≤ e) (he2 : e ≤ 100000000) (hf1 : -100000000 ≤ f) (hf2 : f ≤ 100000000) :
    Calls Try.prog 45 #[v, v'] w (NumPost (plusN s N e s' M f) w) := by
  have hz1 := fun x (hb : Below w.heap.size w x) => zero_any v s N e x (hv.below hb) (by omega)
  have hz2 := fun x (hb : Below w.heap.size w x) => zero_any v' s' M f x (hv'.below hb) (by omega)
  have hrec := fun x (hb : Below w.heap.size w x) (h1 : N ≠ 0) (h2 : M ≠ 0) (h3 : f ≤ e) => plus_core v' s' M f v s N e x (hv'.below hb) (hv.below hb) hl' hl hf1 hf2 he1 he2 h2 h1 h3
  unfold plusN
  by_cases hN : N = 0
  · rw [if_pos hN]
    have dN : decide (N = 0) = true := decide_eq_true hN
    have HV := Lib.hid hv'
    obtain ⟨A, c, rfl, hu⟩ := hv
    obtain ⟨A', c', rfl, hu'⟩ := hv'
    have HU := Lib.hid hu'
    have HZ1 := Lib.hid hz1
    clear hz1 hz2 hrec hN hu hu'
    generalize (Nt.dg 18446744073709551616 N).length = n at *
    generalize hlv : (Nt.dg 18446744073709551616 M) = lv at *
    generalize hkv : lv.length = kv at *
    have HLV := Lib.hid hlv
    have HKV := Lib.hid hkv
    clear hlv hkv
    have hst := Two.start w s A n c e s' A' kv c' f 65
    go_enter Try.func45, Try.ntmps45
    go_wp2_with fail
    generalize ((w.alloc (.cells #[.bool s, .slice A n c, .int .i64 e] 65)).alloc (.cells #[.bool s', .slice A' kv c', .int .i64 f] 65)).alloc (.cells #[.bool false, .slice none 0 0, .int .i64 0] 65) = W at *
    refine (HZ1.out W hst.2.2.1).mono ?_
    rintro r w1 ⟨rfl, hb1⟩
    have ht1 := hst.go hb1
    have hu1 : U w1 A' kv c' lv := HU.out.below ht1.2.2.1
    have OUT := Lib.hid (Two.out (w := w1) ht1 (by omega) hu1 (.bool s') (.slice A' kv c') (.int .i64 f))
    obtain ⟨⟨p1, p2, p3⟩, ⟨p4, p5, p6⟩, _, ⟨p7, p8⟩, _, hfz, _, _, _, _, _, m0, m1, m2⟩ := ht1
    have z0 := hfz 0
    have z1 := hfz 1
    have z2 := hfz 2
    clear hb1 hst hfz HV
    rw [dN]
    go_wp2
    refine bodyPost_ret (v := .agg #[.bool s', .slice A' kv c', .int .i64 f]) (by simp [results, Try.results45, go_sem, OUT.out.2.2.1, OUT.out.2.2.2.1, OUT.out.2.2.2.2]) rfl ⟨_, rfl, ⟨A', c', by rw [HLV.out, HKV.out], by rw [HLV.out, HKV.out]; exact OUT.out.1⟩, OUT.out.2.1⟩
  · rw [if_neg hN]
    have dN : decide (N = 0) = false := decide_eq_false hN
    by_cases hM : M = 0
    · rw [if_pos hM]
      have dM : decide (M = 0) = true := decide_eq_true hM
      obtain ⟨A, c, rfl, hu⟩ := hv
      obtain ⟨A', c', rfl, hu'⟩ := hv'
      have HU := Lib.hid hu
      have HZ1 := Lib.hid hz1
      have HZ2 := Lib.hid hz2
      clear hz1 hz2 hrec hN hM hu hu'
      generalize (Nt.dg 18446744073709551616 M).length = n' at *
      generalize hlv : (Nt.dg 18446744073709551616 N) = lv at *
      generalize hkv : lv.length = kv at *
      have HLV := Lib.hid hlv
      have HKV := Lib.hid hkv
      clear hlv hkv
      have hst := Two.start w s A kv c e s' A' n' c' f 65
      go_enter Try.func45, Try.ntmps45
      go_wp2_with fail
      generalize ((w.alloc (.cells #[.bool s, .slice A kv c, .int .i64 e] 65)).alloc (.cells #[.bool s', .slice A' n' c', .int .i64 f] 65)).alloc (.cells #[.bool false, .slice none 0 0, .int .i64 0] 65) = W at *
      refine (HZ1.out W hst.2.2.1).mono ?_
      rintro r w1 ⟨rfl, hb1⟩
      have ht1 := hst.go hb1
      have HT1 := Lib.hid ht1
      obtain ⟨⟨p1, p2, p3⟩, ⟨p4, p5, p6⟩, _, ⟨p7, p8⟩, _⟩ := ht1
      clear hb1 hst
      rw [dN]
      go_wp2_with fail
      refine (HZ2.out w1 HT1.out.2.2.1).mono ?_
      rintro r w2 ⟨rfl, hb2⟩
      have ht2 := HT1.out.go hb2
      have hu1 : U w2 A kv c lv := HU.out.below ht2.2.2.1
      have OUT := Lib.hid (Two.out (w := w2) ht2 (by omega) hu1 (.bool s) (.slice A kv c) (.int .i64 e))
      clear p1 p2 p3 p4 p5 p6 p7 p8 HT1 hb2
      obtain ⟨⟨p1, p2, p3⟩, ⟨p4, p5, p6⟩, _, ⟨p7, p8⟩, _, hfz, _, _, _, _, _, m0, m1, m2⟩ := ht2
      have z0 := hfz 0
      have z1 := hfz 1
      have z2 := hfz 2
      clear hfz
      rw [dM]
      go_wp2
      refine bodyPost_ret (v := .agg #[.bool s, .slice A kv c, .int .i64 e]) (by simp [results, Try.results45, go_sem, OUT.out.2.2.1, OUT.out.2.2.2.1, OUT.out.2.2.2.2]) rfl ⟨_, rfl, ⟨A, c, by rw [HLV.out, HKV.out], by rw [HLV.out, HKV.out]; exact OUT.out.1⟩, OUT.out.2.1⟩
    · rw [if_neg hM]
      have dM : decide (M = 0) = false := decide_eq_false hM
      by_cases hgt : f < e
      · rw [if_pos hgt]
        obtain ⟨T, hT⟩ : ∃ T, T = plusC s' M f s N e := ⟨_, rfl⟩
        rw [← hT] at hrec ⊢
        clear hT
        obtain ⟨A, c, rfl, hu⟩ := hv
        obtain ⟨A', c', rfl, hu'⟩ := hv'
        have HZ1 := Lib.hid hz1
        have HZ2 := Lib.hid hz2
        have HREC := Lib.hid (fun x hb => hrec x hb hN hM (Int.le_of_lt hgt))
        clear hz1 hz2 hrec hN hM hu hu'
        generalize (Nt.dg 18446744073709551616 N).length = n at *
        generalize (Nt.dg 18446744073709551616 M).length = n' at *
        have hst := Two.start w s A n c e s' A' n' c' f 65
        go_enter Try.func45, Try.ntmps45
        go_wp2_with fail
        generalize ((w.alloc (.cells #[.bool s, .slice A n c, .int .i64 e] 65)).alloc (.cells #[.bool s', .slice A' n' c', .int .i64 f] 65)).alloc (.cells #[.bool false, .slice none 0 0, .int .i64 0] 65) = W at *
        refine (HZ1.out W hst.2.2.1).mono ?_
        rintro r w1 ⟨rfl, hb1⟩
        have ht1 := hst.go hb1
        have HT1 := Lib.hid ht1
        obtain ⟨⟨p1, p2, p3⟩, ⟨p4, p5, p6⟩, _, ⟨p7, p8⟩, _⟩ := ht1
        clear hb1 hst
        rw [dN]
        go_wp2_with fail
        refine (HZ2.out w1 HT1.out.2.2.1).mono ?_
        rintro r w2 ⟨rfl, hb2⟩
        have ht2 := HT1.out.go hb2
        have HT2 := Lib.hid ht2
        clear p1 p2 p3 p4 p5 p6 p7 p8 HT1 hb2
        obtain ⟨⟨p1, p2, p3⟩, ⟨p4, p5, p6⟩, _, ⟨p7, p8⟩, _⟩ := ht2
        rw [dM]
        go_wp2_with fail
        refine (HREC.out w2 HT2.out.2.2.1).mono ?_
        rintro r w3 ⟨v3, rfl, ⟨A3, c3, rfl, hu3⟩, hb3⟩
        generalize hlv : (Nt.dg 18446744073709551616 T.2.1) = lv at *
        generalize hkv : lv.length = kv at *
        have HLV := Lib.hid hlv
        have HKV := Lib.hid hkv
        clear hlv hkv
        have ht3 := HT2.out.go hb3
        have OUT := Lib.hid (Two.out (w := w3) ht3 (by omega) hu3 (.bool T.1) (.slice A3 kv c3) (.int .i64 T.2.2))
        clear p1 p2 p3 p4 p5 p6 p7 p8 HT2 hb3
        obtain ⟨⟨p1, p2, p3⟩, ⟨p4, p5, p6⟩, _, ⟨p7, p8⟩, _, hfz, _, _, _, _, _, m0, m1, m2⟩ := ht3
        have z0 := hfz 0
        have z1 := hfz 1
        have z2 := hfz 2
        clear hfz
        go_wp2
        refine bodyPost_ret (v := .agg #[.bool T.1, .slice A3 kv c3, .int .i64 T.2.2]) (by simp [results, Try.results45, go_sem, OUT.out.2.2.1, OUT.out.2.2.2.1, OUT.out.2.2.2.2]) rfl ⟨_, rfl, ⟨A3, c3, by rw [HLV.out, HKV.out], by rw [HLV.out, HKV.out]; exact OUT.out.1⟩, OUT.out.2.1⟩
      · rw [if_neg hgt]
        exact plus_core v s N e v' s' M f w hv hv' hl hl' he1 he2 hf1 hf2 hN hM (by omega)
end Go.Proofs.Ytclnmheplecknaa

namespace Go.Proofs.Ytclnmheplecknaa
open Go.RowKit

set_option maxRecDepth 400000 in
set_option maxHeartbeats 8000000 in
theorem less_any (v : Value) (s : Bool) (N : Nat) (e : Int) (v' : Value) (s' : Bool) (M : Nat) (f : Int) (w : World) (hv : NumV w v s N e) (hv' : NumV w v' s' M f) (hl : (Nt.dg 18446744073709551616 N).length ≤ 50000000) (hl' : (Nt.dg 18446744073709551616 M).length ≤ 50000000)
    (he1 : -100000000 ≤ e) (he2 : e ≤ 100000000) (hf1 : -100000000 ≤ f) (hf2 : f ≤ 100000000) :
    Calls Try.prog 162 #[v, v'] w (NumPost (plusN s N e (!s') M f) w) := by
  have hmn := fun x (hb : Below w.heap.size w x) => minus_any v' s' M f x (hv'.below hb)
  have hpl := fun x u (hb : Below w.heap.size w x) (hu : NumV x u (!s') M f) => plus_any v s N e u (!s') M f x (hv.below hb) hu hl hl' he1 he2 hf1 hf2
  obtain ⟨T, hT⟩ : ∃ T, T = plusN s N e (!s') M f := ⟨_, rfl⟩
  rw [← hT] at hpl ⊢
  clear hT
  obtain ⟨A, c, rfl, hu⟩ := hv
  obtain ⟨A', c', rfl, hu'⟩ := hv'
  unfold NumV at hmn hpl
  have HMN := Lib.hid hmn
  have HPL := Lib.hid hpl
  clear hmn hpl hu hu'
  generalize (Nt.dg 18446744073709551616 N).length = n at *
  generalize (Nt.dg 18446744073709551616 M) = b at *
  generalize b.length = n' at *
  have hst := Two.start w s A n c e s' A' n' c' f 65
  go_enter Try.func162, Try.ntmps162
  go_wp2_with fail
  generalize ((w.alloc (.cells #[.bool s, .slice A n c, .int .i64 e] 65)).alloc (.cells #[.bool s', .slice A' n' c', .int .i64 f] 65)).alloc (.cells #[.bool false, .slice none 0 0, .int .i64 0] 65) = W at *
  have HC1 : Hid (∀ x, Two w w.heap.size s A n c e (w.heap.size + 1) s' A' n' c' f (w.heap.size + 1 + 1) x → Calls Try.prog 167 #[.agg #[.bool s', .slice A' n' c', .int .i64 f]] x fun r w' => ∃ A3 c3, r = .returned (.agg #[.bool !s', .slice A3 n' c3, .int .i64 f]) ∧ U w' A3 n' c3 b ∧ Two w w.heap.size s A n c e (w.heap.size + 1) s' A' n' c' f (w.heap.size + 1 + 1) w') :=
    Lib.hid (fun x hx => (HMN.out x hx.2.2.1).mono fun r w' ⟨v3, h1, ⟨A3, c3, h2, h3⟩, h4⟩ => ⟨A3, c3, by rw [h1, h2], h3, hx.go h4⟩)
  have HC2 : Hid (∀ x A3 c3, Two w w.heap.size s A n c e (w.heap.size + 1) s' A' n' c' f (w.heap.size + 1 + 1) x → U x A3 n' c3 b → Calls Try.prog 45 #[.agg #[.bool s, .slice A n c, .int .i64 e], .agg #[.bool !s', .slice A3 n' c3, .int .i64 f]] x fun r w' => ∃ A4 c4, r = .returned (.agg #[.bool T.1, .slice A4 (Nt.dg 18446744073709551616 T.2.1).length c4, .int .i64 T.2.2]) ∧ U w' A4 (Nt.dg 18446744073709551616 T.2.1).length c4 (Nt.dg 18446744073709551616 T.2.1) ∧ Two w w.heap.size s A n c e (w.heap.size + 1) s' A' n' c' f (w.heap.size + 1 + 1) w') :=
    Lib.hid (fun x A3 c3 hx hu => (HPL.out x _ hx.2.2.1 ⟨A3, c3, rfl, hu⟩).mono fun r w' ⟨v4, h1, ⟨A4, c4, h2, h3⟩, h4⟩ => ⟨A4, c4, by rw [h1, h2], h3, hx.go h4⟩)
  have HS0 := Lib.hid hst.drew
  have KEEP : Hid (∀ x, Two w w.heap.size s A n c e (w.heap.size + 1) s' A' n' c' f (w.heap.size + 1 + 1) x → ∀ q A5 n5 c5 e5, Two w w.heap.size s A n c e (w.heap.size + 1) s' A' n' c' f (w.heap.size + 1 + 1) (((x.setCell ⟨w.heap.size + 1 + 1, 0, none⟩ (.bool q)).setCell ⟨w.heap.size + 1 + 1, 1, none⟩ (.slice A5 n5 c5)).setCell ⟨w.heap.size + 1 + 1, 2, none⟩ (.int .i64 e5))) := Lib.hid (fun x hx q A5 n5 c5 e5 => Two.store hx (by omega) (by omega) (by omega) q A5 n5 c5 e5)
  generalize hlv : (Nt.dg 18446744073709551616 T.2.1) = lv at *
  generalize hkv : lv.length = kv at *
  have HLV := Lib.hid hlv
  have HKV := Lib.hid hkv
  clear hlv hkv
  obtain ⟨⟨p1, p2, p3⟩, ⟨p4, p5, p6⟩, _, ⟨p7, p8⟩, _⟩ := hst
  go_region_held3 (fun x => (x.cell? ⟨w.heap.size, 0, none⟩ = some (.bool s) ∧ x.cell? ⟨w.heap.size, 1, none⟩ = some (.slice A n c) ∧ x.cell? ⟨w.heap.size, 2, none⟩ = some (.int .i64 e)) ∧ (x.cell? ⟨w.heap.size + 1, 0, none⟩ = some (.bool s') ∧ x.cell? ⟨w.heap.size + 1, 1, none⟩ = some (.slice A' n' c') ∧ x.cell? ⟨w.heap.size + 1, 2, none⟩ = some (.int .i64 f)) ∧ Below w.heap.size w x ∧ (w.heap.size < x.heap.size ∧ w.heap.size + 1 < x.heap.size) ∧ Shape x (w.heap.size + 1 + 1)) ((first | assumption | exact HS0.out | exact KEEP.out _ (by assumption) _ _ _ _ _)) (first | (go_at_call 167; refine (HC1.out _ ?_).mono ?_; (assumption); rintro r w' ⟨A3, c3, rfl, hu3, hS⟩) | (go_at_call 45; refine (HC2.out _ _ _ ?_ ?_).mono ?_; (assumption); (assumption); rintro r w' ⟨A4, c4, rfl, hu4, hS4⟩; have hS2 := hS4; obtain ⟨_, _, _, _, _, hfz, _, _, _, _, _, m0, m1, m2⟩ := hS2; have z0 := hfz 0; have z1 := hfz 1; have z2 := hfz 2; clear hfz))
  have OUT := Lib.hid (Two.out (w := w') hS4 (by omega) hu4 (.bool T.1) (.slice A4 kv c4) (.int .i64 T.2.2))
  clear hS4 m0 m1 m2 z0 z1 z2 hu4 HC1 HC2 KEEP HS0 p1 p2 p3 p4 p5 p6 p7 p8
  go_wp2
  refine bodyPost_ret (v := .agg #[.bool T.1, .slice A4 kv c4, .int .i64 T.2.2]) (by simp [results, Try.results162, go_sem, OUT.out.2.2.1, OUT.out.2.2.2.1, OUT.out.2.2.2.2]) rfl ⟨_, rfl, ⟨A4, c4, by rw [HLV.out, HKV.out], by rw [HLV.out, HKV.out]; exact OUT.out.1⟩, OUT.out.2.1⟩
/-- How two numbers are compared, step by step. -/
def cmpN (s : Bool) (N : Nat) (e : Int) (s' : Bool) (M : Nat) (f : Int) : Int :=
  if signI s N < signI s' M then -1 else if signI s' M < signI s N then 1 else if signI s N = 0 then 0
  else if e + (bitsN N : Nat) < f + (bitsN M : Nat) then - signI s N else if f + (bitsN M : Nat) < e + (bitsN N : Nat) then signI s N
  else signI (plusN s N e (!s') M f).1 (plusN s N e (!s') M f).2.1
/-- Two numbers boxed. -/
def Pair (w0 : World) (g0 : Nat) (s0 : Bool) (A0 : Option Addr) (n0 c0 : Nat) (e0 : Int) (g1 : Nat) (s1 : Bool) (A1 : Option Addr) (n1 c1 : Nat) (e1 : Int) (w : World) : Prop :=
  (w.cell? ⟨g0, 0, none⟩ = some (.bool s0) ∧ w.cell? ⟨g0, 1, none⟩ = some (.slice A0 n0 c0) ∧ w.cell? ⟨g0, 2, none⟩ = some (.int .i64 e0)) ∧
  (w.cell? ⟨g1, 0, none⟩ = some (.bool s1) ∧ w.cell? ⟨g1, 1, none⟩ = some (.slice A1 n1 c1) ∧ w.cell? ⟨g1, 2, none⟩ = some (.int .i64 e1)) ∧ Below w0.heap.size w0 w ∧ (g0 < w.heap.size ∧ g1 < w.heap.size)
section
variable {w0 : World} {g0 : Nat} {s0 : Bool} {A0 : Option Addr} {n0 c0 : Nat} {e0 : Int} {g1 : Nat} {s1 : Bool} {A1 : Option Addr} {n1 c1 : Nat} {e1 : Int} {w : World}
theorem Pair.go (h : Pair w0 g0 s0 A0 n0 c0 e0 g1 s1 A1 n1 c1 e1 w) {w' : World} (hb : Below w.heap.size w w') : Pair w0 g0 s0 A0 n0 c0 e0 g1 s1 A1 n1 c1 e1 w' := by
  obtain ⟨h1, h2, h3, ⟨h4, h5⟩⟩ := h
  exact ⟨Cells3.below h1 h4 hb, Cells3.below h2 h5 hb, h3.trans (hb.mono h3.size), ⟨Nat.lt_of_lt_of_le h4 hb.size, Nat.lt_of_lt_of_le h5 hb.size⟩⟩
theorem Pair.drew (h : Pair w0 g0 s0 A0 n0 c0 e0 g1 s1 A1 n1 c1 e1 w) : Pair w0 g0 s0 A0 n0 c0 e0 g1 s1 A1 n1 c1 e1 w.drew := h.go (Below.refl _ _).drew
end
theorem Pair.start (w : World) (s0 : Bool) (A0 : Option Addr) (n0 c0 : Nat) (e0 : Int) (s1 : Bool) (A1 : Option Addr) (n1 c1 : Nat) (e1 : Int) (t : TypeId) :
    Pair w w.heap.size s0 A0 n0 c0 e0 (w.heap.size + 1) s1 A1 n1 c1 e1 ((w.alloc (.cells #[.bool s0, .slice A0 n0 c0, .int .i64 e0] t)).alloc (.cells #[.bool s1, .slice A1 n1 c1, .int .i64 e1] t)) := by
  have z1 : (w.alloc (.cells #[.bool s0, .slice A0 n0 c0, .int .i64 e0] t)).heap.size = w.heap.size + 1 := by simp
  generalize h1 : w.alloc (.cells #[.bool s0, .slice A0 n0 c0, .int .i64 e0] t) = W1 at *
  have z2 : (W1.alloc (.cells #[.bool s1, .slice A1 n1 c1, .int .i64 e1] t)).heap.size = w.heap.size + 1 + 1 := by simp [z1]
  obtain ⟨a0, a1, a2, ha⟩ := new_cells w W1 (.bool s0) (.slice A0 n0 c0) (.int .i64 e0) t (by rw [h1]; exact Below.refl _ _)
  generalize h2 : W1.alloc (.cells #[.bool s1, .slice A1 n1 c1, .int .i64 e1] t) = W2 at *
  obtain ⟨b0, b1, b2, hb⟩ := new_cells W1 W2 (.bool s1) (.slice A1 n1 c1) (.int .i64 e1) t (by rw [h2]; exact Below.refl _ _)
  rw [z1] at b0 b1 b2
  have e1 : Cells3 W2 w.heap.size s0 A0 n0 c0 e0 := Cells3.below ⟨a0, a1, a2⟩ (by omega) hb
  exact ⟨e1, ⟨b0, b1, b2⟩, ha.trans (hb.mono ha.size), ⟨by omega, by omega⟩⟩
end Go.Proofs.Ytclnmheplecknaa

namespace Go.Proofs.Ytclnmheplecknaa
namespace Nt
def sz (s : Bool) (n : Nat) : Int := if s then -(n : Int) else (n : Int)
/-- A number in units of 2^-K. -/
def nv (s : Bool) (N : Nat) (e K : Int) : Int := sz s (N * 2 ^ (e + K).toNat)
theorem sz_zero (s : Bool) : sz s 0 = 0 := by unfold sz; cases s <;> rfl
theorem sz_not (s : Bool) (n : Nat) : sz (!s) n = - sz s n := by unfold sz; cases s <;> simp
theorem nv_not (s : Bool) (N : Nat) (e K : Int) : nv (!s) N e K = - nv s N e K := sz_not _ _
theorem nv_zero (s : Bool) (e K : Int) : nv s 0 e K = 0 := by unfold nv; rw [Nat.zero_mul, sz_zero]
theorem sz_mul (s t : Bool) (m n : Nat) : sz s m * sz t n = sz (s != t) (m * n) := by
  unfold sz; cases s <;> cases t <;> simp [Int.neg_mul, Int.mul_neg]
theorem sz_add (s : Bool) (m n : Nat) : sz s (m + n) = sz s m + sz s n := by unfold sz; split <;> omega
theorem sz_sub (s : Bool) (m n : Nat) (h : n ≤ m) : sz s (m - n) = sz s m - sz s n := by unfold sz; split <;> omega
theorem pow_split (M : Nat) (e f K : Int) (h : e ≤ f) (he : 0 ≤ e + K) : M * 2 ^ (f - e).toNat * 2 ^ (e + K).toNat = M * 2 ^ (f + K).toNat := by
  rw [Nat.mul_assoc, ← Nat.pow_add]; congr 2; omega
theorem plusC_val (s : Bool) (N : Nat) (e : Int) (s' : Bool) (M : Nat) (f K : Int) (h : e ≤ f) (he : 0 ≤ e + K) :
    (plusC s N e s' M f).2.2 = e ∧ nv (plusC s N e s' M f).1 (plusC s N e s' M f).2.1 e K = nv s N e K + nv s' M f K := by
  have hp := pow_split M e f K h he
  unfold plusC
  unfold nv
  rw [← hp]
  generalize M * 2 ^ (f - e).toNat = Q
  generalize 2 ^ (e + K).toNat = P
  by_cases hs : s = s'
  · rw [if_pos hs]
    subst hs
    exact ⟨rfl, by dsimp only; rw [Nat.add_mul, sz_add]⟩
  · rw [if_neg hs]
    have hs2 : s' = !s := by cases s <;> cases s' <;> simp_all
    subst hs2
    by_cases hq : Q ≤ N
    · rw [if_pos hq]
      exact ⟨rfl, by dsimp only; rw [Nat.sub_mul, sz_sub _ _ _ (Nat.mul_le_mul_right _ hq), sz_not]; omega⟩
    · rw [if_neg hq]
      exact ⟨rfl, by dsimp only; rw [Nat.sub_mul, sz_sub _ _ _ (Nat.mul_le_mul_right _ (by omega)), sz_not]; rw [sz_not]; omega⟩
theorem plusN_val (s : Bool) (N : Nat) (e : Int) (s' : Bool) (M : Nat) (f K : Int) (he : 0 ≤ e + K) (hf : 0 ≤ f + K) :
    0 ≤ (plusN s N e s' M f).2.2 + K ∧ nv (plusN s N e s' M f).1 (plusN s N e s' M f).2.1 (plusN s N e s' M f).2.2 K = nv s N e K + nv s' M f K := by
  unfold plusN
  by_cases hN : N = 0
  · rw [if_pos hN, hN, nv_zero]; exact ⟨hf, (Int.zero_add _).symm⟩
  · rw [if_neg hN]
    by_cases hM : M = 0
    · rw [if_pos hM, hM, nv_zero]; exact ⟨he, (Int.add_zero _).symm⟩
    · rw [if_neg hM]
      by_cases hl : f < e
      · rw [if_pos hl]
        obtain ⟨h1, h2⟩ := plusC_val s' M f s N e K (by omega) hf
        rw [h1, h2]; exact ⟨hf, Int.add_comm _ _⟩
      · rw [if_neg hl]
        obtain ⟨h1, h2⟩ := plusC_val s N e s' M f K (by omega) he
        rw [h1, h2]; exact ⟨he, rfl⟩
/-- A bound on the sum's size. -/
theorem plusN_lt (s : Bool) (N : Nat) (e : Int) (s' : Bool) (M : Nat) (f : Int) (p d : Nat) (hN : N < 2 ^ p) (hM : M < 2 ^ p) (h1 : e - f ≤ d) (h2 : f - e ≤ d) : (plusN s N e s' M f).2.1 < 2 ^ (p + d + 1) := by
  have pd : 0 < 2 ^ d := Nat.two_pow_pos d
  have big : ∀ Q : Nat, Q < 2 ^ p → ∀ i : Int, i ≤ d → Q * 2 ^ i.toNat < 2 ^ (p + d) := fun Q hQ i hi => by
    rw [Nat.pow_add]
    exact Nat.mul_lt_mul_of_lt_of_le hQ (Nat.pow_le_pow_right (by decide) (by omega)) pd
  have small : ∀ Q : Nat, Q < 2 ^ p → Q < 2 ^ (p + d) := fun Q hQ => Nat.lt_of_lt_of_le hQ (Nat.pow_le_pow_right (by decide) (by omega))
  have a1 := big N hN (e - f) h1
  have a2 := big M hM (f - e) h2
  have a3 := small N hN
  have a4 := small M hM
  rw [Nat.pow_succ]
  unfold plusN plusC
  generalize 2 ^ (p + d) = B at *
  generalize N * 2 ^ (e - f).toNat = X at *
  generalize M * 2 ^ (f - e).toNat = Y at *
  split
  · dsimp only; omega
  · split
    · dsimp only; omega
    · split
      · split
        · dsimp only; omega
        · split <;> dsimp only <;> omega
      · split
        · dsimp only; omega
        · split <;> dsimp only <;> omega
theorem len_of_lt (N p : Nat) (h : N < 2 ^ p) : (dg 18446744073709551616 N).length ≤ p / 64 + 1 := by
  refine dg_len _ (by decide) _ _ (Nat.lt_of_lt_of_le h ?_)
  rw [show (18446744073709551616 : Nat) = 2 ^ 64 from rfl, ← Nat.pow_mul]
  exact Nat.pow_le_pow_right (by decide) (by omega)
/-- The order as a number. -/
def ordI (a b : Int) : Int := if a < b then -1 else if a = b then 0 else 1
theorem nv_pos (N : Nat) (e K : Int) (h : N ≠ 0) : 0 < N * 2 ^ (e + K).toNat := Nat.mul_pos (Nat.pos_of_ne_zero h) (Nat.two_pow_pos _)
theorem signI_nv (s : Bool) (N : Nat) (e K : Int) : signI s N = ordI (nv s N e K) 0 := by
  unfold signI ordI nv
  by_cases h : N = 0
  · rw [if_pos h, h, Nat.zero_mul, sz_zero]; rfl
  · rw [if_neg h]
    have hp := nv_pos N e K h
    generalize N * 2 ^ (e + K).toNat = X at *
    unfold sz
    cases s
    · simp only [Bool.false_eq_true, if_false]; rw [if_neg (by omega), if_neg (by omega)]
    · simp only [if_true]; rw [if_pos (by omega)]
theorem bits_range (N : Nat) (h : N ≠ 0) : 0 < bitsN N ∧ 2 ^ (bitsN N - 1) ≤ N ∧ N < 2 ^ bitsN N := by
  unfold bitsN
  rw [if_neg h]
  exact ⟨by omega, by rw [Nat.add_sub_cancel]; exact Nat.log2_self_le h, Nat.lt_log2_self⟩
theorem top_lt (N M : Nat) (e f K : Int) (hN : N ≠ 0) (hM : M ≠ 0) (he : 0 ≤ e + K) (hf : 0 ≤ f + K) (h : e + (bitsN N : Nat) < f + (bitsN M : Nat)) : N * 2 ^ (e + K).toNat < M * 2 ^ (f + K).toNat := by
  obtain ⟨a1, a2, a3⟩ := bits_range N hN
  obtain ⟨b1, b2, b3⟩ := bits_range M hM
  have h1 : N * 2 ^ (e + K).toNat < 2 ^ (bitsN N + (e + K).toNat) := by rw [Nat.pow_add]; exact Nat.mul_lt_mul_of_pos_right a3 (Nat.two_pow_pos _)
  have h2 : 2 ^ (bitsN M - 1 + (f + K).toNat) ≤ M * 2 ^ (f + K).toNat := by rw [Nat.pow_add]; exact Nat.mul_le_mul_right _ b2
  have h3 : (2 : Nat) ^ (bitsN N + (e + K).toNat) ≤ 2 ^ (bitsN M - 1 + (f + K).toNat) := Nat.pow_le_pow_right (by decide) (by omega)
  exact Nat.lt_of_lt_of_le h1 (Nat.le_trans h3 h2)
theorem cmpN_val (s : Bool) (N : Nat) (e : Int) (s' : Bool) (M : Nat) (f K : Int) (he : 0 ≤ e + K) (hf : 0 ≤ f + K) : cmpN s N e s' M f = ordI (nv s N e K) (nv s' M f K) := by
  have g1 := signI_nv s N e K
  have g2 := signI_nv s' M f K
  obtain ⟨g3, g4⟩ := plusN_val s N e (!s') M f K he hf
  have g5 := signI_nv (plusN s N e (!s') M f).1 (plusN s N e (!s') M f).2.1 (plusN s N e (!s') M f).2.2 K
  rw [g4, nv_not] at g5
  unfold cmpN
  rw [g5]
  by_cases hab : signI s N = signI s' M
  · rw [if_neg (by omega), if_neg (by omega)]
    by_cases h0 : signI s N = 0
    · rw [if_pos h0]
      have hN : N = 0 := by
        unfold signI at h0; split at h0
        · assumption
        · split at h0 <;> omega
      have hM : M = 0 := by
        rw [h0] at hab; unfold signI at hab; split at hab
        · assumption
        · split at hab <;> omega
      rw [hN, hM, nv_zero, nv_zero]; rfl
    · rw [if_neg h0]
      have hN : N ≠ 0 := fun e => h0 (by unfold signI; rw [if_pos e])
      have hM : M ≠ 0 := fun e => h0 (by rw [hab]; unfold signI; rw [if_pos e])
      have hss : s = s' := by
        unfold signI at hab
        rw [if_neg hN, if_neg hM] at hab
        cases s <;> cases s' <;> simp_all
      subst hss
      have hs : signI s N = if s then -1 else 1 := by unfold signI; rw [if_neg hN]
      rw [hs]
      by_cases t1 : e + (bitsN N : Nat) < f + (bitsN M : Nat)
      · rw [if_pos t1]
        have := top_lt N M e f K hN hM he hf t1
        unfold ordI nv sz
        cases s
        · simp only [Bool.false_eq_true, if_false]; rw [if_pos (by omega)]
        · simp only [if_true]; rw [if_neg (by omega), if_neg (by omega)]; rfl
      · rw [if_neg t1]
        by_cases t2 : f + (bitsN M : Nat) < e + (bitsN N : Nat)
        · rw [if_pos t2]
          have := top_lt M N f e K hM hN hf he t2
          unfold ordI nv sz
          cases s
          · simp only [Bool.false_eq_true, if_false]; rw [if_neg (by omega), if_neg (by omega)]
          · simp only [if_true]; rw [if_pos (by omega)]
        · rw [if_neg t2]
          unfold ordI
          generalize nv s N e K = x
          generalize nv s M f K = y
          split <;> split <;> (try split) <;> (try split) <;> first | rfl | omega
  · rw [g1, g2] at hab ⊢
    unfold ordI at hab ⊢
    generalize nv s N e K = x at *
    generalize nv s' M f K = y at *
    split at hab <;> split at hab <;> (try split at hab) <;> (try split at hab) <;> simp_all <;> omega
end Nt
end Go.Proofs.Ytclnmheplecknaa

namespace Go.Proofs.Ytclnmheplecknaa
open Go.RowKit
theorem numWhole_any (x : Int) (w : World) (hx1 : -9223372036854775808 ≤ x) (hx2 : x ≤ 9223372036854775807) :
    Calls Try.prog 47 #[.int .i64 x] w fun r w' => ∃ v, r = .returned v ∧ NumV w' v (decide (x < 0)) x.natAbs 0 ∧ Below w.heap.size w w' := by
  obtain ⟨m, hm⟩ : ∃ m : Int, m = (x.natAbs : Int) := ⟨_, rfl⟩
  have HN := Lib.hid (fun w => natOf_int m w (by omega) (by omega))
  have hmt : m.toNat = x.natAbs := by omega
  rw [hmt] at HN
  unfold NatPost at HN
  unfold NumV
  obtain ⟨N, hN⟩ : ∃ N, N = x.natAbs := ⟨_, rfl⟩
  rw [← hN] at HN ⊢
  generalize (Nt.dg 18446744073709551616 N) = l at *
  generalize l.length = k at *
  obtain ⟨xv, hxv⟩ : ∃ xv : Int, xv = IntKind.u64.wrap x := ⟨_, rfl⟩
  have hxv2 := hxv.symm
  by_cases hneg : x < 0
  · have hd : decide (x < 0) = true := decide_eq_true hneg
    have hw : IntKind.u64.wrap (-xv) = m := by rw [hxv, IntKind.wrap_u64, IntKind.wrap_u64]; omega
    rw [hd]
    clear hm hmt hN hxv hx1 hx2
    go_enter Try.func47, Try.ntmps47
    go_wp2_with fail
    refine (HN.out _).mono ?_
    rintro e w1 ⟨A, c, rfl, hu, hb⟩
    obtain ⟨h0, h1, h2, hb1⟩ := new_cells w w1 _ _ _ _ hb
    have hst := num_store h0 h1 h2 hu (.bool true) (.slice A k c) (.int .i64 0)
    have HST := Lib.hid hst
    have hfr := fun j => (hb.frozen (p := ⟨w.heap.size, j, none⟩) (alloc_lt w _)).trans (show (w.alloc (.cells #[.bool false, .slice none 0 0, .int .i64 0] 65)).frozen? ⟨w.heap.size, j, none⟩ = false by simp)
    have hf0 := hfr 0
    have hf1 := hfr 1
    have hf2 := hfr 2
    have HB := Lib.hid hb1
    clear hb hu hst hfr hb1
    go_wp2
    refine bodyPost_ret (v := .agg #[.bool true, .slice A k c, .int .i64 0]) (by simp [results, Try.results47, go_sem, HST.out.2.2.1, HST.out.2.2.2.1, HST.out.2.2.2.2]) rfl ⟨_, rfl, ⟨A, c, rfl, HST.out.1⟩, HST.out.2.1 _ _ (Nat.le_refl _) HB.out⟩
  · have hd : decide (x < 0) = false := decide_eq_false hneg
    have hw : IntKind.u64.wrap x = m := by rw [IntKind.wrap_u64]; omega
    rw [hd]
    clear hm hmt hN hxv hx1 hx2 hxv2
    go_enter Try.func47, Try.ntmps47
    go_wp2_with fail
    refine (HN.out _).mono ?_
    rintro e w1 ⟨A, c, rfl, hu, hb⟩
    obtain ⟨h0, h1, h2, hb1⟩ := new_cells w w1 _ _ _ _ hb
    have hst := num_store h0 h1 h2 hu (.bool false) (.slice A k c) (.int .i64 0)
    have HST := Lib.hid hst
    have hfr := fun j => (hb.frozen (p := ⟨w.heap.size, j, none⟩) (alloc_lt w _)).trans (show (w.alloc (.cells #[.bool false, .slice none 0 0, .int .i64 0] 65)).frozen? ⟨w.heap.size, j, none⟩ = false by simp)
    have hf0 := hfr 0
    have hf1 := hfr 1
    have hf2 := hfr 2
    have HB := Lib.hid hb1
    clear hb hu hst hfr hb1
    go_wp2
    refine bodyPost_ret (v := .agg #[.bool false, .slice A k c, .int .i64 0]) (by simp [results, Try.results47, go_sem, HST.out.2.2.1, HST.out.2.2.2.1, HST.out.2.2.2.2]) rfl ⟨_, rfl, ⟨A, c, rfl, HST.out.1⟩, HST.out.2.1 _ _ (Nat.le_refl _) HB.out⟩
theorem scaled_any (v : Value) (s : Bool) (N : Nat) (e n : Int) (w : World) (hv : NumV w v s N e) (he1 : -1000000000 ≤ e) (he2 : e ≤ 1000000000) (hn1 : -1000000000 ≤ n) (hn2 : n ≤ 1000000000) :
    Calls Try.prog 46 #[v, .int .i64 n] w fun r w' => ∃ v', r = .returned v' ∧ NumV w' v' s N (e + n) ∧ Below w.heap.size w w' := by
  obtain ⟨A, c, rfl, hu⟩ := hv
  unfold NumV
  have HU := Lib.hid hu
  have hw : IntKind.i64.wrap (e + n) = e + n := by rw [IntKind.wrap_i64]; omega
  clear hu
  generalize (Nt.dg 18446744073709551616 N) = l at *
  generalize l.length = k at *
  go_enter Try.func46, Try.ntmps46
  go_wp2
  have HB := Lib.hid (((Below.refl w.heap.size w).alloc (Nat.le_refl _) (.cells #[.bool s, .slice A k c, .int .i64 e] 65)).alloc (Nat.le_of_lt (alloc_lt w _)) (.cells #[.bool s, .slice A k c, .int .i64 (e + n)] 65))
  refine bodyPost_ret (v := .agg #[.bool s, .slice A k c, .int .i64 (e + n)]) (by simp [results, Try.results46, go_sem]) rfl ⟨_, rfl, ⟨A, c, rfl, HU.out.below HB.out⟩, HB.out⟩
def Shape2 (w : World) (g : Nat) : Prop := g < w.heap.size ∧ (∀ j, w.frozen? ⟨g, j, none⟩ = false) ∧ ∃ s A n c, w.cell? ⟨g, 0, none⟩ = some (.bool s) ∧ w.cell? ⟨g, 1, none⟩ = some (.slice A n c)
theorem Shape2.below {w w' : World} {g : Nat} (h : Shape2 w g) (hb : Below w.heap.size w w') : Shape2 w' g := by
  obtain ⟨hg, hf, s, A, n, c, h0, h1⟩ := h
  exact ⟨Nat.lt_of_lt_of_le hg hb.size, fun j => (hb.frozen (p := ⟨g, j, none⟩) hg).trans (hf j), s, A, n, c, (hb.cell (p := ⟨g, 0, none⟩) hg).trans h0, (hb.cell (p := ⟨g, 1, none⟩) hg).trans h1⟩
/-- One number boxed, and a whole number's result. -/
def OneI (w0 : World) (g0 : Nat) (s0 : Bool) (A0 : Option Addr) (n0 c0 : Nat) (e0 : Int) (g2 : Nat) (w : World) : Prop :=
  (w.cell? ⟨g0, 0, none⟩ = some (.bool s0) ∧ w.cell? ⟨g0, 1, none⟩ = some (.slice A0 n0 c0) ∧ w.cell? ⟨g0, 2, none⟩ = some (.int .i64 e0)) ∧ Below w0.heap.size w0 w ∧ g0 < w.heap.size ∧ Shape2 w g2
section
variable {w0 : World} {g0 : Nat} {s0 : Bool} {A0 : Option Addr} {n0 c0 : Nat} {e0 : Int} {g2 : Nat} {w : World}
theorem OneI.go (h : OneI w0 g0 s0 A0 n0 c0 e0 g2 w) {w' : World} (hb : Below w.heap.size w w') : OneI w0 g0 s0 A0 n0 c0 e0 g2 w' := by
  obtain ⟨h1, h3, h4, h6⟩ := h
  exact ⟨Cells3.below h1 h4 hb, h3.trans (hb.mono h3.size), Nat.lt_of_lt_of_le h4 hb.size, h6.below hb⟩
theorem OneI.drew (h : OneI w0 g0 s0 A0 n0 c0 e0 g2 w) : OneI w0 g0 s0 A0 n0 c0 e0 g2 w.drew := h.go (Below.refl _ _).drew
theorem OneI.store (h : OneI w0 g0 s0 A0 n0 c0 e0 g2 w) (h02 : g2 ≠ g0) (hw : w0.heap.size ≤ g2) (b : Bool) (A : Option Addr) (n c : Nat) :
    OneI w0 g0 s0 A0 n0 c0 e0 g2 ((w.setCell ⟨g2, 0, none⟩ (.bool b)).setCell ⟨g2, 1, none⟩ (.slice A n c)) := by
  obtain ⟨h1, h3, h4, hg, hf, s, A', n', c', k0, k1⟩ := h
  have hz : ((w.setCell ⟨g2, 0, none⟩ (.bool b)).setCell ⟨g2, 1, none⟩ (.slice A n c)).heap.size = w.heap.size := by rw [size_setCell, size_setCell]
  obtain ⟨_, r2, r3, r4⟩ := int_store k0 k1 (.bool b) (.slice A n c)
  refine ⟨?_, r2 _ _ hw h3, by rw [hz]; exact h4, by rw [hz]; exact hg, fun j => by rw [World.frozen?_setCell, World.frozen?_setCell]; exact hf j, b, A, n, c, r3, r4⟩
  rw [setCell_block _ _ _ _ _ _ h02, setCell_block _ _ _ _ _ _ h02, setCell_block _ _ _ _ _ _ h02, setCell_block _ _ _ _ _ _ h02, setCell_block _ _ _ _ _ _ h02, setCell_block _ _ _ _ _ _ h02]
  exact h1
theorem OneI.out (h : OneI w0 g0 s0 A0 n0 c0 e0 g2 w) (hw : w0.heap.size ≤ g2) (v1 v2 : Value) :
    (∀ (A : Option Addr) (n c : Nat) (l : List Int), U w A n c l → U ((w.setCell ⟨g2, 0, none⟩ v1).setCell ⟨g2, 1, none⟩ v2) A n c l) ∧ Below w0.heap.size w0 ((w.setCell ⟨g2, 0, none⟩ v1).setCell ⟨g2, 1, none⟩ v2) ∧
    ((w.setCell ⟨g2, 0, none⟩ v1).setCell ⟨g2, 1, none⟩ v2).cell? ⟨g2, 0, none⟩ = some v1 ∧ ((w.setCell ⟨g2, 0, none⟩ v1).setCell ⟨g2, 1, none⟩ v2).cell? ⟨g2, 1, none⟩ = some v2 := by
  obtain ⟨h1, h3, h4, hg, _, s, A', n', c', k0, k1⟩ := h
  obtain ⟨r1, r2, r3⟩ := int_store k0 k1 v1 v2
  exact ⟨r1, r2 _ _ hw h3, r3⟩
end
theorem OneI.start (w : World) (s0 : Bool) (A0 : Option Addr) (n0 c0 : Nat) (e0 : Int) (t t' : TypeId) :
    OneI w w.heap.size s0 A0 n0 c0 e0 (w.heap.size + 1) ((w.alloc (.cells #[.bool s0, .slice A0 n0 c0, .int .i64 e0] t)).alloc (.cells #[.bool false, .slice none 0 0] t')) := by
  have z1 : (w.alloc (.cells #[.bool s0, .slice A0 n0 c0, .int .i64 e0] t)).heap.size = w.heap.size + 1 := by simp
  generalize h1 : w.alloc (.cells #[.bool s0, .slice A0 n0 c0, .int .i64 e0] t) = W1 at *
  obtain ⟨a0, a1, a2, ha⟩ := new_cells w W1 (.bool s0) (.slice A0 n0 c0) (.int .i64 e0) t (by rw [h1]; exact Below.refl _ _)
  have hc := Cell2.new W1 t'
  have hb := (Below.refl W1.heap.size W1).alloc (Nat.le_refl _) (.cells #[.bool false, .slice none 0 0] t')
  rw [z1] at hc
  obtain ⟨d0, d1, d2, d3⟩ := hc
  exact ⟨Cells3.below ⟨a0, a1, a2⟩ (by omega) hb, ha.trans (hb.mono ha.size), by omega, d3, d2, _, _, _, _, d0, d1⟩
theorem IntV.zero (w : World) : IntV w (.agg #[.bool false, .slice none 0 0]) false 0 := ⟨none, 0, by rw [Nt.dg_zero]; rfl, by rw [Nt.dg_zero]; exact ⟨rfl, Nat.le_refl _, fun _ => rfl, fun k x hk => by simp at hk⟩⟩
/-- What TellInt tells. -/
def TellPost (s : Bool) (N : Nat) (e : Int) (w : World) (r : Ending) (w' : World) : Prop := ∃ v ok, r = .returned (.tuple #[v, .bool ok]) ∧ Below w.heap.size w w' ∧
  ((N = 0 ∧ ok = true ∧ v = .agg #[.bool false, .slice none 0 0]) ∨ (N ≠ 0 ∧ e + (bitsN N : Nat) ≤ 262144 ∧ ok = true ∧ IntV w' v s (N * 2 ^ e.toNat)) ∨ (N ≠ 0 ∧ 262144 < e + (bitsN N : Nat) ∧ ok = false ∧ v = .agg #[.bool false, .slice none 0 0]))
set_option maxRecDepth 400000 in
set_option maxHeartbeats 4000000 in
theorem tellInt_any (v : Value) (s : Bool) (N : Nat) (e : Int) (w : World) (hv : NumV w v s N e) (hl : (Nt.dg 18446744073709551616 N).length ≤ 100000000) (he1 : 0 ≤ e) (he2 : e ≤ 1000000000) :
    Calls Try.prog 48 #[v] w (TellPost s N e w) := by
  have hz := fun x (hb : Below w.heap.size w x) => zero_any v s N e x (hv.below hb) hl
  have ht := fun x (hb : Below w.heap.size w x) => top_any v s N e x (hv.below hb) hl (by omega) he2
  obtain ⟨A, c, rfl, hu⟩ := hv
  obtain ⟨m, rfl⟩ : ∃ m : Nat, e = m := ⟨e.toNat, by omega⟩
  have hup := fun x (hb : Below w.heap.size w x) => natUp_any A _ c _ m x (hu.below hb) (by omega) (Nt.dig_dg 18446744073709551616 (by decide) N) (by omega)
  rw [Nt.val_dg _ (by decide)] at hup
  unfold NatPost at hup
  have HZ := Lib.hid hz
  have HT := Lib.hid ht
  have HUP := Lib.hid hup
  obtain ⟨B, hB⟩ : ∃ B : Int, B = (m : Int) + (bitsN N : Nat) := ⟨_, rfl⟩
  have HBB := Lib.hid hB
  rw [← hB] at HT
  obtain ⟨V, hV⟩ : ∃ V : Nat, V = N * 2 ^ m := ⟨_, rfl⟩
  rw [← hV] at HUP
  have HV := Lib.hid hV
  have hIV : IntV = fun w v s N => ∃ A c, v = .agg #[.bool s, .slice A (Nt.dg 18446744073709551616 N).length c] ∧ U w A (Nt.dg 18446744073709551616 N).length c (Nt.dg 18446744073709551616 N) := rfl
  have HIV := Lib.hid hIV
  clear hz ht hup hu hB hV hIV
  generalize (Nt.dg 18446744073709551616 N).length = n at *
  obtain ⟨lv, hlv⟩ : ∃ lv, lv = Nt.dg 18446744073709551616 V := ⟨_, rfl⟩
  rw [← hlv] at HUP
  obtain ⟨kv, hkv⟩ : ∃ kv, kv = lv.length := ⟨_, rfl⟩
  rw [← hkv] at HUP
  have HLV := Lib.hid hlv
  have HKV := Lib.hid hkv
  clear hlv hkv
  have hst := OneI.start w s A n c m 65 24
  go_enter Try.func48, Try.ntmps48
  go_wp2_with fail
  generalize (w.alloc (.cells #[.bool s, .slice A n c, .int .i64 m] 65)).alloc (.cells #[.bool false, .slice none 0 0] 24) = W at *
  have HS0 := Lib.hid hst
  obtain ⟨⟨p1, p2, p3⟩, _, p4, _⟩ := hst
  go_wp2_with fail
  refine (HZ.out _ HS0.out.2.1).mono ?_
  rintro r w1 ⟨rfl, hb1⟩
  have hs1 := HS0.out.go hb1
  have HS1 := Lib.hid hs1
  clear p1 p2 p3 p4 hb1
  obtain ⟨⟨p1, p2, p3⟩, _, p4, p5, p6, s7, A7, n7, c7, p7, p8⟩ := hs1
  have p60 := p6 0
  have p61 := p6 1
  clear p6
  by_cases hN : N = 0
  · have hd : decide (N = 0) = true := decide_eq_true hN
    rw [hd]
    have OUT := Lib.hid (HS1.out.out (by omega) (.bool false) (.slice none 0 0))
    have HN := Lib.hid hN
    clear hd hN
    go_wp2
    refine bodyPost_ret (v := .tuple #[.agg #[.bool false, .slice none 0 0], .bool true]) (by simp [results, Try.results48, go_sem, OUT.out.2.2.1, OUT.out.2.2.2]) rfl ?_
    exact ⟨_, true, rfl, OUT.out.2.1, .inl ⟨HN.out, rfl, rfl⟩⟩
  · have hd : decide (N = 0) = false := decide_eq_false hN
    rw [hd]
    have HN := Lib.hid hN
    clear hd hN
    go_wp2_with fail
    refine (HT.out _ HS1.out.2.1).mono ?_
    rintro r w2 ⟨rfl, hb2⟩
    have hs2 := HS1.out.go hb2
    have HS2 := Lib.hid hs2
    clear p1 p2 p3 p4 p5 p60 p61 p7 p8 hb2
    obtain ⟨⟨p1, p2, p3⟩, _, p4, p5, p6, s7, A7, n7, c7, p7, p8⟩ := hs2
    have p60 := p6 0
    have p61 := p6 1
    clear p6
    by_cases hB : 262144 < B
    · have OUT := Lib.hid (HS2.out.out (by omega) (.bool false) (.slice none 0 0))
      have HBG := Lib.hid hB
      go_wp2
      refine bodyPost_ret (v := .tuple #[.agg #[.bool false, .slice none 0 0], .bool false]) (by simp [results, Try.results48, go_sem, OUT.out.2.2.1, OUT.out.2.2.2]) rfl ?_
      exact ⟨_, false, rfl, OUT.out.2.1, .inr (.inr ⟨HN.out, by rw [← HBB.out]; exact HBG.out, rfl, rfl⟩)⟩
    · have HBG := Lib.hid hB
      clear p60 p61 p7 p8 p5
      go_wp2_with fail
      have HC : Hid (∀ x, OneI w w.heap.size s A n c m (w.heap.size + 1) x → Calls Try.prog 71 #[.slice A n c, .int .i64 m] x fun r w' => ∃ A3 c3, r = .returned (.slice A3 kv c3) ∧ U w' A3 kv c3 lv ∧ OneI w w.heap.size s A n c m (w.heap.size + 1) w') :=
        Lib.hid (fun x hx => (HUP.out x hx.2.1).mono fun r w' ⟨A3, c3, h1, h2, h3⟩ => ⟨A3, c3, h1, h2, hx.go h3⟩)
      have HS3 := Lib.hid HS2.out.drew
      have KEEP : Hid (∀ x, OneI w w.heap.size s A n c m (w.heap.size + 1) x → ∀ b A' n' c', OneI w w.heap.size s A n c m (w.heap.size + 1) ((x.setCell ⟨w.heap.size + 1, 0, none⟩ (.bool b)).setCell ⟨w.heap.size + 1, 1, none⟩ (.slice A' n' c'))) := Lib.hid (fun x hx b A' n' c' => OneI.store hx (by omega) (by omega) b A' n' c')
      go_region_held3 (fun x => (x.cell? ⟨w.heap.size, 0, none⟩ = some (.bool s) ∧ x.cell? ⟨w.heap.size, 1, none⟩ = some (.slice A n c) ∧ x.cell? ⟨w.heap.size, 2, none⟩ = some (.int .i64 m)) ∧ Below w.heap.size w x ∧ w.heap.size < x.heap.size ∧ Shape2 x (w.heap.size + 1)) ((first | assumption | exact HS3.out | exact KEEP.out _ (by assumption) _ _ _ _)) (first | (go_at_call 71; refine (HC.out _ ?_).mono ?_; (assumption); rintro r w' ⟨A3, c3, rfl, hu3, hS⟩; have hS2 := hS; obtain ⟨_, _, _, _, hfz, _, _, _, _, m0, m1⟩ := hS2; have z0 := hfz 0; have z1 := hfz 1; clear hfz))
      have OUT := Lib.hid (OneI.out (w := w') hS (by omega) (.bool s) (.slice A3 kv c3))
      have HU3 := Lib.hid hu3
      clear hS m0 m1 z0 z1 hu3 HC KEEP HS3 p1 p2 p3 p4
      go_wp2
      refine bodyPost_ret (v := .tuple #[.agg #[.bool s, .slice A3 kv c3], .bool true]) (by simp [results, Try.results48, go_sem, OUT.out.2.2.1, OUT.out.2.2.2]) rfl ?_
      refine ⟨_, true, rfl, OUT.out.2.1, .inr (.inl ⟨HN.out, by rw [← HBB.out]; have := HBG.out; omega, rfl, ?_⟩)⟩
      rw [Int.toNat_natCast, ← HV.out, HIV.out]
      exact ⟨A3, c3, by rw [← HLV.out, ← HKV.out], by rw [← HLV.out, ← HKV.out]; exact OUT.out.1 _ _ _ _ HU3.out⟩
end Go.Proofs.Ytclnmheplecknaa

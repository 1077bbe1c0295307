/-
  Walk of the reference's Nearest, of a number above 0.
  The walk of math's Ldexp on finite floats: the float times a power of two, rounded once.
  Walk: Num by value: Compare.
  Walk of the reference's Cut, of a number that is not below 0, downward.
-/
import Derived.Test.YtclnmheplecknaaW11
set_option linter.unusedVariables false
set_option linter.unusedSimpArgs false
namespace Go.Proofs.Ytclnmheplecknaa
open Go.RowKit
/-- One box and a result. -/
def One (w0 : World) (g0 : Nat) (s0 : Bool) (A0 : Option Addr) (n0 c0 : Nat) (e0 : Int) (g2 : Nat) (w : World) : Prop :=
  Cells3 w g0 s0 A0 n0 c0 e0 ∧ Below w0.heap.size w0 w ∧ g0 < w.heap.size ∧ Shape w g2
section
variable {w0 : World} {g0 : Nat} {s0 : Bool} {A0 : Option Addr} {n0 c0 : Nat} {e0 : Int} {g2 : Nat} {w : World}
theorem One.go (h : One w0 g0 s0 A0 n0 c0 e0 g2 w) {w' : World} (hb : Below w.heap.size w w') : One w0 g0 s0 A0 n0 c0 e0 g2 w' := by
  obtain ⟨h1, h2, h3, h4⟩ := h
  exact ⟨Cells3.below h1 h3 hb, h2.trans (hb.mono h2.size), Nat.lt_of_lt_of_le h3 hb.size, h4.below hb⟩
theorem One.out (h : One w0 g0 s0 A0 n0 c0 e0 g2 w) (hw : w0.heap.size ≤ g2) {A : Option Addr} {n c : Nat} {l : List Int} (hu : U w A n c l) (v1 v2 v3 : Value) :
    U (((w.setCell ⟨g2, 0, none⟩ v1).setCell ⟨g2, 1, none⟩ v2).setCell ⟨g2, 2, none⟩ v3) A n c l ∧ Below w0.heap.size w0 (((w.setCell ⟨g2, 0, none⟩ v1).setCell ⟨g2, 1, none⟩ v2).setCell ⟨g2, 2, none⟩ v3) ∧
    (((w.setCell ⟨g2, 0, none⟩ v1).setCell ⟨g2, 1, none⟩ v2).setCell ⟨g2, 2, none⟩ v3).cell? ⟨g2, 0, none⟩ = some v1 ∧ (((w.setCell ⟨g2, 0, none⟩ v1).setCell ⟨g2, 1, none⟩ v2).setCell ⟨g2, 2, none⟩ v3).cell? ⟨g2, 1, none⟩ = some v2 ∧ (((w.setCell ⟨g2, 0, none⟩ v1).setCell ⟨g2, 1, none⟩ v2).setCell ⟨g2, 2, none⟩ v3).cell? ⟨g2, 2, none⟩ = some v3 := by
  obtain ⟨h1, h2, h3, hg, _, s, A', n', c', e', k0, k1, k2⟩ := h
  obtain ⟨r1, r2, r3⟩ := num_store k0 k1 k2 hu v1 v2 v3
  exact ⟨r1, r2 _ _ hw h2, r3⟩
end
theorem One.start (w : World) (s0 : Bool) (A0 : Option Addr) (n0 c0 : Nat) (e0 : Int) (t : TypeId) :
    One w w.heap.size s0 A0 n0 c0 e0 (w.heap.size + 1) ((w.alloc (.cells #[.bool s0, .slice A0 n0 c0, .int .i64 e0] t)).alloc (.cells #[.bool false, .slice none 0 0, .int .i64 0] t)) := by
  have z1 : (w.alloc (.cells #[.bool s0, .slice A0 n0 c0, .int .i64 e0] t)).heap.size = w.heap.size + 1 := by simp
  generalize h1 : w.alloc (.cells #[.bool s0, .slice A0 n0 c0, .int .i64 e0] t) = W1 at *
  obtain ⟨a0, a1, a2, ha⟩ := new_cells w W1 (.bool s0) (.slice A0 n0 c0) (.int .i64 e0) t (by rw [h1]; exact Below.refl _ _)
  have z2 : (W1.alloc (.cells #[.bool false, .slice none 0 0, .int .i64 0] t)).heap.size = w.heap.size + 1 + 1 := by simp [z1]
  generalize h3 : W1.alloc (.cells #[.bool false, .slice none 0 0, .int .i64 0] t) = W3 at *
  obtain ⟨d0, d1, d2, hd⟩ := new_cells W1 W3 (.bool false) (.slice none 0 0) (.int .i64 0) t (by rw [h3]; exact Below.refl _ _)
  rw [z1] at d0 d1 d2
  have hfz : ∀ j, W3.frozen? ⟨w.heap.size + 1, j, none⟩ = false := fun j => by
    rw [← h3, ← z1]
    exact frozen_of_row _ _ _ _ _ (heap_alloc_new W1 _)
  have e1 : Cells3 W3 w.heap.size s0 A0 n0 c0 e0 := Cells3.below ⟨a0, a1, a2⟩ (by omega) hd
  exact ⟨e1, ha.trans (hd.mono ha.size), by omega, by omega, hfz, _, _, _, _, _, d0, d1, d2⟩
def cutN (N : Nat) (e last : Int) : Bool × Nat × Int := if N = 0 then (false, 0, 0) else if last ≤ e then (false, N, e) else (false, N / 2 ^ (last - e).toNat, last)
set_option maxRecDepth 400000 in
set_option maxHeartbeats 4000000 in
theorem cut_any (v : Value) (N : Nat) (e last : Int) (w : World) (hv : NumV w v false N e) (hl : (Nt.dg 18446744073709551616 N).length ≤ 50000000) (he1 : -100000000 ≤ e) (he2 : e ≤ 100000000) (hf1 : -100000000 ≤ last) (hf2 : last ≤ 100000000) :
    Calls Try.prog 161 #[v, .int .i64 last, .bool false] w (NumPost (cutN N e last) w) := by
  have hz := fun x (hb : Below w.heap.size w x) => zero_any v false N e x (hv.below hb) (by omega)
  obtain ⟨A, c, rfl, hu⟩ := hv
  obtain ⟨m, hm⟩ : ∃ m : Nat, m = (last - e).toNat := ⟨_, rfl⟩
  have hdn := fun x (hb : Below w.heap.size w x) => natDown_any A _ c _ m x (hu.below hb) (by omega) (Nt.dig_dg 18446744073709551616 (by decide) N) (by omega)
  rw [Nt.val_dg _ (by decide)] at hdn
  have HZ := Lib.hid hz
  have HDN := Lib.hid hdn
  have HU := Lib.hid hu
  clear hz hdn hu
  obtain ⟨l, hl2⟩ : ∃ l, l = Nt.dg 18446744073709551616 N := ⟨_, rfl⟩
  rw [← hl2] at HZ HDN HU
  have HLN := Lib.hid hl2
  clear hl2
  obtain ⟨n, hn⟩ : ∃ n, n = l.length := ⟨_, rfl⟩
  rw [← hn] at HZ HDN HU
  have HN := Lib.hid hn
  clear hn
  have hst := One.start w false A n c e 65
  rw [← HLN.out, ← HN.out]
  go_enter Try.func161, Try.ntmps161
  go_wp2_with fail
  generalize (w.alloc (.cells #[.bool false, .slice A n c, .int .i64 e] 65)).alloc (.cells #[.bool false, .slice none 0 0, .int .i64 0] 65) = W at *
  refine (HZ.out W hst.2.1).mono ?_
  rintro r w1 ⟨rfl, hb1⟩
  have ht1 := hst.go hb1
  have HT1 := Lib.hid ht1
  obtain ⟨⟨p1, p2, p3⟩, _, p4, hsh⟩ := ht1
  clear hb1 hst
  by_cases hN : N = 0
  · have dN : decide (N = 0) = true := decide_eq_true hN
    rw [dN]
    have hcut : cutN N e last = (false, 0, 0) := by unfold cutN; rw [if_pos hN]
    have HCUT := Lib.hid hcut
    obtain ⟨_, hfz, _, _, _, _, _, m0, m1, m2⟩ := hsh
    have z0 := hfz 0
    have z1 := hfz 1
    have z2 := hfz 2
    have OUT := Lib.hid (HT1.out.out (by omega) (A := none) (n := 0) (c := 0) (l := []) ⟨rfl, Nat.le_refl _, fun _ => rfl, fun k x hk => by simp at hk⟩ (.bool false) (.slice none 0 0) (.int .i64 0))
    clear hfz hcut hN dN HZ HDN
    go_wp2
    refine bodyPost_ret (v := .agg #[.bool false, .slice none 0 0, .int .i64 0]) (by simp [results, Try.results161, go_sem, OUT.out.2.2.1, OUT.out.2.2.2.1, OUT.out.2.2.2.2]) rfl ?_
    unfold NumPost
    rw [HCUT.out]
    exact ⟨_, rfl, ⟨none, 0, by simp [Nt.dg_zero], by simpa [Nt.dg_zero] using OUT.out.1⟩, OUT.out.2.1⟩
  · have dN : decide (N = 0) = false := decide_eq_false hN
    rw [dN]
    by_cases hle : last ≤ e
    · have hcut : cutN N e last = (false, N, e) := by unfold cutN; rw [if_neg hN, if_pos hle]
      have HCUT := Lib.hid hcut
      obtain ⟨_, hfz, _, _, _, _, _, m0, m1, m2⟩ := hsh
      have z0 := hfz 0
      have z1 := hfz 1
      have z2 := hfz 2
      have OUT := Lib.hid (HT1.out.out (by omega) (HU.out.below HT1.out.2.1) (.bool false) (.slice A n c) (.int .i64 e))
      clear hfz hcut hN dN HZ HDN
      go_wp2
      refine bodyPost_ret (v := .agg #[.bool false, .slice A n c, .int .i64 e]) (by simp [results, Try.results161, go_sem, OUT.out.2.2.1, OUT.out.2.2.2.1, OUT.out.2.2.2.2]) rfl ?_
      unfold NumPost
      rw [HCUT.out]
      exact ⟨_, rfl, ⟨A, c, by rw [← HLN.out, ← HN.out], by rw [← HLN.out, ← HN.out]; exact OUT.out.1⟩, OUT.out.2.1⟩
    · have hmi : (m : Int) = last - e := by omega
      rw [hmi] at HDN
      have hcut : cutN N e last = (false, N / 2 ^ m, last) := by unfold cutN; rw [if_neg hN, if_neg hle, hm]
      have HCUT := Lib.hid hcut
      have hw : IntKind.i64.wrap (last - e) = last - e := by rw [IntKind.wrap_i64]; omega
      clear hmi hm hsh hcut hN dN HZ
      obtain ⟨b, hb⟩ : ∃ b, b = decide (N % 2 ^ m ≠ 0) := ⟨_, rfl⟩
      obtain ⟨Q, hQ⟩ : ∃ Q, Q = N / 2 ^ m := ⟨_, rfl⟩
      rw [← hb, ← hQ] at HDN
      rw [← hQ] at HCUT
      clear hb hQ
      obtain ⟨y, hy⟩ : ∃ y, y = Nt.dg 18446744073709551616 Q := ⟨_, rfl⟩
      rw [← hy] at HDN
      have HY := Lib.hid hy
      obtain ⟨k, hk⟩ : ∃ k, k = y.length := ⟨_, rfl⟩
      rw [← hk] at HDN
      have HKY := Lib.hid hk
      clear hy hk
      go_wp2_with fail
      refine (HDN.out w1 HT1.out.2.1).mono ?_
      rintro r w2 ⟨A3, c3, rfl, hu3, hb3⟩
      have ht2 := HT1.out.go hb3
      have HT2 := Lib.hid ht2
      clear p1 p2 p3 p4 HT1 hb3
      obtain ⟨⟨p1, p2, p3⟩, _, p4, _, hfz, _, _, _, _, _, m0, m1, m2⟩ := ht2
      have z0 := hfz 0
      have z1 := hfz 1
      have z2 := hfz 2
      have OUT := Lib.hid (HT2.out.out (by omega) hu3 (.bool false) (.slice A3 k c3) (.int .i64 last))
      clear hfz hu3 HDN
      cases b
      all_goals
        go_wp2
        refine bodyPost_ret (v := .agg #[.bool false, .slice A3 k c3, .int .i64 last]) (by simp [results, Try.results161, go_sem, OUT.out.2.2.1, OUT.out.2.2.2.1, OUT.out.2.2.2.2]) rfl ?_
        unfold NumPost
        rw [HCUT.out]
        exact ⟨_, rfl, ⟨A3, c3, by rw [← HY.out, ← HKY.out], by rw [← HY.out, ← HKY.out]; exact OUT.out.1⟩, OUT.out.2.1⟩
end Go.Proofs.Ytclnmheplecknaa

namespace Go.Proofs.Ytclnmheplecknaa
open Go.RowKit

theorem ret_i {k : IntKind} {a b : Int} (h : a = b) : Ending.returned (.int k a) = .returned (.int k b) := by rw [h]
set_option maxRecDepth 400000 in
set_option maxHeartbeats 8000000 in
theorem compare_any (v : Value) (s : Bool) (N : Nat) (e : Int) (v' : Value) (s' : Bool) (M : Nat) (f : Int) (w : World) (hv : NumV w v s N e) (hv' : NumV w v' s' M f) (hl : (Nt.dg 18446744073709551616 N).length ≤ 50000000) (hl' : (Nt.dg 18446744073709551616 M).length ≤ 50000000)
    (hlt : (Nt.dg 18446744073709551616 (plusN s N e (!s') M f).2.1).length ≤ 100000000) (he1 : -100000000 ≤ e) (he2 : e ≤ 100000000) (hf1 : -100000000 ≤ f) (hf2 : f ≤ 100000000) :
    Calls Try.prog 158 #[v, v'] w fun r w' => r = .returned (.int .i64 (cmpN s N e s' M f)) ∧ Below w.heap.size w w' := by
  have hs1 := fun x (hb : Below w.heap.size w x) => sign_any v s N e x (hv.below hb) (by omega)
  have hs2 := fun x (hb : Below w.heap.size w x) => sign_any v' s' M f x (hv'.below hb) (by omega)
  have ht1 := fun x (hb : Below w.heap.size w x) => top_any v s N e x (hv.below hb) (by omega) (by omega) (by omega)
  have ht2 := fun x (hb : Below w.heap.size w x) => top_any v' s' M f x (hv'.below hb) (by omega) (by omega) (by omega)
  have hls := fun x (hb : Below w.heap.size w x) => less_any v s N e v' s' M f x (hv.below hb) (hv'.below hb) hl hl' he1 he2 hf1 hf2
  have hb1 := bitsN_len N
  have hb2 := bitsN_len M
  obtain ⟨T, hT⟩ : ∃ T, T = cmpN s N e s' M f := ⟨_, rfl⟩
  rw [← hT]
  unfold cmpN at hT
  obtain ⟨D, hD⟩ : ∃ D, D = plusN s N e (!s') M f := ⟨_, rfl⟩
  rw [← hD] at hls hlt hT
  have hsd := fun x u (hu : NumV x u D.1 D.2.1 D.2.2) => sign_any u D.1 D.2.1 D.2.2 x hu hlt
  clear hD
  have ha : -1 ≤ signI s N ∧ signI s N ≤ 1 := by unfold signI; split; omega; split <;> omega
  obtain ⟨A, c, rfl, hu⟩ := hv
  obtain ⟨A', c', rfl, hu'⟩ := hv'
  have HS1 := Lib.hid hs1
  have HS2 := Lib.hid hs2
  have HT1 := Lib.hid ht1
  have HT2 := Lib.hid ht2
  have HLS := Lib.hid hls
  have HSD := Lib.hid hsd
  clear hs1 hs2 ht1 ht2 hls hsd hu hu'
  generalize (Nt.dg 18446744073709551616 N).length = n at *
  generalize (Nt.dg 18446744073709551616 M).length = n' at *
  generalize signI s N = a at *
  generalize signI s' M = b at *
  generalize bitsN N = p at *
  generalize bitsN M = q at *
  obtain ⟨t1, ht1⟩ : ∃ t1, t1 = e + (p : Int) := ⟨_, rfl⟩
  obtain ⟨t2, ht2⟩ : ∃ t2, t2 = f + (q : Int) := ⟨_, rfl⟩
  rw [← ht1] at HT1 hT
  rw [← ht2] at HT2 hT
  have HTT := Lib.hid hT
  clear hT ht1 ht2
  have HC1 : Hid (∀ x, Pair w w.heap.size s A n c e (w.heap.size + 1) s' A' n' c' f x → Calls Try.prog 163 #[.agg #[.bool s, .slice A n c, .int .i64 e]] x fun r w' => r = .returned (.int .i64 a) ∧ Pair w w.heap.size s A n c e (w.heap.size + 1) s' A' n' c' f w') := Lib.hid (fun x hx => (HS1.out x hx.2.2.1).mono fun r w' ⟨h1, h2⟩ => ⟨h1, hx.go h2⟩)
  have HC2 : Hid (∀ x, Pair w w.heap.size s A n c e (w.heap.size + 1) s' A' n' c' f x → Calls Try.prog 163 #[.agg #[.bool s', .slice A' n' c', .int .i64 f]] x fun r w' => r = .returned (.int .i64 b) ∧ Pair w w.heap.size s A n c e (w.heap.size + 1) s' A' n' c' f w') := Lib.hid (fun x hx => (HS2.out x hx.2.2.1).mono fun r w' ⟨h1, h2⟩ => ⟨h1, hx.go h2⟩)
  have HC3 : Hid (∀ x, Pair w w.heap.size s A n c e (w.heap.size + 1) s' A' n' c' f x → Calls Try.prog 76 #[.agg #[.bool s, .slice A n c, .int .i64 e]] x fun r w' => r = .returned (.int .i64 t1) ∧ Pair w w.heap.size s A n c e (w.heap.size + 1) s' A' n' c' f w') := Lib.hid (fun x hx => (HT1.out x hx.2.2.1).mono fun r w' ⟨h1, h2⟩ => ⟨h1, hx.go h2⟩)
  have HC4 : Hid (∀ x, Pair w w.heap.size s A n c e (w.heap.size + 1) s' A' n' c' f x → Calls Try.prog 76 #[.agg #[.bool s', .slice A' n' c', .int .i64 f]] x fun r w' => r = .returned (.int .i64 t2) ∧ Pair w w.heap.size s A n c e (w.heap.size + 1) s' A' n' c' f w') := Lib.hid (fun x hx => (HT2.out x hx.2.2.1).mono fun r w' ⟨h1, h2⟩ => ⟨h1, hx.go h2⟩)
  have hst := Pair.start w s A n c e s' A' n' c' f 65
  go_enter Try.func158, Try.ntmps158
  go_wp2_with fail
  generalize (w.alloc (.cells #[.bool s, .slice A n c, .int .i64 e] 65)).alloc (.cells #[.bool s', .slice A' n' c', .int .i64 f] 65) = W at *
  have HP0 := Lib.hid hst.drew
  obtain ⟨⟨p1, p2, p3⟩, ⟨p4, p5, p6⟩, _, ⟨p7, p8⟩⟩ := hst
  go_region_held3 (fun x => (x.cell? ⟨w.heap.size, 0, none⟩ = some (.bool s) ∧ x.cell? ⟨w.heap.size, 1, none⟩ = some (.slice A n c) ∧ x.cell? ⟨w.heap.size, 2, none⟩ = some (.int .i64 e)) ∧ (x.cell? ⟨w.heap.size + 1, 0, none⟩ = some (.bool s') ∧ x.cell? ⟨w.heap.size + 1, 1, none⟩ = some (.slice A' n' c') ∧ x.cell? ⟨w.heap.size + 1, 2, none⟩ = some (.int .i64 f)) ∧ Below w.heap.size w x ∧ (w.heap.size < x.heap.size ∧ w.heap.size + 1 < x.heap.size)) ((first | assumption | exact HP0.out)) (first | (go_at_call 163; refine (HC1.out _ ?_).mono ?_; (assumption); rintro r w' ⟨rfl, hS⟩) | (go_at_call 163; refine (HC2.out _ ?_).mono ?_; (assumption); rintro r w' ⟨rfl, hS⟩))
  have HP1 := Lib.hid hS
  clear p1 p2 p3 p4 p5 p6 p7 p8 HP0 HC1 HC2 HS1 HS2 hS
  obtain ⟨wa, hwa⟩ : ∃ wa, wa = w' := ⟨_, rfl⟩
  rw [← hwa] at HP1 ⊢
  clear hwa
  obtain ⟨⟨p1, p2, p3⟩, ⟨p4, p5, p6⟩, _, ⟨p7, p8⟩⟩ := HP1.out
  have HB1 := Lib.hid HP1.out.2.2.1
  rcases Int.lt_trichotomy a b with hab | hab | hab
  · have hans : T = -1 := by rw [HTT.out, if_pos hab]
    have HANS := Lib.hid hans
    clear hans
    go_wp2
    go_ret
    exact ⟨ret_i HANS.out.symm, HB1.out⟩
  · subst hab
    by_cases ha0 : a = 0
    · have hans : T = 0 := by rw [HTT.out, if_neg (Int.lt_irrefl a), if_neg (Int.lt_irrefl a), if_pos ha0]
      have HANS := Lib.hid hans
      clear hans
      subst ha0
      go_wp2
      go_ret
      exact ⟨ret_i HANS.out.symm, HB1.out⟩
    · have haz : (a == 0) = false := by simpa using ha0
      have HA0 := Lib.hid ha0
      clear ha0
      have HP2 := Lib.hid HP1.out.drew
      go_wp2_with fail
      go_region_held3 (fun x => (x.cell? ⟨w.heap.size, 0, none⟩ = some (.bool s) ∧ x.cell? ⟨w.heap.size, 1, none⟩ = some (.slice A n c) ∧ x.cell? ⟨w.heap.size, 2, none⟩ = some (.int .i64 e)) ∧ (x.cell? ⟨w.heap.size + 1, 0, none⟩ = some (.bool s') ∧ x.cell? ⟨w.heap.size + 1, 1, none⟩ = some (.slice A' n' c') ∧ x.cell? ⟨w.heap.size + 1, 2, none⟩ = some (.int .i64 f)) ∧ Below w.heap.size w x ∧ (w.heap.size < x.heap.size ∧ w.heap.size + 1 < x.heap.size)) ((first | assumption | exact HP2.out)) (first | (go_at_call 76; refine (HC3.out _ ?_).mono ?_; (assumption); rintro r w' ⟨rfl, hS⟩) | (go_at_call 76; refine (HC4.out _ ?_).mono ?_; (assumption); rintro r w' ⟨rfl, hS⟩))
      have HP3 := Lib.hid hS
      clear p1 p2 p3 p4 p5 p6 p7 p8 HP1 HP2 HB1 hS
      obtain ⟨wb, hwb⟩ : ∃ wb, wb = w' := ⟨_, rfl⟩
      rw [← hwb] at HP3 ⊢
      clear hwb
      obtain ⟨⟨p1, p2, p3⟩, ⟨p4, p5, p6⟩, _, ⟨p7, p8⟩⟩ := HP3.out
      have HB3 := Lib.hid HP3.out.2.2.1
      have HTT2 : Hid (T = if t1 < t2 then -a else if t2 < t1 then a else signI D.1 D.2.1) := Lib.hid (by rw [HTT.out, if_neg (Int.lt_irrefl a), if_neg (Int.lt_irrefl a), if_neg HA0.out])
      by_cases h1 : t1 < t2
      · have hans : T = -a := by rw [HTT2.out, if_pos h1]
        have HANS := Lib.hid hans
        clear hans
        go_wp2
        go_ret
        exact ⟨ret_i HANS.out.symm, HB3.out⟩
      · have HP4 := Lib.hid HP3.out.drew
        go_wp2_with fail
        go_region_held3 (fun x => (x.cell? ⟨w.heap.size, 0, none⟩ = some (.bool s) ∧ x.cell? ⟨w.heap.size, 1, none⟩ = some (.slice A n c) ∧ x.cell? ⟨w.heap.size, 2, none⟩ = some (.int .i64 e)) ∧ (x.cell? ⟨w.heap.size + 1, 0, none⟩ = some (.bool s') ∧ x.cell? ⟨w.heap.size + 1, 1, none⟩ = some (.slice A' n' c') ∧ x.cell? ⟨w.heap.size + 1, 2, none⟩ = some (.int .i64 f)) ∧ Below w.heap.size w x ∧ (w.heap.size < x.heap.size ∧ w.heap.size + 1 < x.heap.size)) ((first | assumption | exact HP4.out)) (first | (go_at_call 76; refine (HC3.out _ ?_).mono ?_; (assumption); rintro r w' ⟨rfl, hS⟩) | (go_at_call 76; refine (HC4.out _ ?_).mono ?_; (assumption); rintro r w' ⟨rfl, hS⟩))
        have HP5 := Lib.hid hS
        clear p1 p2 p3 p4 p5 p6 p7 p8 HP3 HP4 HB3 hS
        obtain ⟨wc, hwc⟩ : ∃ wc, wc = w' := ⟨_, rfl⟩
        rw [← hwc] at HP5 ⊢
        clear hwc
        obtain ⟨⟨p1, p2, p3⟩, ⟨p4, p5, p6⟩, _, ⟨p7, p8⟩⟩ := HP5.out
        have HB5 := Lib.hid HP5.out.2.2.1
        by_cases h2 : t2 < t1
        · have hans : T = a := by rw [HTT2.out, if_neg (by omega), if_pos h2]
          have HANS := Lib.hid hans
          clear hans
          go_wp2
          go_ret
          exact ⟨ret_i HANS.out.symm, HB5.out⟩
        · have hans : T = signI D.1 D.2.1 := by rw [HTT2.out, if_neg (by omega), if_neg (by omega)]
          have HANS := Lib.hid hans
          clear hans
          go_wp2_with fail
          refine (HLS.out wc HB5.out).mono ?_
          rintro r w6 ⟨v6, rfl, hv6, hb6⟩
          have HV6 := Lib.hid hv6
          have HB6 := Lib.hid (HB5.out.trans (hb6.mono HB5.out.size))
          clear hv6 hb6 p1 p2 p3 p4 p5 p6 p7 p8
          go_wp2_with fail
          refine (HSD.out w6 v6 HV6.out).mono ?_
          rintro r w7 ⟨rfl, hb7⟩
          have HB7 := Lib.hid (HB6.out.trans (hb7.mono HB6.out.size))
          clear hb7
          go_wp2
          go_ret
          exact ⟨ret_i HANS.out.symm, HB7.out⟩
  · have hnl : ¬ a < b := by omega
    have hans : T = 1 := by rw [HTT.out, if_neg hnl, if_pos hab]
    have HANS := Lib.hid hans
    clear hans
    go_wp2
    go_ret
    exact ⟨ret_i HANS.out.symm, HB1.out⟩
end Go.Proofs.Ytclnmheplecknaa

namespace Go.Proofs.Ytclnmheplecknaa
open Go.RowKit

/-! ### the ends -/
theorem Fl.nearest_tiny (s : Bool) (m : Nat) (p : Int) (h : m < 2 * Fl.B) (hp : p + 1074 ≤ -54) : Ieee.double.nearest s m p = Fl.wd s 0 := by
  obtain ⟨r, h1, h2⟩ := Fl.nearest_word s m p
  have hr := h2 (-(p + 1074)).toNat m (by omega) (by rw [show (p + 1074 + ((-(p + 1074)).toNat : Nat)).toNat = 0 by omega]; simp)
  have h0 : Fl.Rnd m (-(p + 1074)).toNat 0 := by
    have hd : 2 ^ 54 ≤ 2 ^ (-(p + 1074)).toNat := Nat.pow_le_pow_right (by omega) (by omega)
    have e1 : Fl.rv (0 + 1) = 1 := by decide
    refine ⟨?_, fun _ => rfl, fun h => absurd h (by omega), fun h => absurd h (by omega)⟩
    rw [Fl.rv_zero, e1, Nat.zero_add, Nat.one_mul]
    rw [Fl.B_eq] at h
    omega
  rw [h1, hr.eq h0]; rfl
theorem Fl.pow_le {a b : Nat} (h : a ≤ b) : 2 ^ a ≤ 2 ^ b := Nat.pow_le_pow_right (by decide) h
theorem Fl.huge_exp (e : Nat) (p : Int) (he : e = 1074) (hp : 972 ≤ p) : e + 972 ≤ (p + 1074 + ((0 : Nat) : Int)).toNat := by omega
theorem Fl.huge_aux (b m u v : Nat) (h : b ≤ m) (hu : u ≤ v) : b * u * 2 ^ 0 * 2 ^ 0 ≤ m * v * 2 ^ 0 := by
  simp only [Nat.pow_zero, Nat.mul_one]; exact Nat.mul_le_mul h hu
theorem Fl.nearest_huge (s : Bool) (m : Nat) (p : Int) (h : Fl.B ≤ m) (hp : 972 ≤ p) : Ieee.double.nearest s m p = Fl.wd s Fl.I := by
  obtain ⟨r, h1, h2⟩ := Fl.nearest_word s m p
  have hr := h2 0 _ (by omega) rfl
  have hE := Fl.E_eq
  have hi := Fl.rv_of (Fl.E + 972) Fl.B (by unfold Fl.B; omega) (.inr (Nat.le_refl _))
  rw [show (Fl.E + 972) * Fl.B + Fl.B = Fl.I by rw [Fl.E_eq]; decide] at hi
  have hI := Fl.Rnd.exact Fl.I 0
  have hle : Fl.I ≤ r := by
    refine hI.mono hr ?_
    rw [hi]
    have ht : Fl.E + 972 ≤ (p + 1074 + ((0 : Nat) : Int)).toNat := Fl.huge_exp _ _ hE hp
    exact Fl.huge_aux Fl.B m _ _ h (Fl.pow_le ht)
  rw [h1, Nat.min_eq_right hle]

theorem inf_pos (w : World) : Calls Try.prog 112 #[.int .i64 1] w fun e w' => e = .returned (.float .f64 Fl.I) ∧ w = w' := by
  have hf := run_from
  go_enter Try.func112, Try.ntmps112
  go_wp2
  go_ret
  exact ⟨ret_fl (by decide), rfl⟩
theorem inf_neg (w : World) : Calls Try.prog 112 #[.int .i64 (-1)] w fun e w' => e = .returned (.float .f64 (Fl.W + Fl.I)) ∧ w = w' := by
  have hf := run_from
  go_enter Try.func112, Try.ntmps112
  go_wp2
  go_ret
  exact ⟨ret_fl (by decide), rfl⟩

section
variable (x : Nat) (k : Int) (w : World) (hx : x < 2 * Fl.W) (h0 : 0 < Fl.rg x) (hf : Fl.rg x < Fl.I) (p : Nat) (q f : Int)
    (hn : ∀ w, Calls Try.prog 109 #[.float .f64 x] w fun e w' => e = .returned (.tuple #[.float .f64 p, .int .i64 q]) ∧ w = w')
    (hk1 : -1000000 ≤ k) (hk2 : k ≤ 1000000) (hq1 : -52 ≤ q) (hq2 : q ≤ 0) (hf1 : 0 ≤ f) (hf2 : f ≤ 2047)
    (h1 : bits BinOp.and IntKind.i64 (wrap64 ((p : Int) / 4503599627370496)) 2047 = f)
include hx h0 hf hn hk1 hk2 hq1 hq2 hf1 hf2 h1
theorem ldexp_tiny (hE : k + q + (f - 1023) < -1075) (hp : p < 2 * Fl.W) :
    Calls Try.prog 78 #[.float .f64 x, .int .i64 k] w fun e w' => e = .returned (.float .f64 (Fl.wd (Fl.sg p) 0)) ∧ w = w' := by
  have hb := run_bits
  have hf' := run_from
  have o1 := ord0_not x hf (by omega)
  have o2 : decide (Fl.rg x = Fl.I) = false := decide_eq_false (by omega)
  have HN := Lib.hid hn
  have hle : Fl.rg x ≤ Fl.I := Nat.le_of_lt hf
  have c1 : (0 : Nat) < 2 * Fl.W := by decide
  clear hn
  go_enter Try.func78, Try.ntmps78
  go_wp2_with fail
  refine (isinf_any x _ hx).mono ?_
  rintro e w' ⟨rfl, rfl⟩
  go_wp2_with fail
  refine (isnan_no x _ hle).mono ?_
  rintro e w' ⟨rfl, rfl⟩
  go_wp2_with fail
  refine (HN.out _).mono ?_
  rintro e w' ⟨rfl, rfl⟩
  go_wp2_with fail
  refine (copysign_any 0 p _ c1 hp).mono ?_
  rintro e w' ⟨rfl, rfl⟩
  go_wp2
  go_ret
  exact ⟨rfl, rfl⟩
theorem ldexp_huge (hE : 1023 < k + q + (f - 1023)) (s : Bool) (hp : FloatKind.f64.format.order p 0 = some (if s then .lt else .gt)) :
    Calls Try.prog 78 #[.float .f64 x, .int .i64 k] w fun e w' => e = .returned (.float .f64 (Fl.wd s Fl.I)) ∧ w = w' := by
  have hb := run_bits
  have hf' := run_from
  have o1 := ord0_not x hf (by omega)
  have o2 : decide (Fl.rg x = Fl.I) = false := decide_eq_false (by omega)
  have HN := Lib.hid hn
  have hle : Fl.rg x ≤ Fl.I := Nat.le_of_lt hf
  clear hn
  cases s
  all_goals
    simp only [Bool.false_eq_true, if_false, if_true] at hp
    go_enter Try.func78, Try.ntmps78
    go_wp2_with fail
    refine (isinf_any x _ hx).mono ?_
    rintro e w' ⟨rfl, rfl⟩
    go_wp2_with fail
    refine (isnan_no x _ hle).mono ?_
    rintro e w' ⟨rfl, rfl⟩
    go_wp2_with fail
    refine (HN.out _).mono ?_
    rintro e w' ⟨rfl, rfl⟩
    go_wp2_with fail
    first
      | ((with_reducible refine (inf_pos _).mono ?_)
         rintro e w' ⟨rfl, rfl⟩
         go_wp2
         go_ret
         exact ⟨rfl, rfl⟩)
      | ((with_reducible refine (inf_neg _).mono ?_)
         rintro e w' ⟨rfl, rfl⟩
         go_wp2
         go_ret
         exact ⟨rfl, rfl⟩)
theorem ldexp_mid (hE1 : -1022 ≤ k + q + (f - 1023)) (hE2 : k + q + (f - 1023) ≤ 1023) (c z r : Nat)
    (h2 : bits BinOp.andNot IntKind.u64 (p : Int) 9218868437227405312 = (c : Int))
    (h3 : bits BinOp.or IntKind.u64 (c : Int) ((k + q + (f - 1023) + 1023) * 4503599627370496) = (z : Int))
    (h4 : ∀ w, (binOp .mul 71 (.float .f64 4607182418800017408) (.float .f64 z)).run Try.prog w = .ok (.float .f64 r) w) :
    Calls Try.prog 78 #[.float .f64 x, .int .i64 k] w fun e w' => e = .returned (.float .f64 r) ∧ w = w' := by
  have hb := run_bits
  have hf' := run_from
  have o1 := ord0_not x hf (by omega)
  have o2 : decide (Fl.rg x = Fl.I) = false := decide_eq_false (by omega)
  have HN := Lib.hid hn
  have hle : Fl.rg x ≤ Fl.I := Nat.le_of_lt hf
  clear hn
  go_enter Try.func78, Try.ntmps78
  go_wp2_with fail
  refine (isinf_any x _ hx).mono ?_
  rintro e w' ⟨rfl, rfl⟩
  go_wp2_with fail
  refine (isnan_no x _ hle).mono ?_
  rintro e w' ⟨rfl, rfl⟩
  go_wp2_with fail
  refine (HN.out _).mono ?_
  rintro e w' ⟨rfl, rfl⟩
  go_wp2
  go_ret
  exact ⟨rfl, rfl⟩
theorem ldexp_low (hE1 : -1075 ≤ k + q + (f - 1023)) (hE2 : k + q + (f - 1023) < -1022) (c z r : Nat)
    (h2 : bits BinOp.andNot IntKind.u64 (p : Int) 9218868437227405312 = (c : Int))
    (h3 : bits BinOp.or IntKind.u64 (c : Int) ((k + q + (f - 1023) + 53 + 1023) * 4503599627370496) = (z : Int))
    (h4 : ∀ w, (binOp .mul 71 (.float .f64 4368491638549381120) (.float .f64 z)).run Try.prog w = .ok (.float .f64 r) w) :
    Calls Try.prog 78 #[.float .f64 x, .int .i64 k] w fun e w' => e = .returned (.float .f64 r) ∧ w = w' := by
  have hb := run_bits
  have hf' := run_from
  have o1 := ord0_not x hf (by omega)
  have o2 : decide (Fl.rg x = Fl.I) = false := decide_eq_false (by omega)
  have HN := Lib.hid hn
  have hle : Fl.rg x ≤ Fl.I := Nat.le_of_lt hf
  clear hn
  go_enter Try.func78, Try.ntmps78
  go_wp2_with fail
  refine (isinf_any x _ hx).mono ?_
  rintro e w' ⟨rfl, rfl⟩
  go_wp2_with fail
  refine (isnan_no x _ hle).mono ?_
  rintro e w' ⟨rfl, rfl⟩
  go_wp2_with fail
  refine (HN.out _).mono ?_
  rintro e w' ⟨rfl, rfl⟩
  go_wp2
  go_ret
  exact ⟨rfl, rfl⟩
end

theorem Fl.key_pos_of (s : Bool) (r : Nat) (h0 : 0 < r) (h : r ≤ Fl.I) : FloatKind.f64.format.order (Fl.wd s r) 0 = some (if s then .lt else .gt) := by
  have hW : r < Fl.W := Nat.lt_of_le_of_lt h Fl.I_lt_W
  cases s
  · exact Fl.cmp0_gt _ (by rw [Fl.rg_wd _ _ hW]; exact h0) (by rw [Fl.rg_wd _ _ hW]; exact h) (Fl.sg_wd _ _ hW)
  · exact Fl.cmp0_lt _ (by rw [Fl.rg_wd _ _ hW]; exact h0) (by rw [Fl.rg_wd _ _ hW]; exact h) (Fl.sg_wd _ _ hW)
theorem Fl.low_mul (y : Nat) (h : Fl.rg y < Fl.I) : Ieee.double.mul 4368491638549381120 y = some (Ieee.double.nearest (Fl.sg y) (Fl.mant (Fl.rg y)) (Fl.pl y - 53)) := by
  have hc : Fl.rg 4368491638549381120 = 4368491638549381120 := by decide
  rw [Fl.mul_fin _ y (by rw [hc]; decide) h, show Fl.sg 4368491638549381120 = false from by decide, Bool.false_xor]
  have hp : Fl.pl 4368491638549381120 = -105 := by decide
  have hm : Fl.mant (Fl.rg 4368491638549381120) = 2 ^ 52 := by rw [hc]; decide
  rw [hp, hm]
  rw [Fl.nearest_congr (Fl.sg y) (2 ^ 52 * Fl.mant (Fl.rg y)) (Fl.mant (Fl.rg y)) (-105 + Fl.pl y) (Fl.pl y - 53) 0 52 (by rw [Nat.pow_zero, Nat.mul_one, Nat.mul_comm]) (by omega)]

theorem Fl.scl_nat (x : Nat) (h0 : 0 < Fl.rg x) (k : Int) (n : Nat) (h : Fl.nE (Fl.rg x) + k = n) (hn : n ≤ 2045) : Fl.scl x k = Fl.wd (Fl.sg x) (n * Fl.B + Fl.nM (Fl.rg x)) := by
  have := (Fl.scl_exact x h0 k (by rw [h]; exact Int.natCast_nonneg _) (by rw [h]; exact Int.ofNat_le.2 hn)).1
  rw [h, Int.toNat_natCast] at this
  exact this
theorem Fl.exp_le (r : Nat) (h : r < Fl.I) : r / Fl.B ≤ 2047 := by unfold Fl.B Fl.I at *; omega
/-- What the walk of Ldexp has in hand. -/
theorem Fl.ldexp_parts (x : Nat) (hx : x < 2 * Fl.W) (h0 : 0 < Fl.rg x) (hf : Fl.rg x < Fl.I) : ∃ r g M : Nat, Fl.nzW x = Fl.wd (Fl.sg x) r ∧ r < Fl.I ∧ r < Fl.W ∧ 0 < r ∧ g = r / Fl.B ∧ r % Fl.B = M - Fl.B ∧ M - Fl.B < Fl.B ∧ Fl.B ≤ M ∧ M < 2 * Fl.B ∧ M = Fl.nM (Fl.rg x) ∧ (g : Int) = Fl.nE (Fl.rg x) - Fl.nzP x + 1 ∧ (g : Int) ≤ 2047 := by
  obtain ⟨r, e1, e2, e3, e4, e5⟩ := Fl.nzW_facts x hx h0 hf
  obtain ⟨m1, m2⟩ := Fl.nM_range (Fl.rg x) h0
  obtain ⟨d1, d2⟩ := Fl.div_rung (Fl.nE (Fl.rg x) - Fl.nzP x).toNat (Fl.nM (Fl.rg x)) m1 m2
  rw [← e3] at d1 d2
  refine ⟨r, _, _, e1, e2, Nat.lt_trans e2 Fl.I_lt_W, ?_, rfl, d2, ?_, m1, m2, rfl, ?_⟩
  · rcases Nat.eq_zero_or_pos r with h | h
    · rw [h, Nat.zero_div] at d1; exact absurd d1 (by clear e1 e2 e3 m1 m2 d1 d2; omega)
    · exact h
  · generalize Fl.nM (Fl.rg x) = M at *
    generalize Fl.B = b at *
    clear d1 d2 e3
    omega
  · refine ⟨?_, ?_⟩
    · rw [d1]; clear e1 e2 e3 m1 m2 d1 d2; omega
    · have := Fl.exp_le r e2
      exact Int.ofNat_le.2 this
theorem Fl.reB (n b m : Nat) (h : b ≤ m) : (n + 1) * b + (m - b) = n * b + m := by rw [Nat.add_mul, Nat.one_mul]; omega
theorem Fl.rung_lt (n m : Nat) (hn : n ≤ 2045) (h : m < 2 * Fl.B) : n * Fl.B + m < Fl.I := by unfold Fl.B Fl.I at *; omega
theorem Fl.low_word (s : Bool) (n M : Nat) (hn : n ≤ 2045) (m1 : Fl.B ≤ M) (m2 : M < 2 * Fl.B) : Ieee.double.mul 4368491638549381120 (Fl.wd s (n * Fl.B + M)) = some (Ieee.double.nearest s M (-1074 + (n : Int) - 53)) := by
  have hyI := Fl.rung_lt n M hn m2
  have hyW := Nat.lt_trans hyI Fl.I_lt_W
  rw [Fl.low_mul _ (by rw [Fl.rg_wd _ _ hyW]; exact hyI)]
  unfold Fl.pl
  rw [Fl.rg_wd _ _ hyW, Fl.sg_wd _ _ hyW, Fl.ex_of n _ m2 (.inr m1), Fl.mant_of n _ m2 (.inr m1)]
theorem Fl.one_word (s : Bool) (n M : Nat) (hn : n ≤ 2045) (m2 : M < 2 * Fl.B) : Ieee.double.mul 4607182418800017408 (Fl.wd s (n * Fl.B + M)) = some (Fl.wd s (n * Fl.B + M)) := by
  have hyI := Fl.rung_lt n M hn m2
  have hyW := Nat.lt_trans hyI Fl.I_lt_W
  exact Fl.one_mul _ (Fl.wd_lt _ _ hyW) (by rw [Fl.rg_wd _ _ hyW]; exact hyI)

theorem ldexp_inner (x : Nat) (k : Int) (w : World) (hx : x < 2 * Fl.W) (h0 : 0 < Fl.rg x) (hf : Fl.rg x < Fl.I) (hk1 : -1000000 ≤ k) (hk2 : k ≤ 1000000) :
    Calls Try.prog 78 #[.float .f64 x, .int .i64 k] w fun e w' => e = .returned (.float .f64 (Fl.scl x k)) ∧ w = w' := by
  obtain ⟨r, g, M, e1, e2, hW, hr0, hg, d2, hm, m1, m2, hM, hd, b3⟩ := Fl.ldexp_parts x hx h0 hf
  have hr := Fl.nE_range (Fl.rg x) h0 hf
  have hn := fun w => normalize_fin x w hx h0 hf
  rw [e1] at hn
  have h1 := exp_i64 (Fl.sg x) r hW
  have h2 := clear_exp (Fl.sg x) r hW
  rw [d2] at h2
  rw [← hg] at h1
  have hz : Fl.nzP x = 0 ∨ Fl.nzP x = -52 := by unfold Fl.nzP; split <;> simp
  have hscl := Fl.scl_norm x h0 k
  rw [← hM] at hscl
  have hse := fun n hn' e he => set_exp (Fl.sg x) (M - Fl.B) (n + 1) hm hn' e he
  have hreB := fun n => Fl.reB n Fl.B M m1
  have hex := Fl.scl_nat x h0 k
  rw [← hM] at hex
  have HT := Fl.nearest_tiny (Fl.sg x) M (-1074 + k + Fl.nE (Fl.rg x)) m2
  have HH := Fl.nearest_huge (Fl.sg x) M (-1074 + k + Fl.nE (Fl.rg x)) m1
  have HL := fun n hn' => Fl.low_word (Fl.sg x) n M hn' m1 m2
  have HO := fun n hn' => Fl.one_word (Fl.sg x) n M hn' m2
  have hko := Fl.key_pos_of (Fl.sg x) r hr0 (Nat.le_of_lt e2)
  have hwl := Fl.wd_lt (Fl.sg x) r hW
  have hws := Fl.sg_wd (Fl.sg x) r hW
  clear m1 m2 hm d2 hg hM e1 e2 hW
  generalize Fl.nzP x = z at *
  have L1 := fun h1' h2' => ldexp_tiny x k w hx h0 hf _ z g hn hk1 hk2 h1' h2'
  have L2 := fun h1' h2' => ldexp_huge x k w hx h0 hf _ z g hn hk1 hk2 h1' h2'
  have L3 := fun h1' h2' => ldexp_mid x k w hx h0 hf _ z g hn hk1 hk2 h1' h2'
  have L4 := fun h1' h2' => ldexp_low x k w hx h0 hf _ z g hn hk1 hk2 h1' h2'
  generalize Fl.nE (Fl.rg x) = E at *
  have b1 : -52 ≤ z := by clear HT HH HL HO hex hse hreB; omega
  have b2 : z ≤ 0 := by clear HT HH HL HO hex hse hreB; omega
  have hsum : k + z + ((g : Int) - 1023) = k + E - 1022 := by clear HT HH HL HO hex hse hreB; omega
  by_cases c1 : k + E - 1022 < -1075
  · have := L1 b1 b2 (Int.natCast_nonneg _) b3 h1 (by rw [hsum]; exact c1) hwl
    rw [hws] at this
    rw [hscl, HT (by clear HT HH HL HO hex hse hreB L1 L2 L3 L4; omega)]
    exact this
  · by_cases c2 : 1023 < k + E - 1022
    · have := L2 b1 b2 (Int.natCast_nonneg _) b3 h1 (by rw [hsum]; exact c2) (Fl.sg x) hko
      rw [hscl, HH (by clear HT HH HL HO hex hse hreB L1 L2 L3 L4; omega)]
      exact this
    · by_cases c3 : k + E - 1022 < -1022
      · obtain ⟨n, hn'⟩ := Int.eq_ofNat_of_zero_le (show 0 ≤ k + E + 53 by clear HT HH HL HO hex hse hreB L1 L2 L3 L4; omega)
        have hn2 : n ≤ 2045 := by clear HT HH HL HO hex hse hreB L1 L2 L3 L4; omega
        have h3 := hse n (by omega) (k + z + ((g : Int) - 1023) + 53 + 1023) (by rw [hsum]; clear HT HH HL HO hex hse hreB L1 L2 L3 L4; omega)
        rw [hreB] at h3
        have hmul := HL n hn2
        rw [show -1074 + (n : Int) - 53 = -1074 + k + E by rw [← hn']; clear HT HH HL HO hex hse hreB L1 L2 L3 L4; omega, ← hscl] at hmul
        exact L4 b1 b2 (Int.natCast_nonneg _) b3 h1 (by rw [hsum]; exact Int.not_lt.1 c1) (by rw [hsum]; exact c3) _ _ _ h2 h3 (fun w => run_float_arith w .mul _ .f64 _ _ _ hmul)
      · obtain ⟨n, hn'⟩ := Int.eq_ofNat_of_zero_le (show 0 ≤ k + E by clear HT HH HL HO hex hse hreB L1 L2 L3 L4; omega)
        have hn2 : n ≤ 2045 := by clear HT HH HL HO hex hse hreB L1 L2 L3 L4; omega
        have h3 := hse n (by omega) (k + z + ((g : Int) - 1023) + 1023) (by rw [hsum]; clear HT HH HL HO hex hse hreB L1 L2 L3 L4; omega)
        rw [hreB] at h3
        have hmul := HO n hn2
        have a1 := hex n (by clear HT HH HL HO hex hse hreB L1 L2 L3 L4; omega) hn2
        refine (L3 b1 b2 (Int.natCast_nonneg _) b3 h1 (by rw [hsum]; exact Int.not_lt.1 c3) (by rw [hsum]; exact Int.not_lt.1 c2) _ _ _ h2 h3 (fun w => run_float_arith w .mul _ .f64 _ _ _ hmul)).mono ?_
        rintro e w' ⟨q1, q2⟩
        exact ⟨q1.trans (ret_fl a1.symm), q2⟩
/-- Ldexp of a finite float that is not 0. -/
theorem ldexp_fin (x : Nat) (k : Int) (w : World) (hx : x < 2 * Fl.W) (h0 : 0 < Fl.rg x) (hf : Fl.rg x < Fl.I) (hk1 : -1000000 ≤ k) (hk2 : k ≤ 1000000) :
    Calls Try.prog 51 #[.float .f64 x, .int .i64 k] w fun e w' => e = .returned (.float .f64 (Fl.scl x k)) ∧ w = w' := by
  have main := fun w => ldexp_inner x k w hx h0 hf hk1 hk2
  have HM := Lib.hid main
  clear main h0 hf hk1 hk2
  go_enter Try.func51, Try.ntmps51
  go_wp2_with fail
  refine (HM.out _).mono ?_
  rintro e w' ⟨rfl, rfl⟩
  go_wp2
  go_ret
  exact ⟨rfl, rfl⟩
theorem ldexp_zero (x : Nat) (k : Int) (w : World) (h0 : Fl.rg x = 0) :
    Calls Try.prog 51 #[.float .f64 x, .int .i64 k] w fun e w' => e = .returned (.float .f64 x) ∧ w = w' := by
  have h1 := Fl.cmp0_eq x h0
  clear h0
  go_enter Try.func51, Try.ntmps51
  go_wp2
  go_ret
  exact ⟨rfl, rfl⟩
end Go.Proofs.Ytclnmheplecknaa

namespace Go.Proofs.Ytclnmheplecknaa
open Go.RowKit
/-- A number's box. -/
def Bx (w0 : World) (g0 : Nat) (s0 : Bool) (A0 : Option Addr) (n0 c0 : Nat) (e0 : Int) (w : World) : Prop := Cells3 w g0 s0 A0 n0 c0 e0 ∧ Below w0.heap.size w0 w ∧ g0 < w.heap.size
theorem Bx.go {w0 : World} {g0 : Nat} {s0 : Bool} {A0 : Option Addr} {n0 c0 : Nat} {e0 : Int} {w : World} (h : Bx w0 g0 s0 A0 n0 c0 e0 w) {w' : World} (hb : Below w.heap.size w w') : Bx w0 g0 s0 A0 n0 c0 e0 w' :=
  ⟨Cells3.below h.1 h.2.2 hb, h.2.1.trans (hb.mono h.2.1.size), Nat.lt_of_lt_of_le h.2.2 hb.size⟩
theorem int_word (n : Nat) (hn : n ≤ 9007199254740992) : floatOfInt .f64 ((n : Nat) : Int) < 2 * Fl.W ∧ Fl.rg (floatOfInt .f64 ((n : Nat) : Int)) < Fl.I ∧ Fl.rg (floatOfInt .f64 ((n : Nat) : Int)) = Fl.rr (n * Fl.U) ∧ (n ≠ 0 → 0 < Fl.rg (floatOfInt .f64 ((n : Nat) : Int))) := by
  have e : floatOfInt .f64 ((n : Nat) : Int) = Fl.rnd false (n * Fl.U) := Fl.ofInt_sgi false n
  obtain ⟨h1, h2⟩ := Fl.whole_rr n hn
  rw [e, Fl.rg_rnd]
  exact ⟨Fl.rnd_lt _ _, h2, rfl, fun h0 => Fl.rr_pos _ (Nat.mul_pos (Nat.pos_of_ne_zero h0) Fl.U_pos)⟩
/-- The float of a whole number of some place. -/
def fL (n : Nat) (last : Int) : Nat := if n = 0 then floatOfInt .f64 ((n : Nat) : Int) else Fl.scl (floatOfInt .f64 ((n : Nat) : Int)) last
def lastN (N : Nat) (e : Int) : Int := max (e + (bitsN N : Nat) - 53) (-1074)
def lowN (N : Nat) (e last : Int) : Nat := (cutN N e last).2.1 * 2 ^ ((cutN N e last).2.2 - last).toNat
def restN (N : Nat) (e last : Int) : Bool × Nat × Int := plusN false N e true (cutN N e last).2.1 (cutN N e last).2.2
def halfN (N : Nat) (e last : Int) : Int := cmpN (restN N e last).1 (restN N e last).2.1 (restN N e last).2.2 false 1 (last - 1)
def nearN (n0 : Nat) (T : Int) : Nat := if 0 < T ∨ (T = 0 ∧ n0 % 2 = 1) then n0 + 1 else n0
theorem hfi2 (n0 : Nat) (T last : Int) (h : ∀ n : Nat, n ≤ 9007199254740992 → ∀ x, Calls Try.prog 51 #[.float .f64 (floatOfInt .f64 ((n : Nat) : Int)), .int .i64 last] x fun r w' => r = .returned (.float .f64 (fL n last)) ∧ x = w') (hn : n0 < 9007199254740992) :
    ∀ x, Calls Try.prog 51 #[.float .f64 (floatOfInt .f64 ((nearN n0 T : Nat) : Int)), .int .i64 last] x fun r w' => r = .returned (.float .f64 (fL (nearN n0 T) last)) ∧ x = w' :=
  h _ (by unfold nearN; split <;> omega)
set_option maxRecDepth 400000 in
set_option maxHeartbeats 8000000 in
theorem nearest_go (v : Value) (N : Nat) (e last : Int) (M : Nat) (f : Int) (D1 : Bool) (D2 : Nat) (D3 : Int) (T : Int) (n0 : Nat) (w : World) (hv : NumV w v false N e) (hN : N ≠ 0) (hl : (Nt.dg 18446744073709551616 N).length ≤ 1000) (he1 : -5000 ≤ e) (he2 : e ≤ 5000)
    (hlast : last = max (e + (bitsN N : Nat) - 53) (-1074)) (hl2 : last ≤ 100000) (hcut : cutN N e last = (false, M, f)) (hMl : (Nt.dg 18446744073709551616 M).length ≤ 1000) (hf1 : last ≤ f) (hf2 : f ≤ 100000) (hn0 : n0 = M * 2 ^ (f - last).toNat) (hn53 : n0 < 9007199254740992)
    (hD : plusN false N e true M f = (D1, D2, D3)) (hDl : (Nt.dg 18446744073709551616 D2).length ≤ 10000) (hDe1 : -100000 ≤ D3) (hDe2 : D3 ≤ 100000) (hDl2 : (Nt.dg 18446744073709551616 (plusN D1 D2 D3 true 1 (last - 1)).2.1).length ≤ 100000000) (hT : T = cmpN D1 D2 D3 false 1 (last - 1)) :
    Calls Try.prog 157 #[v] w fun r w' => r = .returned (.float .f64 (fL (nearN n0 T) last)) ∧ Below w.heap.size w w' := by
  have hl1 : -1074 ≤ last := by omega
  have HZ := Lib.hid (fun x (hb : Below w.heap.size w x) => zero_any v false N e x (hv.below hb) (by omega))
  have HTOP := Lib.hid (fun x (hb : Below w.heap.size w x) => top_any v false N e x (hv.below hb) (by omega) (by omega) (by omega))
  have hcu := fun x u (hu : NumV x u false N e) => cut_any u N e last x hu (by omega) (by omega) (by omega) (by omega) (by omega)
  rw [hcut] at hcu
  have HCUT := Lib.hid hcu
  have HZL := Lib.hid (fun x u (hu : NumV x u false M f) => zero_any u false M f x hu (by omega))
  have hup := fun x (A : Option Addr) (c : Nat) (hu : U x A (Nt.dg 18446744073709551616 M).length c (Nt.dg 18446744073709551616 M)) => natUp_any A _ c _ (f - last).toNat x hu (by omega) (Nt.dig_dg 18446744073709551616 (by decide) M) (by omega)
  rw [Nt.val_dg _ (by decide), ← hn0, Int.toNat_of_nonneg (by omega)] at hup
  have HUP := Lib.hid hup
  have hls := fun x u v' (hu : NumV x u false N e) (hv' : NumV x v' false M f) => less_any u false N e v' false M f x hu hv' (by omega) (by omega) (by omega) (by omega) (by omega) (by omega)
  rw [show (!false) = true from rfl, hD] at hls
  unfold NumPost at hls
  dsimp only at hls
  have HLS := Lib.hid hls
  have h1l : (Nt.dg 18446744073709551616 1).length ≤ 1 := Nt.dg_len _ (by decide) 1 1 (by decide)
  have hcm := fun x u v' (hu : NumV x u D1 D2 D3) (hv' : NumV x v' false 1 (last - 1)) => compare_any u D1 D2 D3 v' false 1 (last - 1) x hu hv' (by omega) (by omega) hDl2 (by omega) (by omega) (by omega) (by omega)
  rw [← hT] at hcm
  have HCM := Lib.hid hcm
  have HON := Lib.hid (fun x => natOf_any 1 x (by decide))
  have HFI : Hid (∀ n : Nat, n ≤ 9007199254740992 → ∀ x, Calls Try.prog 51 #[.float .f64 (floatOfInt .f64 ((n : Nat) : Int)), .int .i64 last] x fun r w' => r = .returned (.float .f64 (fL n last)) ∧ x = w') := Lib.hid (fun n hn x => by
    unfold fL
    have hs := int_word n hn
    by_cases h0 : n = 0
    · rw [if_pos h0]
      exact ldexp_zero _ _ x (by rw [h0]; decide)
    · rw [if_neg h0]
      exact ldexp_fin _ last x hs.1 (hs.2.2.2 h0) hs.2.1 (by omega) (by omega))
  obtain ⟨A, c, rfl, hu⟩ := hv
  have HU := Lib.hid hu
  obtain ⟨l, hl9⟩ : ∃ l, l = Nt.dg 18446744073709551616 N := ⟨_, rfl⟩
  rw [← hl9] at HZ HTOP HU ⊢
  have HLN := Lib.hid hl9
  obtain ⟨n, hn⟩ : ∃ n, n = l.length := ⟨_, rfl⟩
  rw [← hn] at HZ HTOP HU ⊢
  have HN := Lib.hid hn
  have NVX : Hid (∀ x, Below w.heap.size w x → NumV x (.agg #[.bool false, .slice A n c, .int .i64 e]) false N e) := Lib.hid (fun x hb => ⟨A, c, by rw [HN.out, HLN.out], by rw [← HLN.out, ← HN.out]; exact HU.out.below hb⟩)
  obtain ⟨lm, hlm⟩ : ∃ lm, lm = Nt.dg 18446744073709551616 M := ⟨_, rfl⟩
  rw [← hlm] at HUP
  have HLM := Lib.hid hlm
  obtain ⟨m, hm⟩ : ∃ m, m = lm.length := ⟨_, rfl⟩
  rw [← hm] at HUP
  have HM := Lib.hid hm
  obtain ⟨ld, hld⟩ : ∃ ld, ld = Nt.dg 18446744073709551616 D2 := ⟨_, rfl⟩
  have HLD := Lib.hid hld
  obtain ⟨d, hd⟩ : ∃ d, d = ld.length := ⟨_, rfl⟩
  have HDD := Lib.hid hd
  obtain ⟨lo, hlo⟩ : ∃ lo, lo = Nt.dg 18446744073709551616 1 := ⟨_, rfl⟩
  have HLO := Lib.hid hlo
  obtain ⟨o, ho⟩ : ∃ o, o = lo.length := ⟨_, rfl⟩
  have HO := Lib.hid ho
  have hz9 : M = 0 ↔ n0 = 0 := by
    rw [hn0]
    constructor
    · intro h; rw [h, Nat.zero_mul]
    · intro h
      rcases Nat.mul_eq_zero.1 h with h | h
      · exact h
      · have := Nat.two_pow_pos (f - last).toNat; omega
  have HZ9 := Lib.hid hz9
  have HFM : Hid (((f - last).toNat : Int) = f - last) := Lib.hid (by omega)
  have hwr : IntKind.i64.wrap (f - last) = f - last := by rw [IntKind.wrap_i64]; omega
  have hwr2 : IntKind.i64.wrap (last - 1) = last - 1 := by rw [IntKind.wrap_i64]; omega
  obtain ⟨tp, htp⟩ : ∃ tp, tp = e + (bitsN N : Nat) := ⟨_, rfl⟩
  rw [← htp] at HTOP hlast
  have hwr3 : IntKind.i64.wrap (tp - 53) = tp - 53 := by rw [IntKind.wrap_i64]; have := bitsN_len N; omega
  have dN : decide (N = 0) = false := decide_eq_false hN
  rw [dN] at HZ
  have hcase : (tp - 53 < -1074 ∧ last = -1074) ∨ (¬ tp - 53 < -1074 ∧ last = tp - 53) := by omega
  have HCASE := Lib.hid hcase
  clear hcase hlast
  clear hu hl9 hn hlm hm hld hd hlo ho hz9 htp hcut hcu hup hls hcm hn0 hD hT dN hl hMl hDl hDl2 h1l
  obtain ⟨k0, k1, k2, hbw⟩ := new_cells w (w.alloc (.cells #[.bool false, .slice A n c, .int .i64 e] 65)) (.bool false) (.slice A n c) (.int .i64 e) 65 (Below.refl _ _)
  have hbx : Bx w w.heap.size false A n c e (w.alloc (.cells #[.bool false, .slice A n c, .int .i64 e] 65)) := ⟨⟨k0, k1, k2⟩, hbw, alloc_lt w _⟩
  clear k0 k1 k2 hbw
  go_enter Try.func157, Try.ntmps157
  go_wp2_with fail
  generalize w.alloc (.cells #[.bool false, .slice A n c, .int .i64 e] 65) = W at *
  refine (HZ.out W hbx.2.1).mono ?_
  rintro r w1 ⟨rfl, hb1⟩
  have HX1 := Lib.hid (hbx.go hb1)
  clear hb1 hbx HZ
  obtain ⟨⟨p1, p2, p3⟩, _, p4⟩ := HX1.out
  go_wp2_with fail
  refine (HTOP.out w1 HX1.out.2.1).mono ?_
  rintro r w2 ⟨rfl, hb2⟩
  have HX2 := Lib.hid (HX1.out.go hb2)
  clear hb2 HTOP HX1 p1 p2 p3 p4
  obtain ⟨⟨p1, p2, p3⟩, _, p4⟩ := HX2.out
  rcases HCASE.out with ⟨hc, hq⟩ | ⟨hc, hq⟩
  all_goals
    have HQ := Lib.hid hq
    clear hq
    go_wp2_with fail
    rw [← HQ.out]
    refine (HCUT.out w2 _ (NVX.out w2 HX2.out.2.1)).mono ?_
    rintro r w3 ⟨vl, rfl, hvl, hb3⟩
    have HX3 := Lib.hid (HX2.out.go hb3)
    clear hb3 HCUT HX2 p1 p2 p3 p4 hc hwr3
    obtain ⟨A1, c1, rfl, hu1⟩ := hvl
    replace hu1 : U w3 A1 (Nt.dg 18446744073709551616 M).length c1 (Nt.dg 18446744073709551616 M) := hu1
    rw [← HLM.out, ← HM.out] at hu1
    have NVL : Hid (∀ x, Below w3.heap.size w3 x → NumV x (.agg #[.bool false, .slice A1 m c1, .int .i64 f]) false M f) := Lib.hid (fun x hb => ⟨A1, c1, by rw [HM.out, HLM.out], by rw [← HLM.out, ← HM.out]; exact hu1.below hb⟩)
    have HUL := Lib.hid hu1
    clear hu1
    rw [show (Nt.dg 18446744073709551616 (false, M, f).2.1).length = m from by rw [HM.out, HLM.out]]
    obtain ⟨k0, k1, k2, hbw⟩ := new_cells w3 (w3.alloc (.cells #[.bool false, .slice A1 m c1, .int .i64 f] 65)) (.bool false) (.slice A1 m c1) (.int .i64 f) 65 (Below.refl _ _)
    have hbl : Bx w3 w3.heap.size false A1 m c1 f (w3.alloc (.cells #[.bool false, .slice A1 m c1, .int .i64 f] 65)) := ⟨⟨k0, k1, k2⟩, hbw, alloc_lt w3 _⟩
    have hbx := HX3.out.go hbw
    clear k0 k1 k2 hbw
    go_wp2_with fail
    generalize w3.alloc (.cells #[.bool false, .slice A1 m c1, .int .i64 f] 65) = W4 at *
    refine (HZL.out W4 _ (NVL.out W4 hbl.2.1)).mono ?_
    rintro r w4 ⟨rfl, hb4⟩
    have HX4 := Lib.hid (hbx.go hb4)
    have HL4 := Lib.hid (hbl.go hb4)
    clear hb4 hbx hbl HX3
    obtain ⟨⟨p1, p2, p3⟩, _, p4⟩ := HX4.out
    obtain ⟨⟨p5, p6, p7⟩, _, p8⟩ := HL4.out
    have S1 := Lib.hid HL4.out.2.1
    by_cases hM0 : M = 0
    · have hn0 : n0 = 0 := HZ9.out.1 hM0
      rw [show decide (M = 0) = true from decide_eq_true hM0]
      have HFI2 := Lib.hid (hfi2 n0 T last HFI.out (by omega))
      subst hn0
      clear hM0
      have HXZ := HX4
      have SZ := S1
      go_wp2_with fail
      refine (HLS.out w4 _ _ (NVX.out w4 HXZ.out.2.1) (NVL.out w4 SZ.out)).mono ?_
      rintro r w6 ⟨vr, rfl, hvr, hb6⟩
      have HX6 := Lib.hid (HXZ.out.go hb6)
      clear hb6 HLS
      obtain ⟨A2, c2, rfl, hu2⟩ := hvr
      rw [← HLD.out, ← HDD.out] at hu2 ⊢
      have NVR : Hid (∀ x, Below w6.heap.size w6 x → NumV x (.agg #[.bool D1, .slice A2 d c2, .int .i64 D3]) D1 D2 D3) := Lib.hid (fun x hb => ⟨A2, c2, by rw [HDD.out, HLD.out], by rw [← HLD.out, ← HDD.out]; exact hu2.below hb⟩)
      clear hu2
      obtain ⟨k0, k1, k2, hbw⟩ := new_cells w6 (w6.alloc (.cells #[.bool D1, .slice A2 d c2, .int .i64 D3] 65)) (.bool D1) (.slice A2 d c2) (.int .i64 D3) 65 (Below.refl _ _)
      have hbr : Bx w6 w6.heap.size D1 A2 d c2 D3 (w6.alloc (.cells #[.bool D1, .slice A2 d c2, .int .i64 D3] 65)) := ⟨⟨k0, k1, k2⟩, hbw, alloc_lt w6 _⟩
      have hbx := HX6.out.go hbw
      clear k0 k1 k2 hbw
      go_wp2_with fail
      generalize w6.alloc (.cells #[.bool D1, .slice A2 d c2, .int .i64 D3] 65) = W7 at *
      have HS0 : Hid (Bx w6 w6.heap.size D1 A2 d c2 D3 W7.drew ∧ Bx w w.heap.size false A n c e W7.drew) := Lib.hid ⟨hbr.go (Below.refl _ _).drew, hbx.go (Below.refl _ _).drew⟩
      have HC1 : Hid (∀ x, (Bx w6 w6.heap.size D1 A2 d c2 D3 x ∧ Bx w w.heap.size false A n c e x) → Calls Try.prog 75 #[.int .u64 1] x fun r w' => ∃ A3 c3, r = .returned (.slice A3 o c3) ∧ U w' A3 o c3 lo ∧ (Bx w6 w6.heap.size D1 A2 d c2 D3 w' ∧ Bx w w.heap.size false A n c e w')) :=
        Lib.hid (fun x hx => (HON.out x).mono fun r w' ⟨A3, c3, g1, g2, g3⟩ => ⟨A3, c3, by rw [g1, HO.out, HLO.out], by rw [← HLO.out, ← HO.out] at g2; exact g2, hx.1.go g3, hx.2.go g3⟩)
      have HC2 : Hid (∀ x A3 c3, (Bx w6 w6.heap.size D1 A2 d c2 D3 x ∧ Bx w w.heap.size false A n c e x) → U x A3 o c3 lo → Calls Try.prog 158 #[.agg #[.bool D1, .slice A2 d c2, .int .i64 D3], .agg #[.bool false, .slice A3 o c3, .int .i64 (last - 1)]] x fun r w' => r = .returned (.int .i64 T) ∧ (Bx w6 w6.heap.size D1 A2 d c2 D3 w' ∧ Bx w w.heap.size false A n c e w')) :=
        Lib.hid (fun x A3 c3 hx hu => (HCM.out x _ _ (NVR.out x hx.1.2.1) ⟨A3, c3, by rw [HO.out, HLO.out], by rw [← HLO.out, ← HO.out]; exact hu⟩).mono fun r w' ⟨g1, g2⟩ => ⟨g1, hx.1.go g2, hx.2.go g2⟩)
      have HX7 := Lib.hid hbx
      obtain ⟨⟨r1, r2, r3⟩, r4, r5⟩ := hbr
      go_region_held3 (fun x => (((x.cell? ⟨w6.heap.size, 0, none⟩ = some (.bool D1) ∧ x.cell? ⟨w6.heap.size, 1, none⟩ = some (.slice A2 d c2) ∧ x.cell? ⟨w6.heap.size, 2, none⟩ = some (.int .i64 D3)) ∧ Below w6.heap.size w6 x ∧ w6.heap.size < x.heap.size) ∧ Bx w w.heap.size false A n c e x)) ((first | assumption | exact HS0.out)) (first | (go_at_call 75; refine (HC1.out _ ?_).mono ?_; (assumption); rintro r w' ⟨A3, c3, rfl, hu3, hS⟩) | (go_at_call 158; refine (HC2.out _ _ _ ?_ ?_).mono ?_; (assumption); (assumption); rintro r w' ⟨rfl, hS5⟩))
      have HX9 := Lib.hid hS5.2
      clear hS5 hu3 HC1 HC2 HS0 r1 r2 r3 r4 r5 hbx
      obtain ⟨⟨p1, p2, p3⟩, _, p4⟩ := HX9.out
      rcases Int.lt_trichotomy T 0 with hT0 | hT0 | hT0
      · have hq1 : ¬ 0 < T := by omega
        have hq2 : (T == 0) = false := by simp; omega
        have hval : nearN 0 T = 0 := by unfold nearN; rw [if_neg (by omega)]
        have HF : Hid (∀ x, Calls Try.prog 51 #[.float .f64 (floatOfInt .f64 (0)), .int .i64 last] x fun r w' => r = .returned (.float .f64 (fL (nearN 0 T) last)) ∧ x = w') := Lib.hid (by
          have h := HFI2.out
          rw [show ((nearN 0 T : Nat) : Int) = 0 by rw [hval] <;> rfl] at h
          exact h)
        clear hval HFI2
        go_wp2_with fail
        refine (HF.out _).mono ?_
        rintro e w9 ⟨rfl, rfl⟩
        go_wp2
        go_ret
        exact ⟨rfl, HX9.out.2.1⟩
      · subst hT0
        have hval : nearN 0 0 = 0 := by unfold nearN; rw [if_neg (by omega)]
        have HF : Hid (∀ x, Calls Try.prog 51 #[.float .f64 (floatOfInt .f64 (0)), .int .i64 last] x fun r w' => r = .returned (.float .f64 (fL (nearN 0 0) last)) ∧ x = w') := Lib.hid (by
          have h := HFI2.out
          rw [show ((nearN 0 0 : Nat) : Int) = 0 by rw [hval] <;> rfl] at h
          exact h)
        clear hval HFI2
        go_wp2_with fail
        refine (HF.out _).mono ?_
        rintro e w9 ⟨rfl, rfl⟩
        go_wp2
        go_ret
        exact ⟨rfl, HX9.out.2.1⟩
      · have hval : nearN 0 T = 0 + 1 := by unfold nearN; rw [if_pos (by omega)]
        have HF : Hid (∀ x, Calls Try.prog 51 #[.float .f64 (floatOfInt .f64 (1)), .int .i64 last] x fun r w' => r = .returned (.float .f64 (fL (nearN 0 T) last)) ∧ x = w') := Lib.hid (by
          have h := HFI2.out
          rw [show ((nearN 0 T : Nat) : Int) = 1 by rw [hval] <;> rfl] at h
          exact h)
        clear hval HFI2
        go_wp2_with fail
        refine (HF.out _).mono ?_
        rintro e w9 ⟨rfl, rfl⟩
        go_wp2
        go_ret
        exact ⟨rfl, HX9.out.2.1⟩
    · have hn0 : n0 ≠ 0 := fun h => hM0 (HZ9.out.2 h)
      rw [show decide (M = 0) = false from decide_eq_false hM0]
      have hdg : (Nt.dg 18446744073709551616 n0) = [(n0 : Int)] := by
        rw [Nt.dg_pos _ _ (by decide) hn0, Nat.mod_eq_of_lt (by omega), Nat.div_eq_of_lt (by omega), Nt.dg_zero]
      have HDG := Lib.hid hdg
      have HFI2 := Lib.hid (hfi2 n0 T last HFI.out (by omega))
      clear hM0 hdg
      go_wp2_with fail
      refine (HUP.out w4 A1 c1 (HUL.out.below S1.out)).mono ?_
      rintro r w5 ⟨A5, c5, rfl, hu5, hb5⟩
      rw [HDG.out] at hu5 ⊢
      have HXZ := Lib.hid (HX4.out.go hb5)
      have SZ := Lib.hid (S1.out.trans (hb5.mono S1.out.size))
      have HL5 := Lib.hid (HL4.out.go hb5)
      obtain ⟨ad, rfl, _, hcell⟩ := hu5.2.2.2 0 (n0 : Int) rfl
      have hc0 : w5.cell? ad = some (.int .u64 (n0 : Int)) := by
        have e0 : ad.add 0 = ad := by unfold Addr.add; split <;> simp_all
        rw [e0] at hcell; exact hcell
      clear hcell
      clear hb5 hu5 p1 p2 p3 p4 p5 p6 p7 p8 HX4 HL4
      obtain ⟨⟨p1, p2, p3⟩, _, p4⟩ := HXZ.out
      obtain ⟨⟨p5, p6, p7⟩, _, p8⟩ := HL5.out
      go_wp2_with fail
      refine (HLS.out w5 _ _ (NVX.out w5 HXZ.out.2.1) (NVL.out w5 SZ.out)).mono ?_
      rintro r w6 ⟨vr, rfl, hvr, hb6⟩
      have HX6 := Lib.hid (HXZ.out.go hb6)
      clear hb6 HLS
      obtain ⟨A2, c2, rfl, hu2⟩ := hvr
      rw [← HLD.out, ← HDD.out] at hu2 ⊢
      have NVR : Hid (∀ x, Below w6.heap.size w6 x → NumV x (.agg #[.bool D1, .slice A2 d c2, .int .i64 D3]) D1 D2 D3) := Lib.hid (fun x hb => ⟨A2, c2, by rw [HDD.out, HLD.out], by rw [← HLD.out, ← HDD.out]; exact hu2.below hb⟩)
      clear hu2
      obtain ⟨k0, k1, k2, hbw⟩ := new_cells w6 (w6.alloc (.cells #[.bool D1, .slice A2 d c2, .int .i64 D3] 65)) (.bool D1) (.slice A2 d c2) (.int .i64 D3) 65 (Below.refl _ _)
      have hbr : Bx w6 w6.heap.size D1 A2 d c2 D3 (w6.alloc (.cells #[.bool D1, .slice A2 d c2, .int .i64 D3] 65)) := ⟨⟨k0, k1, k2⟩, hbw, alloc_lt w6 _⟩
      have hbx := HX6.out.go hbw
      clear k0 k1 k2 hbw
      go_wp2_with fail
      generalize w6.alloc (.cells #[.bool D1, .slice A2 d c2, .int .i64 D3] 65) = W7 at *
      have HS0 : Hid (Bx w6 w6.heap.size D1 A2 d c2 D3 W7.drew ∧ Bx w w.heap.size false A n c e W7.drew) := Lib.hid ⟨hbr.go (Below.refl _ _).drew, hbx.go (Below.refl _ _).drew⟩
      have HC1 : Hid (∀ x, (Bx w6 w6.heap.size D1 A2 d c2 D3 x ∧ Bx w w.heap.size false A n c e x) → Calls Try.prog 75 #[.int .u64 1] x fun r w' => ∃ A3 c3, r = .returned (.slice A3 o c3) ∧ U w' A3 o c3 lo ∧ (Bx w6 w6.heap.size D1 A2 d c2 D3 w' ∧ Bx w w.heap.size false A n c e w')) :=
        Lib.hid (fun x hx => (HON.out x).mono fun r w' ⟨A3, c3, g1, g2, g3⟩ => ⟨A3, c3, by rw [g1, HO.out, HLO.out], by rw [← HLO.out, ← HO.out] at g2; exact g2, hx.1.go g3, hx.2.go g3⟩)
      have HC2 : Hid (∀ x A3 c3, (Bx w6 w6.heap.size D1 A2 d c2 D3 x ∧ Bx w w.heap.size false A n c e x) → U x A3 o c3 lo → Calls Try.prog 158 #[.agg #[.bool D1, .slice A2 d c2, .int .i64 D3], .agg #[.bool false, .slice A3 o c3, .int .i64 (last - 1)]] x fun r w' => r = .returned (.int .i64 T) ∧ (Bx w6 w6.heap.size D1 A2 d c2 D3 w' ∧ Bx w w.heap.size false A n c e w')) :=
        Lib.hid (fun x A3 c3 hx hu => (HCM.out x _ _ (NVR.out x hx.1.2.1) ⟨A3, c3, by rw [HO.out, HLO.out], by rw [← HLO.out, ← HO.out]; exact hu⟩).mono fun r w' ⟨g1, g2⟩ => ⟨g1, hx.1.go g2, hx.2.go g2⟩)
      have HX7 := Lib.hid hbx
      obtain ⟨⟨r1, r2, r3⟩, r4, r5⟩ := hbr
      go_region_held3 (fun x => (((x.cell? ⟨w6.heap.size, 0, none⟩ = some (.bool D1) ∧ x.cell? ⟨w6.heap.size, 1, none⟩ = some (.slice A2 d c2) ∧ x.cell? ⟨w6.heap.size, 2, none⟩ = some (.int .i64 D3)) ∧ Below w6.heap.size w6 x ∧ w6.heap.size < x.heap.size) ∧ Bx w w.heap.size false A n c e x)) ((first | assumption | exact HS0.out)) (first | (go_at_call 75; refine (HC1.out _ ?_).mono ?_; (assumption); rintro r w' ⟨A3, c3, rfl, hu3, hS⟩) | (go_at_call 158; refine (HC2.out _ _ _ ?_ ?_).mono ?_; (assumption); (assumption); rintro r w' ⟨rfl, hS5⟩))
      have HX9 := Lib.hid hS5.2
      clear hS5 hu3 HC1 HC2 HS0 r1 r2 r3 r4 r5 hbx
      obtain ⟨⟨p1, p2, p3⟩, _, p4⟩ := HX9.out
      rcases Int.lt_trichotomy T 0 with hT0 | hT0 | hT0
      · have hq1 : ¬ 0 < T := by omega
        have hq2 : (T == 0) = false := by simp; omega
        have hval : nearN n0 T = n0 := by unfold nearN; rw [if_neg (by omega)]
        have HF : Hid (∀ x, Calls Try.prog 51 #[.float .f64 (floatOfInt .f64 ((n0 : Int))), .int .i64 last] x fun r w' => r = .returned (.float .f64 (fL (nearN n0 T) last)) ∧ x = w') := Lib.hid (by
          have h := HFI2.out
          rw [show ((nearN n0 T : Nat) : Int) = (n0 : Int) by rw [hval] <;> rfl] at h
          exact h)
        clear hval HFI2
        go_wp2_with fail
        refine (HF.out _).mono ?_
        rintro e w9 ⟨rfl, rfl⟩
        go_wp2
        go_ret
        exact ⟨rfl, HX9.out.2.1⟩
      · subst hT0
        by_cases ho : n0 % 2 = 1
        · have hm : Int.tmod (n0 : Int) 2 = 1 := by rw [Int.tmod_eq_emod_of_nonneg (by omega)]; omega
          have hm2 : (n0 : Int) % 2 = 1 := by omega
          have hval : nearN n0 0 = n0 + 1 := by unfold nearN; rw [if_pos (by omega)]
          have HF : Hid (∀ x, Calls Try.prog 51 #[.float .f64 (floatOfInt .f64 ((n0 : Int) + 1)), .int .i64 last] x fun r w' => r = .returned (.float .f64 (fL (nearN n0 0) last)) ∧ x = w') := Lib.hid (by
            have h := HFI2.out
            rw [show ((nearN n0 0 : Nat) : Int) = (n0 : Int) + 1 by rw [hval] <;> rfl] at h
            exact h)
          clear hval HFI2
          go_wp2_with fail
          refine (HF.out _).mono ?_
          rintro e w9 ⟨rfl, rfl⟩
          go_wp2
          go_ret
          exact ⟨rfl, HX9.out.2.1⟩
        · have hm : Int.tmod (n0 : Int) 2 = 0 := by rw [Int.tmod_eq_emod_of_nonneg (by omega)]; omega
          have hm2 : (n0 : Int) % 2 = 0 := by omega
          have hval : nearN n0 0 = n0 := by unfold nearN; rw [if_neg (by omega)]
          have HF : Hid (∀ x, Calls Try.prog 51 #[.float .f64 (floatOfInt .f64 ((n0 : Int))), .int .i64 last] x fun r w' => r = .returned (.float .f64 (fL (nearN n0 0) last)) ∧ x = w') := Lib.hid (by
            have h := HFI2.out
            rw [show ((nearN n0 0 : Nat) : Int) = (n0 : Int) by rw [hval] <;> rfl] at h
            exact h)
          clear hval HFI2
          go_wp2_with fail
          refine (HF.out _).mono ?_
          rintro e w9 ⟨rfl, rfl⟩
          go_wp2
          go_ret
          exact ⟨rfl, HX9.out.2.1⟩
      · have hval : nearN n0 T = n0 + 1 := by unfold nearN; rw [if_pos (by omega)]
        have HF : Hid (∀ x, Calls Try.prog 51 #[.float .f64 (floatOfInt .f64 ((n0 : Int) + 1)), .int .i64 last] x fun r w' => r = .returned (.float .f64 (fL (nearN n0 T) last)) ∧ x = w') := Lib.hid (by
          have h := HFI2.out
          rw [show ((nearN n0 T : Nat) : Int) = (n0 : Int) + 1 by rw [hval] <;> rfl] at h
          exact h)
        clear hval HFI2
        go_wp2_with fail
        refine (HF.out _).mono ?_
        rintro e w9 ⟨rfl, rfl⟩
        go_wp2
        go_ret
        exact ⟨rfl, HX9.out.2.1⟩
end Go.Proofs.Ytclnmheplecknaa

/-
  Walk: Num by value: Compare.
-/
import Derived.Test.YtgockebgcbmgoaaNume
set_option linter.unusedVariables false
set_option linter.unusedSimpArgs false
namespace Go.Proofs.Ytgockebgcbmgoaa
open Go.RowKit

theorem ret_i {k : IntKind} {a b : Int} (h : a = b) : Ending.returned (.int k a) = .returned (.int k b) := by rw [h]
set_option maxRecDepth 400000 in
set_option maxHeartbeats 8000000 in
theorem compare_any (v : Value) (s : Bool) (N : Nat) (e : Int) (v' : Value) (s' : Bool) (M : Nat) (f : Int) (w : World) (hv : NumV w v s N e) (hv' : NumV w v' s' M f) (hl : (Nt.dg 18446744073709551616 N).length ≤ 50000000) (hl' : (Nt.dg 18446744073709551616 M).length ≤ 50000000)
    (hlt : (Nt.dg 18446744073709551616 (plusN s N e (!s') M f).2.1).length ≤ 100000000) (he1 : -100000000 ≤ e) (he2 : e ≤ 100000000) (hf1 : -100000000 ≤ f) (hf2 : f ≤ 100000000) :
    Calls Try.prog 61 #[v, v'] w fun r w' => r = .returned (.int .i64 (cmpN s N e s' M f)) ∧ Below w.heap.size w w' := by
  have hs1 := fun x (hb : Below w.heap.size w x) => sign_any v s N e x (hv.below hb) (by omega)
  have hs2 := fun x (hb : Below w.heap.size w x) => sign_any v' s' M f x (hv'.below hb) (by omega)
  have ht1 := fun x (hb : Below w.heap.size w x) => top_any v s N e x (hv.below hb) (by omega) (by omega) (by omega)
  have ht2 := fun x (hb : Below w.heap.size w x) => top_any v' s' M f x (hv'.below hb) (by omega) (by omega) (by omega)
  have hls := fun x (hb : Below w.heap.size w x) => less_any v s N e v' s' M f x (hv.below hb) (hv'.below hb) hl hl' he1 he2 hf1 hf2
  have hb1 := bitsN_len N
  have hb2 := bitsN_len M
  obtain ⟨T, hT⟩ : ∃ T, T = cmpN s N e s' M f := ⟨_, rfl⟩
  rw [← hT]
  unfold cmpN at hT
  obtain ⟨D, hD⟩ : ∃ D, D = plusN s N e (!s') M f := ⟨_, rfl⟩
  rw [← hD] at hls hlt hT
  have hsd := fun x u (hu : NumV x u D.1 D.2.1 D.2.2) => sign_any u D.1 D.2.1 D.2.2 x hu hlt
  clear hD
  have ha : -1 ≤ signI s N ∧ signI s N ≤ 1 := by unfold signI; split; omega; split <;> omega
  obtain ⟨A, c, rfl, hu⟩ := hv
  obtain ⟨A', c', rfl, hu'⟩ := hv'
  have HS1 := Lib.hid hs1
  have HS2 := Lib.hid hs2
  have HT1 := Lib.hid ht1
  have HT2 := Lib.hid ht2
  have HLS := Lib.hid hls
  have HSD := Lib.hid hsd
  clear hs1 hs2 ht1 ht2 hls hsd hu hu'
  generalize (Nt.dg 18446744073709551616 N).length = n at *
  generalize (Nt.dg 18446744073709551616 M).length = n' at *
  generalize signI s N = a at *
  generalize signI s' M = b at *
  generalize bitsN N = p at *
  generalize bitsN M = q at *
  obtain ⟨t1, ht1⟩ : ∃ t1, t1 = e + (p : Int) := ⟨_, rfl⟩
  obtain ⟨t2, ht2⟩ : ∃ t2, t2 = f + (q : Int) := ⟨_, rfl⟩
  rw [← ht1] at HT1 hT
  rw [← ht2] at HT2 hT
  have HTT := Lib.hid hT
  clear hT ht1 ht2
  have HC1 : Hid (∀ x, Pair w w.heap.size s A n c e (w.heap.size + 1) s' A' n' c' f x → Calls Try.prog 76 #[.agg #[.bool s, .slice A n c, .int .i64 e]] x fun r w' => r = .returned (.int .i64 a) ∧ Pair w w.heap.size s A n c e (w.heap.size + 1) s' A' n' c' f w') := Lib.hid (fun x hx => (HS1.out x hx.2.2.1).mono fun r w' ⟨h1, h2⟩ => ⟨h1, hx.go h2⟩)
  have HC2 : Hid (∀ x, Pair w w.heap.size s A n c e (w.heap.size + 1) s' A' n' c' f x → Calls Try.prog 76 #[.agg #[.bool s', .slice A' n' c', .int .i64 f]] x fun r w' => r = .returned (.int .i64 b) ∧ Pair w w.heap.size s A n c e (w.heap.size + 1) s' A' n' c' f w') := Lib.hid (fun x hx => (HS2.out x hx.2.2.1).mono fun r w' ⟨h1, h2⟩ => ⟨h1, hx.go h2⟩)
  have HC3 : Hid (∀ x, Pair w w.heap.size s A n c e (w.heap.size + 1) s' A' n' c' f x → Calls Try.prog 77 #[.agg #[.bool s, .slice A n c, .int .i64 e]] x fun r w' => r = .returned (.int .i64 t1) ∧ Pair w w.heap.size s A n c e (w.heap.size + 1) s' A' n' c' f w') := Lib.hid (fun x hx => (HT1.out x hx.2.2.1).mono fun r w' ⟨h1, h2⟩ => ⟨h1, hx.go h2⟩)
  have HC4 : Hid (∀ x, Pair w w.heap.size s A n c e (w.heap.size + 1) s' A' n' c' f x → Calls Try.prog 77 #[.agg #[.bool s', .slice A' n' c', .int .i64 f]] x fun r w' => r = .returned (.int .i64 t2) ∧ Pair w w.heap.size s A n c e (w.heap.size + 1) s' A' n' c' f w') := Lib.hid (fun x hx => (HT2.out x hx.2.2.1).mono fun r w' ⟨h1, h2⟩ => ⟨h1, hx.go h2⟩)
  have hst := Pair.start w s A n c e s' A' n' c' f 61
  go_enter Try.func61, Try.ntmps61
  go_wp2_with fail
  generalize (w.alloc (.cells #[.bool s, .slice A n c, .int .i64 e] 61)).alloc (.cells #[.bool s', .slice A' n' c', .int .i64 f] 61) = W at *
  have HP0 := Lib.hid hst.drew
  obtain ⟨⟨p1, p2, p3⟩, ⟨p4, p5, p6⟩, _, ⟨p7, p8⟩⟩ := hst
  go_region_held3 (fun x => (x.cell? ⟨w.heap.size, 0, none⟩ = some (.bool s) ∧ x.cell? ⟨w.heap.size, 1, none⟩ = some (.slice A n c) ∧ x.cell? ⟨w.heap.size, 2, none⟩ = some (.int .i64 e)) ∧ (x.cell? ⟨w.heap.size + 1, 0, none⟩ = some (.bool s') ∧ x.cell? ⟨w.heap.size + 1, 1, none⟩ = some (.slice A' n' c') ∧ x.cell? ⟨w.heap.size + 1, 2, none⟩ = some (.int .i64 f)) ∧ Below w.heap.size w x ∧ (w.heap.size < x.heap.size ∧ w.heap.size + 1 < x.heap.size)) ((first | assumption | exact HP0.out)) (first | (go_at_call 76; refine (HC1.out _ ?_).mono ?_; (assumption); rintro r w' ⟨rfl, hS⟩) | (go_at_call 76; refine (HC2.out _ ?_).mono ?_; (assumption); rintro r w' ⟨rfl, hS⟩))
  have HP1 := Lib.hid hS
  clear p1 p2 p3 p4 p5 p6 p7 p8 HP0 HC1 HC2 HS1 HS2 hS
  obtain ⟨wa, hwa⟩ : ∃ wa, wa = w' := ⟨_, rfl⟩
  rw [← hwa] at HP1 ⊢
  clear hwa
  obtain ⟨⟨p1, p2, p3⟩, ⟨p4, p5, p6⟩, _, ⟨p7, p8⟩⟩ := HP1.out
  have HB1 := Lib.hid HP1.out.2.2.1
  rcases Int.lt_trichotomy a b with hab | hab | hab
  · have hans : T = -1 := by rw [HTT.out, if_pos hab]
    have HANS := Lib.hid hans
    clear hans
    go_wp2
    go_ret
    exact ⟨ret_i HANS.out.symm, HB1.out⟩
  · subst hab
    by_cases ha0 : a = 0
    · have hans : T = 0 := by rw [HTT.out, if_neg (Int.lt_irrefl a), if_neg (Int.lt_irrefl a), if_pos ha0]
      have HANS := Lib.hid hans
      clear hans
      subst ha0
      go_wp2
      go_ret
      exact ⟨ret_i HANS.out.symm, HB1.out⟩
    · have haz : (a == 0) = false := by simpa using ha0
      have HA0 := Lib.hid ha0
      clear ha0
      have HP2 := Lib.hid HP1.out.drew
      go_wp2_with fail
      go_region_held3 (fun x => (x.cell? ⟨w.heap.size, 0, none⟩ = some (.bool s) ∧ x.cell? ⟨w.heap.size, 1, none⟩ = some (.slice A n c) ∧ x.cell? ⟨w.heap.size, 2, none⟩ = some (.int .i64 e)) ∧ (x.cell? ⟨w.heap.size + 1, 0, none⟩ = some (.bool s') ∧ x.cell? ⟨w.heap.size + 1, 1, none⟩ = some (.slice A' n' c') ∧ x.cell? ⟨w.heap.size + 1, 2, none⟩ = some (.int .i64 f)) ∧ Below w.heap.size w x ∧ (w.heap.size < x.heap.size ∧ w.heap.size + 1 < x.heap.size)) ((first | assumption | exact HP2.out)) (first | (go_at_call 77; refine (HC3.out _ ?_).mono ?_; (assumption); rintro r w' ⟨rfl, hS⟩) | (go_at_call 77; refine (HC4.out _ ?_).mono ?_; (assumption); rintro r w' ⟨rfl, hS⟩))
      have HP3 := Lib.hid hS
      clear p1 p2 p3 p4 p5 p6 p7 p8 HP1 HP2 HB1 hS
      obtain ⟨wb, hwb⟩ : ∃ wb, wb = w' := ⟨_, rfl⟩
      rw [← hwb] at HP3 ⊢
      clear hwb
      obtain ⟨⟨p1, p2, p3⟩, ⟨p4, p5, p6⟩, _, ⟨p7, p8⟩⟩ := HP3.out
      have HB3 := Lib.hid HP3.out.2.2.1
      have HTT2 : Hid (T = if t1 < t2 then -a else if t2 < t1 then a else signI D.1 D.2.1) := Lib.hid (by rw [HTT.out, if_neg (Int.lt_irrefl a), if_neg (Int.lt_irrefl a), if_neg HA0.out])
      by_cases h1 : t1 < t2
      · have hans : T = -a := by rw [HTT2.out, if_pos h1]
        have HANS := Lib.hid hans
        clear hans
        go_wp2
        go_ret
        exact ⟨ret_i HANS.out.symm, HB3.out⟩
      · have HP4 := Lib.hid HP3.out.drew
        go_wp2_with fail
        go_region_held3 (fun x => (x.cell? ⟨w.heap.size, 0, none⟩ = some (.bool s) ∧ x.cell? ⟨w.heap.size, 1, none⟩ = some (.slice A n c) ∧ x.cell? ⟨w.heap.size, 2, none⟩ = some (.int .i64 e)) ∧ (x.cell? ⟨w.heap.size + 1, 0, none⟩ = some (.bool s') ∧ x.cell? ⟨w.heap.size + 1, 1, none⟩ = some (.slice A' n' c') ∧ x.cell? ⟨w.heap.size + 1, 2, none⟩ = some (.int .i64 f)) ∧ Below w.heap.size w x ∧ (w.heap.size < x.heap.size ∧ w.heap.size + 1 < x.heap.size)) ((first | assumption | exact HP4.out)) (first | (go_at_call 77; refine (HC3.out _ ?_).mono ?_; (assumption); rintro r w' ⟨rfl, hS⟩) | (go_at_call 77; refine (HC4.out _ ?_).mono ?_; (assumption); rintro r w' ⟨rfl, hS⟩))
        have HP5 := Lib.hid hS
        clear p1 p2 p3 p4 p5 p6 p7 p8 HP3 HP4 HB3 hS
        obtain ⟨wc, hwc⟩ : ∃ wc, wc = w' := ⟨_, rfl⟩
        rw [← hwc] at HP5 ⊢
        clear hwc
        obtain ⟨⟨p1, p2, p3⟩, ⟨p4, p5, p6⟩, _, ⟨p7, p8⟩⟩ := HP5.out
        have HB5 := Lib.hid HP5.out.2.2.1
        by_cases h2 : t2 < t1
        · have hans : T = a := by rw [HTT2.out, if_neg (by omega), if_pos h2]
          have HANS := Lib.hid hans
          clear hans
          go_wp2
          go_ret
          exact ⟨ret_i HANS.out.symm, HB5.out⟩
        · have hans : T = signI D.1 D.2.1 := by rw [HTT2.out, if_neg (by omega), if_neg (by omega)]
          have HANS := Lib.hid hans
          clear hans
          go_wp2_with fail
          refine (HLS.out wc HB5.out).mono ?_
          rintro r w6 ⟨v6, rfl, hv6, hb6⟩
          have HV6 := Lib.hid hv6
          have HB6 := Lib.hid (HB5.out.trans (hb6.mono HB5.out.size))
          clear hv6 hb6 p1 p2 p3 p4 p5 p6 p7 p8
          go_wp2_with fail
          refine (HSD.out w6 v6 HV6.out).mono ?_
          rintro r w7 ⟨rfl, hb7⟩
          have HB7 := Lib.hid (HB6.out.trans (hb7.mono HB6.out.size))
          clear hb7
          go_wp2
          go_ret
          exact ⟨ret_i HANS.out.symm, HB7.out⟩
  · have hnl : ¬ a < b := by omega
    have hans : T = 1 := by rw [HTT.out, if_neg hnl, if_pos hab]
    have HANS := Lib.hid hans
    clear hans
    go_wp2
    go_ret
    exact ⟨ret_i HANS.out.symm, HB1.out⟩
end Go.Proofs.Ytgockebgcbmgoaa

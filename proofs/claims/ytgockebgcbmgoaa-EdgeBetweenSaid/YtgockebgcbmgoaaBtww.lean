/-
  Walk: EdgeBetween.
-/
import Derived.Test.YtgockebgcbmgoaaBtwb
import Derived.Test.YtgockebgcbmgoaaAwake
import Derived.Test.YtgockebgcbmgoaaTurnw
import Derived.Test.YtgockebgcbmgoaaGrowsw
set_option linter.unusedVariables false
set_option linter.unusedSimpArgs false
namespace Go.Proofs.Ytgockebgcbmgoaa
open Go.RowKit
theorem did_lt {op : Int} {a b s : Nat} {up : Bool} (ha : a < 2 * Fl.W) (hb : b < 2 * Fl.W) (h : Fl.Is (Fl.didS op a b up) s) : s < 2 * Fl.W := by
  unfold Fl.didS at h
  split at h
  · exact Is_lt_add ha hb h
  · split at h
    · exact Is_lt_add ha (Fl.ng_lt b hb) h
    · split at h
      · exact Is_lt_mul h
      · split at h
        · exact Is_lt_div h
        · exact Fl.Is_lt_sqrt h
theorem oi_lt {c : Ordering} (h : c = .lt) : oi c = -1 := by rw [h]; rfl
theorem oi_eq {c : Ordering} (h : c = .eq) : oi c = 0 := by rw [h]; rfl
theorem oi_gt {c : Ordering} (h : c = .gt) : oi c = 1 := by rw [h]; rfl
set_option maxRecDepth 400000 in
set_option maxHeartbeats 8000000 in
theorem between_any (op : Int) (a b : Nat) (w : World) (o1 : -9223372036854775808 ≤ op) (o2 : op ≤ 9223372036854775807) (ha : a < 2 * Fl.W) (hb : b < 2 * Fl.W) :
    Calls Try.prog 9 #[.int .i64 op, .float .f64 a, .float .f64 b] w fun e w' => e = .returned (.bool true) ∧ Below w.heap.size w w' := by
  have HPK := Lib.hid (fun x => pick_any op 5 x (by omega) (by omega) o1 o2)
  clear o1 o2
  go_enter Try.func9, Try.ntmps9
  go_wp2_with fail
  refine (awake_any _).mono ?_
  rintro e w0 ⟨rfl, hd0⟩
  have HD0 := Lib.hid hd0
  clear hd0
  go_wp2_with fail
  refine (HPK.out _).mono ?_
  rintro e w' ⟨k, rfl, hk, rfl⟩
  have HK := Lib.hid hk
  obtain ⟨kz, hkz⟩ : ∃ kz : Int, kz = (k : Int) := ⟨_, rfl⟩
  have HK1 : Hid (0 ≤ kz) := Lib.hid (by omega)
  have HK2 : Hid (kz < 5) := Lib.hid (by rw [hkz]; exact hk)
  rw [← hkz]
  clear hk HK hkz HPK
  have HDID := Lib.hid (fun up x => did_any kz a b up x ha hb HK1.out HK2.out)
  have HPL := Lib.hid (fun x => plain_any kz a b x ha hb HK1.out HK2.out)
  go_wp2_with fail
  refine (HDID.out false _).mono ?_
  rintro e w1 ⟨L, rfl, hL, hd1⟩
  have HL := Lib.hid hL
  have HD1 := Lib.hid (HD0.out.trans hd1)
  clear hL hd1
  go_wp2_with fail
  refine (HDID.out true _).mono ?_
  rintro e w2 ⟨H, rfl, hH, hd2⟩
  have HH := Lib.hid hH
  have HD2 := Lib.hid (HD1.out.trans hd2)
  clear hH hd2 HDID
  go_wp2_with fail
  refine (HPL.out _).mono ?_
  rintro e w3 ⟨p, rfl, hp, hd3⟩
  have HP := Lib.hid hp
  have HD3 := Lib.hid ((HD2.out.trans hd3).below w.heap.size)
  clear hp hd3 HPL HD0 HD1 HD2
  have lL := did_lt ha hb HL.out
  have lH := did_lt ha hb HH.out
  cases p
  · have hn : ¬ Fl.PlainP kz a b := fun h => by have := HP.out.2 h; cases this
    have hsm : Fl.Same L H := by
      have e := Fl.did_same hb HK1.out HK2.out hn
      have h1 := HL.out
      rw [e] at h1
      exact Fl.Is_same h1 HH.out
    have HS := Lib.hid (fun x => same_yes L H x hsm)
    clear hn hsm
    go_wp2_with fail
    refine (HS.out _).mono ?_
    rintro e w' ⟨rfl, rfl⟩
    go_wp2
    go_ret
    exact ⟨rfl, HD3.out⟩
  · have hpl : Fl.PlainP kz a b := HP.out.1 rfl
    have HAG := Lib.hid (fun x t (ht : t < 2 * Fl.W) (ft : Fl.rg t < Fl.I) => against_any kz a b t x ha hb ht HK1.out HK2.out hpl ft)
    obtain ⟨rL, rH, hbr⟩ := Fl.did_br ha hb HK1.out HK2.out hpl HL.out HH.out
    clear hpl
    rcases hbr with ⟨e1, e2, e3⟩ | ⟨e1, e2, e3⟩
    · have o := Fl.order_eq L H rL rH e1
      have HA0 : Hid (∀ x, Calls Try.prog 37 #[.int .i64 kz, .float .f64 a, .float .f64 b, .float .f64 L] x fun r w' => r = .returned (.int .i64 0) ∧ Below x.heap.size x w') := Lib.hid (fun x => by rw [← oi_eq e3]; exact HAG.out x L lL e2)
      have HF := Lib.hid (fun x => kfinite_yes L x lL e2)
      replace o : FloatKind.f64.format.order L H = some .eq := o
      clear HAG e1 e2 e3
      go_wp2_with fail
      refine (HF.out _).mono ?_
      rintro e w' ⟨rfl, rfl⟩
      go_wp2_with fail
      refine (HA0.out _).mono ?_
      rintro e w4 ⟨rfl, hb4⟩
      have HB4 := Lib.hid (HD3.out.trans (hb4.mono HD3.out.size))
      clear hb4
      go_wp2
      go_ret
      exact ⟨rfl, HB4.out⟩
    · have kL := Fl.key_range rL
      have kH := Fl.key_range rH
      have q1 : FloatKind.f64.format.order L H = some .lt := Fl.order_lt L H rL rH (by omega)
      have q2 : FloatKind.f64.format.order L L = some .eq := Fl.order_eq L L rL rL rfl
      have q3 : FloatKind.f64.format.order H H = some .eq := Fl.order_eq H H rH rH rfl
      have gL := Fl.rg_key L
      have gH := Fl.rg_key H
      obtain ⟨n1, n2⟩ := Fl.key_next L true lL rL (fun hh => by
        have h1 : Fl.sg L = false := by simpa using hh.2.symm
        have h2 : Fl.key L = Fl.sgz (Fl.sg L) (Fl.rg L) := Fl.key_of L
        rw [h1, hh.1] at h2
        have h3 : Fl.key L = (Fl.I : Int) := h2
        omega)
      obtain ⟨n3, n4⟩ := Fl.key_next H false lH rH (fun hh => by
        have h1 : Fl.sg H = true := by simpa using hh.2.symm
        have h2 : Fl.key H = Fl.sgz (Fl.sg H) (Fl.rg H) := Fl.key_of H
        rw [h1, hh.1] at h2
        have h3 : Fl.key H = -(Fl.I : Int) := h2
        omega)
      rw [if_pos rfl] at n1
      rw [if_neg (by simp)] at n3
      have q4 : FloatKind.f64.format.order (Fl.next L true) H = some .eq := Fl.order_eq _ _ n2 rH (by omega)
      have q5 : FloatKind.f64.format.order (Fl.next H false) L = some .eq := Fl.order_eq _ _ n4 rL (by omega)
      have HN1 := Lib.hid (fun x => next_any L true x lL)
      have HN2 := Lib.hid (fun x => next_any H false x lH)
      generalize Fl.next L true = nL at *
      generalize Fl.next H false = nH at *
      have hno : Fl.rg L < Fl.I ∨ Fl.rg H < Fl.I := by
        have := Fl.I_pos
        rcases Nat.lt_or_ge (Fl.rg L) Fl.I with h | h
        · exact .inl h
        · rcases Nat.lt_or_ge (Fl.rg H) Fl.I with h' | h'
          · exact .inr h'
          · exfalso
            have : 1 < Fl.I := by decide
            omega
      have HAL : Hid (Fl.rg L < Fl.I → ∀ x, Calls Try.prog 37 #[.int .i64 kz, .float .f64 a, .float .f64 b, .float .f64 L] x fun r w' => r = .returned (.int .i64 (-1)) ∧ Below x.heap.size x w') := Lib.hid (fun hf x => by rw [← oi_lt (e2 hf)]; exact HAG.out x L lL hf)
      have HAH : Hid (Fl.rg H < Fl.I → ∀ x, Calls Try.prog 37 #[.int .i64 kz, .float .f64 a, .float .f64 b, .float .f64 H] x fun r w' => r = .returned (.int .i64 1) ∧ Below x.heap.size x w') := Lib.hid (fun hf x => by rw [← oi_gt (e3 hf)]; exact HAG.out x H lH hf)
      clear HAG e1 e2 e3 kL kH gL gH n1 n2 n3 n4
      by_cases fL : Fl.rg L < Fl.I
      · have HF := Lib.hid (fun x => kfinite_yes L x lL fL)
        have HA := Lib.hid (HAL.out fL)
        clear HAL hno
        by_cases fH : Fl.rg H < Fl.I
        · have HG := Lib.hid (fun x => kfinite_yes H x lH fH)
          have HB := Lib.hid (HAH.out fH)
          clear HAH fL fH
          go_wp2_with fail
          refine (HN1.out _).mono ?_
          rintro e w' ⟨rfl, rfl⟩
          go_wp2_with fail
          refine (HN2.out _).mono ?_
          rintro e w' ⟨rfl, rfl⟩
          go_wp2_with fail
          refine (HF.out _).mono ?_
          rintro e w' ⟨rfl, rfl⟩
          go_wp2_with fail
          refine (HA.out _).mono ?_
          rintro e w4 ⟨rfl, hb4⟩
          have HB4 := Lib.hid (HD3.out.trans (hb4.mono HD3.out.size))
          clear hb4
          go_wp2_with fail
          refine (HG.out _).mono ?_
          rintro e w' ⟨rfl, rfl⟩
          go_wp2_with fail
          refine (HB.out _).mono ?_
          rintro e w5 ⟨rfl, hb5⟩
          have HB5 := Lib.hid (HB4.out.trans (hb5.mono HB4.out.size))
          clear hb5
          go_wp2_with fail
          refine (HF.out _).mono ?_
          rintro e w' ⟨rfl, rfl⟩
          go_wp2
          go_ret
          exact ⟨rfl, HB5.out⟩
        · have HG := Lib.hid (fun x => kfinite_no H x fH)
          clear HAH fL fH
          go_wp2_with fail
          refine (HN1.out _).mono ?_
          rintro e w' ⟨rfl, rfl⟩
          go_wp2_with fail
          refine (HN2.out _).mono ?_
          rintro e w' ⟨rfl, rfl⟩
          go_wp2_with fail
          refine (HF.out _).mono ?_
          rintro e w' ⟨rfl, rfl⟩
          go_wp2_with fail
          refine (HA.out _).mono ?_
          rintro e w4 ⟨rfl, hb4⟩
          have HB4 := Lib.hid (HD3.out.trans (hb4.mono HD3.out.size))
          clear hb4
          go_wp2_with fail
          refine (HG.out _).mono ?_
          rintro e w5 ⟨rfl, hd5⟩
          have HB5 := Lib.hid (HB4.out.trans (hd5.below w.heap.size))
          clear hd5
          go_wp2_with fail
          refine (HF.out _).mono ?_
          rintro e w' ⟨rfl, rfl⟩
          go_wp2
          go_ret
          exact ⟨rfl, HB5.out⟩
      · have fH : Fl.rg H < Fl.I := hno.resolve_left fL
        have HF := Lib.hid (fun x => kfinite_no L x fL)
        have HG := Lib.hid (fun x => kfinite_yes H x lH fH)
        have HB := Lib.hid (HAH.out fH)
        clear HAH HAL hno fL fH
        go_wp2_with fail
        refine (HN1.out _).mono ?_
        rintro e w' ⟨rfl, rfl⟩
        go_wp2_with fail
        refine (HN2.out _).mono ?_
        rintro e w' ⟨rfl, rfl⟩
        go_wp2_with fail
        refine (HF.out _).mono ?_
        rintro e w4 ⟨rfl, hd4⟩
        have HB4 := Lib.hid (HD3.out.trans (hd4.below w.heap.size))
        clear hd4
        go_wp2_with fail
        refine (HG.out _).mono ?_
        rintro e w' ⟨rfl, rfl⟩
        go_wp2_with fail
        refine (HB.out _).mono ?_
        rintro e w5 ⟨rfl, hb5⟩
        have HB5 := Lib.hid (HB4.out.trans (hb5.mono HB4.out.size))
        clear hb5
        go_wp2_with fail
        refine (HF.out _).mono ?_
        rintro e w6 ⟨rfl, hd6⟩
        have HB6 := Lib.hid (HB5.out.trans (hd6.below w.heap.size))
        clear hd6
        go_wp2_with fail
        refine (HG.out _).mono ?_
        rintro e w' ⟨rfl, rfl⟩
        go_wp2
        go_ret
        exact ⟨rfl, HB6.out⟩
theorem wf_int64 {n : Int} (h : (Lit.int .i64 n).wf = true) : -9223372036854775808 ≤ n ∧ n ≤ 9223372036854775807 := by
  have h1 : IntKind.i64.min ≤ n ∧ n ≤ 9223372036854775807 := by simpa [Lit.wf] using h
  exact ⟨h1.1, h1.2⟩
theorem edgeBetween_walk (op : Int) (a b : Nat) (ho : (Lit.int .i64 op).wf = true) (ha : (Lit.float .f64 a).wf = true) (hb : (Lit.float .f64 b).wf = true) (w : World) :
    Calls Try.prog 9 #[.int .i64 op, .float .f64 a, .float .f64 b] w fun e w' => e = .returned (.bool true) ∧ Below w.heap.size w w' :=
  between_any op a b w (wf_int64 ho).1 (wf_int64 ho).2 (wf_float ha) (wf_float hb)
end Go.Proofs.Ytgockebgcbmgoaa

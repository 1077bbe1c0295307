/-
  The row of CutSums: for every input the call answers true, and every argument reads behind it as before. No condition.
  How slices of integers and whole numbers by value come in.
  Walk of CutSums.
-/
import Derived.Test.YtclnmheplecknaaS3
import Derived.ProofKit
import Derived.OpenShut
import Derived.Laws.Cover2
import Derived.Deep.Slices
import Derived.Lib.SmallJoins
import Derived.Test.YtclnmheplecknaaRows
import Derived.WalkKit
set_option linter.unusedVariables false
set_option linter.unusedSimpArgs false
namespace Go.Proofs.Ytclnmheplecknaa
open Go.RowKit
theorem tmod62 (x : Int) : -4611686018427387904 < x.tmod 4611686018427387904 ∧ x.tmod 4611686018427387904 < 4611686018427387904 := ⟨Int.lt_tmod_of_pos x (by omega), Int.tmod_lt_of_pos x (by omega)⟩
def rowM (l : List Int) (n : Nat) : List Int := (l.take n).map fun x => x.tmod 4611686018427387904
theorem rowM_len {l : List Int} {n : Nat} (h : n ≤ l.length) : (rowM l n).length = n := by unfold rowM; rw [List.length_map, List.length_take, Nat.min_eq_left h]
theorem rowM_get {l : List Int} {n i : Nat} {x : Int} (h : l[i]? = some x) (hi : i < n) : (rowM l n)[i]? = some (x.tmod 4611686018427387904) := by
  unfold rowM
  rw [List.getElem?_map, List.getElem?_take, if_pos hi, h]; rfl
theorem rowM_b {l : List Int} {n : Nat} : ∀ x ∈ rowM l n, -4611686018427387904 < x ∧ x < 4611686018427387904 := fun x hx => by
  obtain ⟨y, _, rfl⟩ := List.mem_map.1 hx
  exact tmod62 y
theorem take_next {l : List Int} {i : Nat} {x : Int} (h : l[i]? = some x) : l.take (i + 1) = l.take i ++ [x] := by rw [List.take_add_one, h]; rfl
/-- Sign and limbs of a whole number. -/
def nS (V : Int) : Bool := decide (V < 0)
def nD (V : Int) : List Int := Nt.dg 18446744073709551616 V.natAbs
theorem nD_dig (V : Int) : Nt.Dig 18446744073709551616 (nD V) := Nt.dig_dg _ (by decide) _
theorem nD_val (V : Int) : Nt.val 18446744073709551616 (nD V) = V.natAbs := Nt.val_dg _ (by decide) _
theorem nSD (V : Int) : sgI (nS V) (Nt.val 18446744073709551616 (nD V)) = V := by
  rw [nD_val]
  unfold sgI nS
  by_cases h : V < 0
  · rw [decide_eq_true h, if_pos rfl]; omega
  · rw [decide_eq_false h, if_neg (by decide)]; omega
theorem nR (V : Int) (hl : (nD V).length ≤ 4096) : rightB (nS V) (nD V) = true := by
  unfold rightB
  by_cases h0 : (nD V).length = 0
  · rw [if_pos h0]
    have h1 := nD_val V
    rw [List.eq_nil_of_length_eq_zero h0] at h1
    unfold nS
    rw [decide_eq_false (by simp [Nt.val] at h1; omega)]
    rfl
  · rw [if_neg h0, decide_eq_true hl, Bool.true_and]
    have hz : V.natAbs ≠ 0 := fun hz => h0 (by unfold nD; rw [hz, Nt.dg_zero]; rfl)
    obtain ⟨t, m, h1, h2, h3, _⟩ := dg_top 18446744073709551616 (by decide) V.natAbs hz
    unfold nD
    rw [h1, Nat.add_sub_cancel, h2]
    simp
    omega
theorem nS_neg (V : Int) : (decide (Nt.val 18446744073709551616 (nD V) ≠ 0) && !nS V) = nS (-V) := by
  rw [nD_val]
  unfold nS
  by_cases h : V < 0
  · rw [decide_eq_true h, decide_eq_false (show ¬ -V < 0 by omega)]; simp
  · by_cases h0 : V = 0
    · subst h0; rfl
    · rw [decide_eq_false h, decide_eq_true (show -V < 0 by omega), decide_eq_true (show V.natAbs ≠ 0 by omega)]; rfl
theorem nD_neg (V : Int) : nD (-V) = nD V := by unfold nD; rw [Int.natAbs_neg]
theorem nS_up (b : Nat) (V : Int) : nS (((2 ^ b : Nat) : Int) * V) = nS V := by
  unfold nS
  have hp : (0 : Int) < ((2 ^ b : Nat) : Int) := by have := Nat.two_pow_pos b; omega
  by_cases h : V < 0
  · rw [decide_eq_true h, decide_eq_true (Int.mul_neg_of_pos_of_neg hp h)]
  · rw [decide_eq_false h, decide_eq_false (by have := Int.mul_nonneg (Int.le_of_lt hp) (show 0 ≤ V by omega); omega)]
theorem nD_up (b : Nat) (V : Int) : nD (((2 ^ b : Nat) : Int) * V) = Nt.dg 18446744073709551616 (2 ^ b * Nt.val 18446744073709551616 (nD V)) := by
  rw [nD_val]
  unfold nD
  rw [Int.natAbs_mul, Int.natAbs_natCast]
/-- cut.Whole of a row whose value is V. -/
theorem whole_row {b : Nat} {R : List Int} {V : Int} (hb1 : 2 ≤ b) (hb2 : b ≤ 30) (hR : L64 R) (hlen : R.length ≤ 1000) (hV : sv ((2 ^ b : Nat) : Int) R = V) (x : World) (A : Option Addr) (c n : Nat) (hu : UL x A n c R) :
    Calls Try.prog 18 #[.slice A n c, .int .i64 b] x fun e w' => ∃ A' c', e = .returned (.tuple #[.agg #[.bool (nS V), .slice A' (nD V).length c'], .int .i64 0]) ∧ U w' A' (nD V).length c' (nD V) ∧ Below x.heap.size x w' := by
  obtain ⟨h1, h2, h3, h4⟩ := wide_of hb1 hb2 hR hlen hV
  have h := cwhole_any A n c b R x hu hR (by have := hu.1; omega)
  unfold WPost at h
  rw [h1, h2, h3] at h
  exact h
theorem whole_len {b : Nat} {R : List Int} {V : Int} (hb1 : 2 ≤ b) (hb2 : b ≤ 30) (hR : L64 R) (hlen : R.length ≤ 1000) (hV : sv ((2 ^ b : Nat) : Int) R = V) : (nD V).length ≤ 500 := (wide_of hb1 hb2 hR hlen hV).2.2.2
theorem add_nD (VX VY : Int) (hx : (nD VX).length ≤ 500) (hy : (nD VY).length ≤ 500) (x : World) (B B' : Option Addr) (j j' : Nat) (hu : U x B (nD VX).length j (nD VX)) (hu' : U x B' (nD VY).length j' (nD VY)) :
    Calls Try.prog 30 #[.agg #[.bool (nS VX), .slice B (nD VX).length j], .agg #[.bool (nS VY), .slice B' (nD VY).length j']] x fun e w' => ∃ A' c', e = .returned (.tuple #[.agg #[.bool (nS (VX + VY)), .slice A' (nD (VX + VY)).length c'], .int .i64 0]) ∧ U w' A' (nD (VX + VY)).length c' (nD (VX + VY)) ∧ Below x.heap.size x w' :=
  limadd_any (nS VX) B (nD VX).length j (nD VX) (nS VY) B' (nD VY).length j' (nD VY) (VX + VY) x hu hu' (nD_dig _) (nD_dig _) (nR _ (by omega)) (nR _ (by omega)) (by omega) (by omega) (by rw [nSD, nSD])
theorem neg_nD (VX : Int) (hx : (nD VX).length ≤ 500) (x : World) (B : Option Addr) (j : Nat) (hu : U x B (nD VX).length j (nD VX)) :
    Calls Try.prog 31 #[.agg #[.bool (nS VX), .slice B (nD VX).length j]] x fun e w' => ∃ A' c', e = .returned (.tuple #[.agg #[.bool (nS (-VX)), .slice A' (nD (-VX)).length c'], .int .i64 0]) ∧ U w' A' (nD (-VX)).length c' (nD (-VX)) ∧ Below x.heap.size x w' := by
  have h := neg_any (nS VX) B (nD VX).length j (nD VX) x hu (by omega) (nD_dig _) (nR _ (by omega))
  rw [nS_neg] at h
  rw [nD_neg]
  exact h
theorem up_nD {b : Nat} (hb1 : 2 ≤ b) (hb2 : b ≤ 30) (VX : Int) (hx : (nD VX).length ≤ 500) (x : World) (B : Option Addr) (j : Nat) (hu : U x B (nD VX).length j (nD VX)) :
    Calls Try.prog 32 #[.agg #[.bool (nS VX), .slice B (nD VX).length j], .int .i64 b] x fun e w' => ∃ A' c', e = .returned (.tuple #[.agg #[.bool (nS (((2 ^ b : Nat) : Int) * VX)), .slice A' (nD (((2 ^ b : Nat) : Int) * VX)).length c'], .int .i64 0]) ∧ U w' A' (nD (((2 ^ b : Nat) : Int) * VX)).length c' (nD (((2 ^ b : Nat) : Int) * VX)) ∧ Below x.heap.size x w' := by
  have h := shift_any (nS VX) B (nD VX).length j b (nD VX) x hu (by omega) (nD_dig _) (nR _ (by omega)) hb1 hb2
  rw [nS_up, nD_up]
  exact h
set_option maxRecDepth 400000 in
set_option maxHeartbeats 4000000 in
theorem cutSums_walk (w : World) (A : Option Addr) (n c : Nat) (l : List Int) (A2 : Option Addr) (n2 c2 : Nat) (l2 : List Int) (b0 : Int) (hs : UL w A n c l ∧ L64 l ∧ c ≤ 9223372036854775807) (hs2 : UL w A2 n2 c2 l2 ∧ L64 l2 ∧ c2 ≤ 9223372036854775807) (wb : (Lit.int .i64 b0).wf = true) :
    Calls Try.prog 10 #[.slice A n c, .slice A2 n2 c2, .int .i64 b0] w fun e w' => e = .returned (.bool true) ∧ Below w.heap.size w w' := by
  obtain ⟨i0, hi0, hz0, hz1, hz2⟩ := info_parts i64_info
  have HA := Lib.hid (fun w => awake14_any w)
  have HP := Lib.hid (fun w => pick_any b0 29 w (by decide) (by decide) (wf_i64 wb).1 (wf_i64 wb).2)
  have HU1 := Lib.hid hs.1
  have HU2 := Lib.hid hs2.1
  obtain ⟨m, hm⟩ : ∃ m, m = min n (min n2 200) := ⟨_, rfl⟩
  have hmn : m ≤ n ∧ m ≤ n2 ∧ m ≤ 200 := by omega
  obtain ⟨X, hX⟩ : ∃ X, X = rowM l m := ⟨_, rfl⟩
  obtain ⟨Y, hY⟩ : ∃ Y, Y = rowM l2 m := ⟨_, rfl⟩
  have hXl : X.length = m := by rw [hX]; exact rowM_len (by rw [hs.1.1]; omega)
  have hYl : Y.length = m := by rw [hY]; exact rowM_len (by rw [hs2.1.1]; omega)
  obtain ⟨S, hS⟩ : ∃ S, S = List.zipWith (· + ·) X Y := ⟨_, rfl⟩
  obtain ⟨T, hT⟩ : ∃ T, T = X.map (fun x => -x) := ⟨_, rfl⟩
  have HST : Hid (∀ i x y, l[i]? = some x → l2[i]? = some y → i < m → X.take (i + 1) = X.take i ++ [x.tmod 4611686018427387904] ∧ Y.take (i + 1) = Y.take i ++ [y.tmod 4611686018427387904] ∧ S.take (i + 1) = S.take i ++ [x.tmod 4611686018427387904 + y.tmod 4611686018427387904] ∧ T.take (i + 1) = T.take i ++ [-(x.tmod 4611686018427387904)]) := Lib.hid (fun i x y hx hy hi => by
    have h1 : X[i]? = some (x.tmod 4611686018427387904) := by rw [hX]; exact rowM_get hx hi
    have h2 : Y[i]? = some (y.tmod 4611686018427387904) := by rw [hY]; exact rowM_get hy hi
    refine ⟨take_next h1, take_next h2, take_next ?_, take_next ?_⟩
    · rw [hS, List.getElem?_zipWith, h1, h2]
    · rw [hT, List.getElem?_map, h1]; rfl)
  have HTL : Hid (∀ (R : List Int) i, (R.take i).length ≤ i) := Lib.hid (fun R i => by rw [List.length_take]; exact Nat.min_le_left _ _)
  have HL1 := Lib.hid hs.1.1
  have HL2 := Lib.hid hs2.1.1
  have HXL := Lib.hid hXl
  have HYL := Lib.hid hYl
  have HXE := Lib.hid hX
  have HYE := Lib.hid hY
  have HSE := Lib.hid hS
  have HTE := Lib.hid hT
  clear hs hs2 hX hY hS hT hXl hYl
  go_enter Try.func10, Try.ntmps10
  go_wp2_with fail
  refine (HA.out _).mono ?_
  rintro e w1 ⟨rfl, hb⟩
  have HB1 := Lib.hid hb
  clear hb
  go_upto_region 3 with fail
  go_cut [7] (fun s7 wx => s7 = .int .i64 m ∧ wx = w1)
  case first =>
    go_wp2_with fail
    all_goals (go_meet; exact ⟨congrArg (Value.int .i64) (by omega), rfl⟩)
  case rest =>
    obtain ⟨rfl, rfl⟩ := hcut
    clear hm
    go_wp2_with fail
    refine (HP.out _).mono ?_
    rintro e w' ⟨k, rfl, hk, rfl⟩
    obtain ⟨b, hbk⟩ : ∃ b : Nat, b = 2 + k := ⟨_, rfl⟩
    have hbk2 : (2 : Int) + (k : Int) = (b : Int) := by omega
    have hb1 : 2 ≤ b := by omega
    have hb2 : b ≤ 30 := by omega
    clear hbk hk
    go_wp2_with fail
    go_loopw [9, 10, 11, 12, 13] (fun v1 v2 v3 v4 iv wr => ∃ i : Nat, iv = .int .i64 i ∧ i ≤ m ∧ Hid (Four wc wr v1 v2 v3 v4 (X.take i) (Y.take i) (S.take i) (T.take i))) (fun _ _ _ _ iv _ => m - (intOf iv).toNat)
    case atStart => exact ⟨0, rfl, Nat.zero_le _, Lib.hid (Four.start wc wc (Below.refl _ _))⟩
    case round =>
      obtain ⟨i, rfl, him, HF⟩ := hrel
      have HB := Lib.hid (HB1.out.trans (HF.out.1.mono HB1.out.size))
      by_cases hlt : i < m
      · obtain ⟨x, hx⟩ : ∃ x, l[i]? = some x := ⟨_, List.getElem?_eq_getElem (by have := HL1.out; omega)⟩
        obtain ⟨y, hy⟩ : ∃ y, l2[i]? = some y := ⟨_, List.getElem?_eq_getElem (by have := HL2.out; omega)⟩
        obtain ⟨ad1, rfl, _, hc1⟩ := (HU1.out.below HB.out).2.2.2 i x hx
        obtain ⟨ad2, rfl, _, hc2⟩ := (HU2.out.below HB.out).2.2.2 i y hy
        have hin1 : i < n := by omega
        have hin2 : i < n2 := by omega
        have HNX := HST.out i x y hx hy hlt
        have hpb := tmod62 x
        have hqb := tmod62 y
        obtain ⟨p, hp⟩ : ∃ p, x.tmod 4611686018427387904 = p := ⟨_, rfl⟩
        obtain ⟨q, hq⟩ : ∃ q, y.tmod 4611686018427387904 = q := ⟨_, rfl⟩
        obtain ⟨sm, hsm⟩ : ∃ sm, p + q = sm := ⟨_, rfl⟩
        obtain ⟨ng, hng⟩ : ∃ ng, -p = ng := ⟨_, rfl⟩
        rw [hp] at hpb
        rw [hq] at hqb
        rw [hp, hq, hsm, hng] at HNX
        have HN2 := Lib.hid HNX
        have t1 : wrap64 (p + q) = sm := by rw [← hsm]; unfold wrap64; omega
        have t2 : wrap64 (-p) = ng := by rw [← hng]; unfold wrap64; omega
        have t3 : wrap64 p = p := by unfold wrap64; omega
        have t4 : wrap64 q = q := by unfold wrap64; omega
        have t5 : wrap64 sm = sm := by rw [← hsm]; unfold wrap64; omega
        have t6 : wrap64 ng = ng := by rw [← hng]; unfold wrap64; omega
        have HTLM : Hid (∀ R : List Int, (R.take i).length + 1 ≤ maxLen) := Lib.hid (fun R => by have := HTL.out R i; simp only [maxLen]; omega)
        have HTLB : Hid (∀ R : List Int, ((R.take i).length + 1) * 8 ≤ 140737488355328) := Lib.hid (fun R => by have := HTL.out R i; omega)
        have HLT := Lib.hid hlt
        clear hx hy HNX hpb hqb
        go_wp2_with fail
        go_quiet (fail)
        rename_i nq
        have HF0 := Lib.hid (HF.out.drewN nq)
        generalize wr.drewN nq = wd at HF0 ⊢
        go_wp2_with (first
          | (at_builtin; refine wpList_append_own_at _ rfl (.tmp 54) (.tmp 56) _ rfl wc.heap.size 2 i0 _ 1 8 Try.underlying27 hi0 hz0 hz1 hz2 rfl (Nat.le_refl 1) u9 _ _ rfl (HF0.out.alloc (.cells #[.int .i64 p] 2)).2.1.1 ⟨wd.heap.size, 0, none⟩ 1 1 [Value.int .i64 p] rfl (cell1L wd p 2).1 (cell1L wd p 2).2.1 (cell1L wd p 2).2.2 (HTLM.out _) (HTLB.out _) (HF0.out.alloc (.cells #[.int .i64 p] 2)).size ?_; intro v1a wa hown hg _ hloc; have HF1 := Lib.hid ((HF0.out.alloc (.cells #[.int .i64 p] 2)).next hown hg hloc); clear hown hg hloc)
          | (at_builtin; refine wpList_append_own_at _ rfl (.tmp 58) (.tmp 60) _ rfl wc.heap.size 2 i0 _ 1 8 Try.underlying27 hi0 hz0 hz1 hz2 rfl (Nat.le_refl 1) u10 _ _ rfl (HF1.out.alloc (.cells #[.int .i64 q] 2)).2.1.1 ⟨wa.heap.size, 0, none⟩ 1 1 [Value.int .i64 q] rfl (cell1L wa q 2).1 (cell1L wa q 2).2.1 (cell1L wa q 2).2.2 (HTLM.out _) (HTLB.out _) (HF1.out.alloc (.cells #[.int .i64 q] 2)).size ?_; intro v2a we hown hg _ hloc; have HF2 := Lib.hid ((HF1.out.alloc (.cells #[.int .i64 q] 2)).next hown hg hloc); clear hown hg hloc)
          | (at_builtin; refine wpList_append_own_at _ rfl (.tmp 62) (.tmp 66) _ rfl wc.heap.size 2 i0 _ 1 8 Try.underlying27 hi0 hz0 hz1 hz2 rfl (Nat.le_refl 1) u11 _ _ rfl (HF2.out.alloc (.cells #[.int .i64 sm] 2)).2.1.1 ⟨we.heap.size, 0, none⟩ 1 1 [Value.int .i64 sm] rfl (cell1L we sm 2).1 (cell1L we sm 2).2.1 (cell1L we sm 2).2.2 (HTLM.out _) (HTLB.out _) (HF2.out.alloc (.cells #[.int .i64 sm] 2)).size ?_; intro v3a wg hown hg _ hloc; have HF3 := Lib.hid ((HF2.out.alloc (.cells #[.int .i64 sm] 2)).next hown hg hloc); clear hown hg hloc)
          | (at_builtin; refine wpList_append_own_at _ rfl (.tmp 68) (.tmp 71) _ rfl wc.heap.size 2 i0 _ 1 8 Try.underlying27 hi0 hz0 hz1 hz2 rfl (Nat.le_refl 1) u12 _ _ rfl (HF3.out.alloc (.cells #[.int .i64 ng] 2)).2.1.1 ⟨wg.heap.size, 0, none⟩ 1 1 [Value.int .i64 ng] rfl (cell1L wg ng 2).1 (cell1L wg ng 2).2.1 (cell1L wg ng 2).2.2 (HTLM.out _) (HTLB.out _) (HF3.out.alloc (.cells #[.int .i64 ng] 2)).size ?_; intro v4a wh hown hg _ hloc; have HF4 := Lib.hid ((HF3.out.alloc (.cells #[.int .i64 ng] 2)).next hown hg hloc); clear hown hg hloc))
        refine ⟨⟨i + 1, by go_num, HLT.out, Lib.hid ?_⟩, by have := HLT.out; simp [intOf]; omega⟩
        have h := HN2.out
        rw [h.1, h.2.1, h.2.2.1, h.2.2.2]
        exact HF4.out
      · obtain rfl : m = i := by omega
        have e1 : X.take m = X := List.take_of_length_le (by rw [HXL.out]; exact Nat.le_refl _)
        have e2 : Y.take m = Y := List.take_of_length_le (by rw [HYL.out]; exact Nat.le_refl _)
        have hSl : S.length = m := by rw [HSE.out, List.length_zipWith, HXL.out, HYL.out, Nat.min_self]
        have hTl : T.length = m := by rw [HTE.out, List.length_map]; exact HXL.out
        have e3 : S.take m = S := List.take_of_length_le (by rw [hSl]; exact Nat.le_refl _)
        have e4 : T.take m = T := List.take_of_length_le (by rw [hTl]; exact Nat.le_refl _)
        have hf := HF.out
        rw [e1, e2, e3, e4] at hf
        obtain ⟨_, ⟨o1, o2, o3, o4⟩, _⟩ := hf
        rw [HXL.out] at o1
        rw [HYL.out] at o2
        rw [hSl] at o3
        rw [hTl] at o4
        obtain ⟨A1, k1, rfl, ul1⟩ := UL.of_own o1
        obtain ⟨A2, k2, rfl, ul2⟩ := UL.of_own o2
        obtain ⟨A3, k3, rfl, ul3⟩ := UL.of_own o3
        obtain ⟨A4, k4, rfl, ul4⟩ := UL.of_own o4
        have HUL := Lib.hid (show UL wr A1 m k1 X ∧ UL wr A2 m k2 Y ∧ UL wr A3 m k3 S ∧ UL wr A4 m k4 T from ⟨ul1, ul2, ul3, ul4⟩)
        obtain ⟨VX, hVX⟩ : ∃ VX, sv ((2 ^ b : Nat) : Int) X = VX := ⟨_, rfl⟩
        obtain ⟨VY, hVY⟩ : ∃ VY, sv ((2 ^ b : Nat) : Int) Y = VY := ⟨_, rfl⟩
        have hVS : sv ((2 ^ b : Nat) : Int) S = VX + VY := by rw [HSE.out, sv_add _ _ _ (by rw [HXL.out, HYL.out]), hVX, hVY]
        have hVT : sv ((2 ^ b : Nat) : Int) T = -VX := by rw [HTE.out, sv_neg, hVX]
        have hVZ : sv ((2 ^ b : Nat) : Int) (0 :: X) = ((2 ^ b : Nat) : Int) * VX := by rw [sv_zero, hVX]
        have bX : ∀ x ∈ X, -4611686018427387904 < x ∧ x < 4611686018427387904 := by rw [HXE.out]; exact rowM_b
        have bY : ∀ x ∈ Y, -4611686018427387904 < x ∧ x < 4611686018427387904 := by rw [HYE.out]; exact rowM_b
        have lX : L64 X := fun x hx => by have := bX x hx; omega
        have lY : L64 Y := fun x hx => by have := bY x hx; omega
        have lS : L64 S := fun x hx => by
          rw [HSE.out] at hx
          obtain ⟨i, hi⟩ := List.getElem?_of_mem hx
          rw [List.getElem?_zipWith] at hi
          cases h1 : X[i]? with
          | none => rw [h1] at hi; simp at hi
          | some u =>
            cases h2 : Y[i]? with
            | none => rw [h1, h2] at hi; simp at hi
            | some v =>
              rw [h1, h2] at hi
              have e : u + v = x := by simpa using hi
              have := bX u (List.mem_of_getElem? h1)
              have := bY v (List.mem_of_getElem? h2)
              omega
        have lT : L64 T := fun x hx => by
          rw [HTE.out] at hx
          obtain ⟨y, hy, rfl⟩ := List.mem_map.1 hx
          have := bX y hy
          omega
        have lZ : L64 (0 :: X) := fun x hx => by
          rcases List.mem_cons.1 hx with rfl | h
          · omega
          · exact lX x h
        have HW1 := Lib.hid (whole_row hb1 hb2 lX (by rw [HXL.out]; omega) hVX)
        have HW2 := Lib.hid (whole_row hb1 hb2 lY (by rw [HYL.out]; omega) hVY)
        have HW3 := Lib.hid (whole_row hb1 hb2 lS (by rw [hSl]; omega) hVS)
        have HW4 := Lib.hid (whole_row hb1 hb2 lT (by rw [hTl]; omega) hVT)
        have HW5 := Lib.hid (whole_row hb1 hb2 lZ (by rw [List.length_cons, HXL.out]; omega) hVZ)
        have HK1 : Hid ((nD VX).length ≤ 500) := Lib.hid (whole_len hb1 hb2 lX (by rw [HXL.out]; omega) hVX)
        have HK2 : Hid ((nD VY).length ≤ 500) := Lib.hid (whole_len hb1 hb2 lY (by rw [HYL.out]; omega) hVY)
        have HK3 : Hid ((nD (VX + VY)).length ≤ 500) := Lib.hid (whole_len hb1 hb2 lS (by rw [hSl]; omega) hVS)
        have HK4 : Hid ((nD (-VX)).length ≤ 500) := Lib.hid (whole_len hb1 hb2 lT (by rw [hTl]; omega) hVT)
        have HK5 : Hid ((nD (((2 ^ b : Nat) : Int) * VX)).length ≤ 500) := Lib.hid (whole_len hb1 hb2 lZ (by rw [List.length_cons, HXL.out]; omega) hVZ)
        have HAD := Lib.hid (add_nD VX VY HK1.out HK2.out)
        have HNE := Lib.hid (neg_nD VX HK1.out)
        have HSH := Lib.hid (up_nD hb1 hb2 VX HK1.out)
        generalize VX + VY = VS at *
        generalize -VX = VT at *
        generalize ((2 ^ b : Nat) : Int) * VX = VZ at *
        clear e1 e2 e3 e4 o2 o3 o4 ul1 ul2 ul3 ul4 hVX hVY hVS hVT hVZ bX bY lX lY lS lT lZ hSl hTl o1 HF HST HTL HXE HYE HSE HTE HXL HYL HU1 HU2 HL1 HL2
        go_wp2_with fail
        refine (HW1.out wr _ _ _ HUL.out.1).mono ?_
        rintro e w2 ⟨B1, j1, rfl, hu, hb⟩
        have HBR1 := Lib.hid hb
        have HV1 := Lib.hid hu
        clear hu hb
        go_wp2_with fail
        have HBW2 : Hid (Below w2.heap.size w2 (w2.alloc (.cells #[.bool (nS VX), .slice B1 (nD VX).length j1] 24))) := Lib.hid ((Below.refl _ _).alloc (Nat.le_refl _) _)
        refine (HW2.out (w2.alloc (.cells #[.bool (nS VX), .slice B1 (nD VX).length j1] 24)) _ _ _ (HUL.out.2.1.below (HBR1.out.trans (HBW2.out.mono HBR1.out.size)))).mono ?_
        rintro e w3 ⟨B2, j2, rfl, hu, hb⟩
        have hbb := HBW2.out.trans (hb.mono HBW2.out.size)
        have HBR2 := Lib.hid (HBR1.out.trans (hbb.mono HBR1.out.size))
        have HX1 := Lib.hid ((Box1.new w2 (nS VX) B1 (nD VX).length j1 24).below hb)
        have HV1 := Lib.hid (HV1.out.below hbb)
        clear hbb HBW2
        have HV2 := Lib.hid hu
        clear hu hb
        go_wp2_with fail
        have HBW3 : Hid (Below w3.heap.size w3 (w3.alloc (.cells #[.bool (nS VY), .slice B2 (nD VY).length j2] 24))) := Lib.hid ((Below.refl _ _).alloc (Nat.le_refl _) _)
        refine (HW3.out (w3.alloc (.cells #[.bool (nS VY), .slice B2 (nD VY).length j2] 24)) _ _ _ (HUL.out.2.2.1.below (HBR2.out.trans (HBW3.out.mono HBR2.out.size)))).mono ?_
        rintro e w4 ⟨B3, j3, rfl, hu, hb⟩
        have hbb := HBW3.out.trans (hb.mono HBW3.out.size)
        have HBR3 := Lib.hid (HBR2.out.trans (hbb.mono HBR2.out.size))
        have HX1 := Lib.hid (HX1.out.below hbb)
        have HV1 := Lib.hid (HV1.out.below hbb)
        have HX2 := Lib.hid ((Box1.new w3 (nS VY) B2 (nD VY).length j2 24).below hb)
        have HV2 := Lib.hid (HV2.out.below hbb)
        clear hbb HBW3
        have HV3 := Lib.hid hu
        clear hu hb
        go_wp2_with fail
        have HBW4 : Hid (Below w4.heap.size w4 (w4.alloc (.cells #[.bool (nS VS), .slice B3 (nD VS).length j3] 24))) := Lib.hid ((Below.refl _ _).alloc (Nat.le_refl _) _)
        refine (HW4.out (w4.alloc (.cells #[.bool (nS VS), .slice B3 (nD VS).length j3] 24)) _ _ _ (HUL.out.2.2.2.below (HBR3.out.trans (HBW4.out.mono HBR3.out.size)))).mono ?_
        rintro e w5 ⟨B4, j4, rfl, hu, hb⟩
        have hbb := HBW4.out.trans (hb.mono HBW4.out.size)
        have HBR4 := Lib.hid (HBR3.out.trans (hbb.mono HBR3.out.size))
        have HX1 := Lib.hid (HX1.out.below hbb)
        have HV1 := Lib.hid (HV1.out.below hbb)
        have HX2 := Lib.hid (HX2.out.below hbb)
        have HV2 := Lib.hid (HV2.out.below hbb)
        have HX3 := Lib.hid ((Box1.new w4 (nS VS) B3 (nD VS).length j3 24).below hb)
        have HV3 := Lib.hid (HV3.out.below hbb)
        clear hbb HBW4
        have HV4 := Lib.hid hu
        clear hu hb
        have HBRw5 := HBR4
        obtain ⟨W5, hW5⟩ : ∃ W5, W5 = w5.alloc (.cells #[.bool (nS VT), .slice B4 (nD VT).length j4] 24) := ⟨_, rfl⟩
        have HBW : Hid (Below w5.heap.size w5 W5) := Lib.hid (by rw [hW5]; exact (Below.refl _ _).alloc (Nat.le_refl _) _)
        have HBRW5 := Lib.hid (HBRw5.out.trans (HBW.out.mono HBRw5.out.size))
        have HX4 : Hid (Box1 w5.heap.size (nS VT) B4 (nD VT).length j4 W5) := Lib.hid (by rw [hW5]; exact Box1.new _ _ _ _ _ _)
        have HX1 := Lib.hid (HX1.out.below HBW.out)
        have HX2 := Lib.hid (HX2.out.below HBW.out)
        have HX3 := Lib.hid (HX3.out.below HBW.out)
        have HV1 := Lib.hid (HV1.out.below HBW.out)
        have HV2 := Lib.hid (HV2.out.below HBW.out)
        have HV3 := Lib.hid (HV3.out.below HBW.out)
        have HV4 := Lib.hid (HV4.out.below HBW.out)
        go_upto_region 16 with fail
        rw [← hW5]
        clear hW5 HBW
        have HLB : Hid (Below W5.heap.size W5 (W5.alloc (.cells #[.int .i64 0] 2))) := Lib.hid ((Below.refl _ _).alloc (Nat.le_refl _) _)
        have HNX := Lib.hid ((HUL.out.1.below HBRW5.out).below HLB.out).news
        have HM63 : Hid (1 + m ≤ maxLen) := Lib.hid (by simp only [maxLen]; omega)
        have HMBY : Hid ((1 + m) * 8 ≤ 140737488355328) := Lib.hid (by omega)
        go_wp2_with (at_builtin; refine append_row _ rfl (.tmp 98) (.tmp 99) _ rfl W5.heap.size 2 i0 _ 1 8 Try.underlying27 hi0 hz0 hz1 hz2 rfl (Nat.le_refl 1) _ 1 [Value.int .i64 0] rfl (own_lit W5 [0] (by decide)) A1 m k1 (X.map (Value.int .i64)) rfl HNX.out.1 HNX.out.2.1 HNX.out.2.2.1 HNX.out.2.2.2 HM63.out HMBY.out (by simp) ?_; intro v5 w5b hown hg _; have HGB := Lib.hid (HLB.out.grown hg HLB.out.size (fun k hk => by cases hk; exact Nat.le_refl _)); have HU5 : Hid (∃ A5 k5, v5 = .slice A5 (1 + m) k5 ∧ UL w5b A5 (1 + m) k5 (0 :: X)) := Lib.hid (UL.of_own (l := 0 :: X) hown); clear hown hg)
        obtain ⟨A5, k5, rfl, ul5⟩ := HU5.out
        refine (HW5.out w5b _ _ _ ul5).mono ?_
        rintro e w6 ⟨B5, j5, rfl, hu, hb⟩
        have hbb := HGB.out.trans (hb.mono HGB.out.size)
        have HBRw6 := Lib.hid (HBRW5.out.trans (hbb.mono HBRW5.out.size))
        have HX1 := Lib.hid (HX1.out.below hbb)
        have HX2 := Lib.hid (HX2.out.below hbb)
        have HX3 := Lib.hid (HX3.out.below hbb)
        have HX4 := Lib.hid (HX4.out.below hbb)
        have HV1 := Lib.hid (HV1.out.below hbb)
        have HV2 := Lib.hid (HV2.out.below hbb)
        have HV3 := Lib.hid (HV3.out.below hbb)
        have HV4 := Lib.hid (HV4.out.below hbb)
        have HV5 := Lib.hid hu
        clear hbb hb hu ul5
        go_upto_region 19 with fail
        obtain ⟨W6, hW6⟩ : ∃ W6, W6 = w6.alloc (.cells #[.bool (nS VZ), .slice B5 (nD VZ).length j5] 24) := ⟨_, rfl⟩
        have HBW : Hid (Below w6.heap.size w6 W6) := Lib.hid (by rw [hW6]; exact (Below.refl _ _).alloc (Nat.le_refl _) _)
        have HBRW6 := Lib.hid (HBRw6.out.trans (HBW.out.mono HBRw6.out.size))
        have HX5 : Hid (Box1 w6.heap.size (nS VZ) B5 (nD VZ).length j5 W6) := Lib.hid (by rw [hW6]; exact Box1.new _ _ _ _ _ _)
        have HX1 := Lib.hid (HX1.out.below HBW.out)
        have HX2 := Lib.hid (HX2.out.below HBW.out)
        have HX3 := Lib.hid (HX3.out.below HBW.out)
        have HX4 := Lib.hid (HX4.out.below HBW.out)
        have HV1 := Lib.hid (HV1.out.below HBW.out)
        have HV2 := Lib.hid (HV2.out.below HBW.out)
        have HV3 := Lib.hid (HV3.out.below HBW.out)
        have HV4 := Lib.hid (HV4.out.below HBW.out)
        have HV5 := Lib.hid (HV5.out.below HBW.out)
        rw [← hW6]
        clear hW6 HBW
        obtain ⟨p1, q1, _⟩ := HX1.out
        obtain ⟨p2, q2, _⟩ := HX2.out
        go_wp2_with fail
        refine (HAD.out W6 _ _ _ _ HV1.out HV2.out).mono ?_
        rintro e w7 ⟨B6, j6, rfl, hu, hb⟩
        have HBRw7 := Lib.hid (HBRW6.out.trans (hb.mono HBRW6.out.size))
        have HX1 := Lib.hid (HX1.out.below hb)
        have HV1 := Lib.hid (HV1.out.below hb)
        have HX2 := Lib.hid (HX2.out.below hb)
        have HV2 := Lib.hid (HV2.out.below hb)
        have HX3 := Lib.hid (HX3.out.below hb)
        have HV3 := Lib.hid (HV3.out.below hb)
        have HX4 := Lib.hid (HX4.out.below hb)
        have HV4 := Lib.hid (HV4.out.below hb)
        have HX5 := Lib.hid (HX5.out.below hb)
        have HV5 := Lib.hid (HV5.out.below hb)
        have HV6 := Lib.hid hu
        clear hu hb p1 q1 p2 q2
        obtain ⟨W7, hW7⟩ : ∃ W7, W7 = w7.alloc (.cells #[.bool (nS VS), .slice B6 (nD VS).length j6] 24) := ⟨_, rfl⟩
        have HBW : Hid (Below w7.heap.size w7 W7) := Lib.hid (by rw [hW7]; exact (Below.refl _ _).alloc (Nat.le_refl _) _)
        have HBRW7 := Lib.hid (HBRw7.out.trans (HBW.out.mono HBRw7.out.size))
        have HX6 : Hid (Box1 w7.heap.size (nS VS) B6 (nD VS).length j6 W7) := Lib.hid (by rw [hW7]; exact Box1.new _ _ _ _ _ _)
        have HX1 := Lib.hid (HX1.out.below HBW.out)
        have HX2 := Lib.hid (HX2.out.below HBW.out)
        have HX3 := Lib.hid (HX3.out.below HBW.out)
        have HX4 := Lib.hid (HX4.out.below HBW.out)
        have HX5 := Lib.hid (HX5.out.below HBW.out)
        have HV1 := Lib.hid (HV1.out.below HBW.out)
        have HV2 := Lib.hid (HV2.out.below HBW.out)
        have HV3 := Lib.hid (HV3.out.below HBW.out)
        have HV4 := Lib.hid (HV4.out.below HBW.out)
        have HV5 := Lib.hid (HV5.out.below HBW.out)
        have HV6 := Lib.hid (HV6.out.below HBW.out)
        go_upto_region 20 with fail
        rw [← hW7]
        clear hW7 HBW
        obtain ⟨p1, q1, _⟩ := HX1.out
        go_wp2_with fail
        refine (HNE.out W7 _ _ HV1.out).mono ?_
        rintro e w8 ⟨B7, j7, rfl, hu, hb⟩
        have HBRw8 := Lib.hid (HBRW7.out.trans (hb.mono HBRW7.out.size))
        have HX1 := Lib.hid (HX1.out.below hb)
        have HV1 := Lib.hid (HV1.out.below hb)
        have HX2 := Lib.hid (HX2.out.below hb)
        have HV2 := Lib.hid (HV2.out.below hb)
        have HX3 := Lib.hid (HX3.out.below hb)
        have HV3 := Lib.hid (HV3.out.below hb)
        have HX4 := Lib.hid (HX4.out.below hb)
        have HV4 := Lib.hid (HV4.out.below hb)
        have HX5 := Lib.hid (HX5.out.below hb)
        have HV5 := Lib.hid (HV5.out.below hb)
        have HX6 := Lib.hid (HX6.out.below hb)
        have HV6 := Lib.hid (HV6.out.below hb)
        have HV7 := Lib.hid hu
        clear hu hb p1 q1
        obtain ⟨W8, hW8⟩ : ∃ W8, W8 = w8.alloc (.cells #[.bool (nS VT), .slice B7 (nD VT).length j7] 24) := ⟨_, rfl⟩
        have HBW : Hid (Below w8.heap.size w8 W8) := Lib.hid (by rw [hW8]; exact (Below.refl _ _).alloc (Nat.le_refl _) _)
        have HBRW8 := Lib.hid (HBRw8.out.trans (HBW.out.mono HBRw8.out.size))
        have HX7 : Hid (Box1 w8.heap.size (nS VT) B7 (nD VT).length j7 W8) := Lib.hid (by rw [hW8]; exact Box1.new _ _ _ _ _ _)
        have HX1 := Lib.hid (HX1.out.below HBW.out)
        have HX2 := Lib.hid (HX2.out.below HBW.out)
        have HX3 := Lib.hid (HX3.out.below HBW.out)
        have HX4 := Lib.hid (HX4.out.below HBW.out)
        have HX5 := Lib.hid (HX5.out.below HBW.out)
        have HX6 := Lib.hid (HX6.out.below HBW.out)
        have HV1 := Lib.hid (HV1.out.below HBW.out)
        have HV2 := Lib.hid (HV2.out.below HBW.out)
        have HV3 := Lib.hid (HV3.out.below HBW.out)
        have HV4 := Lib.hid (HV4.out.below HBW.out)
        have HV5 := Lib.hid (HV5.out.below HBW.out)
        have HV6 := Lib.hid (HV6.out.below HBW.out)
        have HV7 := Lib.hid (HV7.out.below HBW.out)
        go_upto_region 21 with fail
        rw [← hW8]
        clear hW8 HBW
        obtain ⟨p1, q1, _⟩ := HX1.out
        go_wp2_with fail
        refine (HSH.out W8 _ _ HV1.out).mono ?_
        rintro e w9 ⟨B8, j8, rfl, hu, hb⟩
        have HBRw9 := Lib.hid (HBRW8.out.trans (hb.mono HBRW8.out.size))
        have HX1 := Lib.hid (HX1.out.below hb)
        have HV1 := Lib.hid (HV1.out.below hb)
        have HX2 := Lib.hid (HX2.out.below hb)
        have HV2 := Lib.hid (HV2.out.below hb)
        have HX3 := Lib.hid (HX3.out.below hb)
        have HV3 := Lib.hid (HV3.out.below hb)
        have HX4 := Lib.hid (HX4.out.below hb)
        have HV4 := Lib.hid (HV4.out.below hb)
        have HX5 := Lib.hid (HX5.out.below hb)
        have HV5 := Lib.hid (HV5.out.below hb)
        have HX6 := Lib.hid (HX6.out.below hb)
        have HV6 := Lib.hid (HV6.out.below hb)
        have HX7 := Lib.hid (HX7.out.below hb)
        have HV7 := Lib.hid (HV7.out.below hb)
        have HV8 := Lib.hid hu
        clear hu hb p1 q1
        obtain ⟨W9, hW9⟩ : ∃ W9, W9 = w9.alloc (.cells #[.bool (nS VZ), .slice B8 (nD VZ).length j8] 24) := ⟨_, rfl⟩
        have HBW : Hid (Below w9.heap.size w9 W9) := Lib.hid (by rw [hW9]; exact (Below.refl _ _).alloc (Nat.le_refl _) _)
        have HBRW9 := Lib.hid (HBRw9.out.trans (HBW.out.mono HBRw9.out.size))
        have HX8 : Hid (Box1 w9.heap.size (nS VZ) B8 (nD VZ).length j8 W9) := Lib.hid (by rw [hW9]; exact Box1.new _ _ _ _ _ _)
        have HX1 := Lib.hid (HX1.out.below HBW.out)
        have HX2 := Lib.hid (HX2.out.below HBW.out)
        have HX3 := Lib.hid (HX3.out.below HBW.out)
        have HX4 := Lib.hid (HX4.out.below HBW.out)
        have HX5 := Lib.hid (HX5.out.below HBW.out)
        have HX6 := Lib.hid (HX6.out.below HBW.out)
        have HX7 := Lib.hid (HX7.out.below HBW.out)
        have HV1 := Lib.hid (HV1.out.below HBW.out)
        have HV2 := Lib.hid (HV2.out.below HBW.out)
        have HV3 := Lib.hid (HV3.out.below HBW.out)
        have HV4 := Lib.hid (HV4.out.below HBW.out)
        have HV5 := Lib.hid (HV5.out.below HBW.out)
        have HV6 := Lib.hid (HV6.out.below HBW.out)
        have HV7 := Lib.hid (HV7.out.below HBW.out)
        have HV8 := Lib.hid (HV8.out.below HBW.out)
        go_upto_region 22 with fail
        rw [← hW9]
        clear hW9 HBW
        obtain ⟨p1, p2, _⟩ := HX6.out
        obtain ⟨p3, p4, _⟩ := HX3.out
        go_wp2_with fail
        refine (same_int (nS VS) B6 (nD VS).length j6 B3 j3 (nD VS) W9 (by have := HK3.out; omega) HV6.out HV3.out).mono ?_
        rintro e w20 ⟨rfl, hb⟩
        have HBRw20 := Lib.hid (HBRW9.out.trans (hb.mono HBRW9.out.size))
        have HX7 := Lib.hid (HX7.out.below hb)
        have HV7 := Lib.hid (HV7.out.below hb)
        have HX4 := Lib.hid (HX4.out.below hb)
        have HV4 := Lib.hid (HV4.out.below hb)
        have HX8 := Lib.hid (HX8.out.below hb)
        have HV8 := Lib.hid (HV8.out.below hb)
        have HX5 := Lib.hid (HX5.out.below hb)
        have HV5 := Lib.hid (HV5.out.below hb)
        clear hb p1 p2 p3 p4
        obtain ⟨p1, p2, _⟩ := HX7.out
        obtain ⟨p3, p4, _⟩ := HX4.out
        go_wp2_with fail
        refine (same_int (nS VT) B7 (nD VT).length j7 B4 j4 (nD VT) w20 (by have := HK4.out; omega) HV7.out HV4.out).mono ?_
        rintro e w21 ⟨rfl, hb⟩
        have HBRw21 := Lib.hid (HBRw20.out.trans (hb.mono HBRw20.out.size))
        have HX8 := Lib.hid (HX8.out.below hb)
        have HV8 := Lib.hid (HV8.out.below hb)
        have HX5 := Lib.hid (HX5.out.below hb)
        have HV5 := Lib.hid (HV5.out.below hb)
        clear hb p1 p2 p3 p4
        obtain ⟨p1, p2, _⟩ := HX8.out
        obtain ⟨p3, p4, _⟩ := HX5.out
        go_wp2_with fail
        refine (same_int (nS VZ) B8 (nD VZ).length j8 B5 j5 (nD VZ) w21 (by have := HK5.out; omega) HV8.out HV5.out).mono ?_
        rintro e w22 ⟨rfl, hb⟩
        have HBRw22 := Lib.hid (HBRw21.out.trans (hb.mono HBRw21.out.size))
        clear hb p1 p2 p3 p4
        have HEND := Lib.hid (HB.out.trans (HBRw22.out.mono HB.out.size))
        go_wp2
        go_ret
        exact ⟨rfl, HEND.out⟩
end Go.Proofs.Ytclnmheplecknaa

namespace Go.Proofs.Ytclnmheplecknaa
open Go.ChangeShapes Go.WideShapes Go.ChangeAt Go.RowKit Go.Deep
theorem int_cell {H : Type} {enc : TypeId × Value → H} {P : Program} {w : World} {base : Nat} {spare : Nat → Bool} {held : Bool} {n : Nat} {e : TypeId} {k : IntKind} {v : Value} {x : DataW H × List MemPlace} (he : P.underlying e = some (.int k)) (h : DataW.trod enc P w base spare held n e [v] = some x) : ∃ b, v = .int k b ∧ (Lit.int k b).wf = true := by
  obtain ⟨b, hc, _, hw⟩ := DataW.trod_int he h
  cases v <;> simp [Value.cells] at hc
  obtain ⟨rfl, rfl⟩ := hc
  exact ⟨_, rfl, hw⟩
theorem in_ints {H : Type} {enc : TypeId × Value → H} {P : Program} {w : World} {t e : TypeId} {k : IntKind} {v : Value} {fuel : Nat} {x : DataW H × List MemPlace} (ht : P.underlying t = some (.slice e)) (he : P.underlying e = some (.int k)) (hc : P.cellsOf e = 1)
    (hd : DataW.trod enc P w 0 (fun _ => true) true fuel t [v] = some x) : ∃ (A : Option Addr) (n c : Nat) (l : List Int), v = .slice A n c ∧ (l.length = n ∧ n ≤ c ∧ (A = none → c = 0) ∧ ∀ j x, l[j]? = some x → ∃ ad, A = some ad ∧ ad.block < w.heap.size ∧ w.cell? (ad.add j) = some (.int k x)) ∧ (∀ x, x ∈ l → (Lit.int k x).wf = true) ∧ c ≤ 9223372036854775807 := by
  rcases open_slice1 ht hc hd with ⟨hcs, _⟩ | ⟨a, len, cap, m, q, V, D, Pl, hcs, _, hl, hm, hmm, _, hx⟩
  · obtain rfl : v = .slice none 0 0 := by simpa using hcs
    exact ⟨none, 0, 0, [], rfl, ⟨rfl, Nat.le_refl _, fun _ => rfl, fun j x hj => by simp at hj⟩, fun x hx => by simp at hx, by decide⟩
  · obtain rfl : v = .slice (some a) len cap := by simpa using hcs
    have hmc : m = cap := by rw [hmm]; simp
    have key : ∀ j : Nat, ∃ b : Int, j < len → V j = .int k b ∧ (Lit.int k b).wf = true := fun j => by
      by_cases hj : j < len
      · obtain ⟨h1, h2⟩ := hx j (by omega)
        obtain ⟨b, hb⟩ := int_cell he h2
        exact ⟨b, fun _ => hb⟩
      · exact ⟨0, fun h => absurd h hj⟩
    refine ⟨some a, len, cap, (List.range len).map fun j => Classical.choose (key j), rfl, ⟨by simp, hl, (fun h => by cases h), fun j x hj => ?_⟩, fun x hx' => ?_, by unfold maxLen at hm; omega⟩
    · have hjl : j < len := by have := (List.getElem?_eq_some_iff.1 hj).1; simpa using this
      rw [List.getElem?_map, List.getElem?_range hjl] at hj
      obtain rfl := Option.some.inj hj
      have hcell := (hx j (by omega)).1
      rw [(Classical.choose_spec (key j) hjl).1] at hcell
      refine ⟨a, rfl, ?_, hcell⟩
      have := World.block_lt_of_cell? w _ hcell
      rwa [add_block] at this
    · obtain ⟨j, hj, rfl⟩ := List.mem_map.1 hx'
      exact (Classical.choose_spec (key j) (List.mem_range.1 hj)).2
theorem in_longs {H : Type} {enc : TypeId × Value → H} {P : Program} {w : World} {r : Reach} {b0 : Nat} {t e : TypeId} {v : Value} {d : DataW H} {ps : List MemPlace} (ht : P.underlying t = some (.slice e)) (he : P.underlying e = some (.int .i64)) (hc : P.cellsOf e = 1)
    (hval : Value.okWide P w r b0 t v) (hd : DataW.Trod enc P w 0 (fun _ => true) true t v d ps) : ∃ (A : Option Addr) (n c : Nat) (l : List Int), v = .slice A n c ∧ (UL w A n c l ∧ L64 l ∧ c ≤ 9223372036854775807) := by
  obtain ⟨fuel, hf⟩ := hd
  obtain ⟨A0, n0, c0, rfl⟩ := okWide_slice ht hval
  obtain ⟨A, n, c, l, hv, hu, hw, hm⟩ := in_ints ht he hc hf
  refine ⟨A, n, c, l, hv, hu, fun x hx => ?_, hm⟩
  have := hw x hx
  simp [Lit.wf, IntKind.min, IntKind.max, IntKind.signed, IntKind.bits] at this
  omega
/-- A whole number by value. -/
theorem in_bigint {H : Type} {enc : TypeId × Value → H} {P : Program} {w : World} {r : Reach} {b0 : Nat} {t : TypeId} {f0 f1 : Field} {e : TypeId} {v : Value} {d : DataW H} {ps : List MemPlace} (hs : P.underlying t = some (.struct #[f0, f1])) (hone : oneCellFields P #[f0, f1] = true) (hC : P.cellsOf t = 2)
    (hb : P.underlying f0.type = some .bool) (ht : P.underlying f1.type = some (.slice e)) (he : P.underlying e = some (.int .u64)) (hc : P.cellsOf e = 1)
    (hval : Value.okWide P w r b0 t v) (hd : DataW.Trod enc P w 0 (fun _ => true) true t v d ps) : ∃ (s : Bool) (A : Option Addr) (n c : Nat) (l : List Int), v = .agg #[.bool s, .slice A n c] ∧ (U w A n c l ∧ Nt.Dig 18446744073709551616 l ∧ c ≤ 9223372036854775807) := by
  obtain ⟨v0, v1, y0, y1, m, rfl, _, _, h0, h1⟩ := Go.Joins.open_agg2 hs hone hC hval hd
  obtain ⟨s, hc0, _⟩ := DataW.trod_bool hb h0
  obtain rfl : v0 = .bool s := by simpa using hc0
  obtain ⟨A, n, c, l, rfl, hu, hw, hm⟩ := in_ints ht he hc h1
  refine ⟨s, A, n, c, l, rfl, hu, fun x hx => ?_, hm⟩
  have := hw x hx
  simp [Lit.wf, IntKind.min, IntKind.max, IntKind.signed, IntKind.bits] at this
  omega
end Go.Proofs.Ytclnmheplecknaa

namespace Go.Proofs.Ytclnmheplecknaa
open Go.ChangeShapes Go.WideShapes Go.ChangeAt Go.RowKit
namespace cutSums
theorem own : ownKnob Try.prog.godebug = none := by kernel_rfl
set_option maxRecDepth 100000 in
theorem lifted (os : Os) (started : os.Started) (H : Type) (enc : TypeId × Value → H) :
    ReturnsInHanded {} Try.checked os 10 .any (Rows.cutSumsSpec.pre6 enc Try.prog Try.f10 Rows.cutSumsRow.domain false) (Rows.cutSumsSpec.post enc Try.prog Try.f10 false true false false) := by
  refine returnsInHanded_of_change (C := Try.checked) own started (by kernel_rfl) Try.func10
    (ChangeSpec.witness6 (enc := enc) (C := Try.checked) false ⟨#[], #[.slice none 0 0, .slice none 0 0, .int .i64 0], []⟩ 8 (by kernel_rfl) (by kernel_rfl) (by kernel_rfl) (by kernel_rfl)) ?_
  intro W base args ds gs before hval0 hW hcnd _
  have hval : ∀ (j : Nat) t v, Try.f10.params[j]? = some t → args[j]? = some v → Value.okWide Try.prog W .any base t v := hval0
  have hW' := hW
  obtain ⟨p, q, hA0, hV, rfl, hfz, hnd⟩ := hW
  have hA : DataW.TrodAll enc Try.prog W 0 (fun _ => true) true Try.f10.params.toList args.toList ds p := hA0
  rw [Try.params10] at hA hval
  obtain ⟨v0, vs0, d0, ds0, p0, q0, hargs, rfl, rfl, h0, r0⟩ := trodAll_cons hA
  obtain ⟨v1, vs1, d1, ds1, p1, q1, rfl, rfl, rfl, h1, r1⟩ := trodAll_cons r0
  obtain ⟨v2, vs2, d2, ds2, p2, q2, rfl, rfl, rfl, h2, r2⟩ := trodAll_cons r1
  obtain ⟨rfl, rfl, rfl⟩ := trodAll_nil r2
  obtain rfl : args = #[v0, v1, v2] := by cases args; simp_all
  obtain ⟨rfl, rfl⟩ := trodVars_none hV
  obtain ⟨a2, rfl, rfl, rfl, w2⟩ := open_int Try.underlying3 (hval 2 3 v2 rfl rfl) h2
  obtain ⟨a0, n0, c0, z0, rfl, w0⟩ := in_longs Try.underlying27 Try.underlying2 (by kernel_rfl) (hval 0 27 v0 rfl rfl) h0
  obtain ⟨a1, n1, c1, z1, rfl, w1⟩ := in_longs Try.underlying27 Try.underlying2 (by kernel_rfl) (hval 1 27 v1 rfl rfl) h1
  clear hA0 hval0
  simp only [List.append_nil, List.nil_append] at hW'
  refine (cutSums_walk W a0 n0 c0 z0 a1 n1 c1 z1 a2 w0 w1 w2).mono fun e W' ⟨he, hg⟩ => ?_
  subst he
  exact ⟨_, rfl, post_of_below (pv := []) hW' (fun _ _ _ => (trodAll_cons_mk (shut_bool Try.underlying4 _) trodAll_mk0)) (fun sp hsp => (trodAll_cons_mk (WideElems.Trod_stays (by kernel_rfl) (by kernel_rfl) (of_decide_eq_true (by kernel_rfl)) h0 (fun x hx => hg.same (hW'.lt x (by simp [hx]))) (fun x hx => hsp x (by simp [hx]))) (trodAll_cons_mk (WideElems.Trod_stays (by kernel_rfl) (by kernel_rfl) (of_decide_eq_true (by kernel_rfl)) h1 (fun x hx => hg.same (hW'.lt x (by simp [hx]))) (fun x hx => hsp x (by simp [hx]))) (trodAll_cons_mk (shut_int Try.underlying3 w2) trodAll_mk0)))) (fun _ _ => rfl) (by simp)
    hg (ok_one (by kernel_rfl) rfl (okWide_bool_mk Try.underlying4 _))⟩
theorem over : Rows.cutSumsRow.holds Try.pinned (OpenSpec.ofChange Rows.cutSumsSpec) :=
  OpenClaim.holds_of_wide 10 Try.f10 rfl rfl rfl rfl rfl rfl rfl ⟨rfl, rfl, rfl, rfl, rfl⟩ rfl rfl rfl rfl rfl (by kernel_rfl) Try.func10 (by kernel_rfl)
    (of_decide_eq_true (by kernel_rfl)) (by unfold Func.isWrapper; first | (rw [if_pos (by decide +kernel)]; kernel_rfl) | (rw [if_neg (by decide +kernel)]; exact ⟨rfl, rfl⟩))
    (fun os started H enc _ => lifted os started H enc)
theorem proved : Rows.CutSumsSaid :=
  over
end cutSums
theorem cutSums_holds : Rows.CutSumsSaid := cutSums.proved
#print axioms cutSums_holds
end Go.Proofs.Ytclnmheplecknaa

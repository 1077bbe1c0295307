/-
  Walk: CutBack.
-/
import Derived.Test.YtclnmheplecknaaR0
set_option linter.unusedVariables false
set_option linter.unusedSimpArgs false
namespace Go.Proofs.Ytclnmheplecknaa
open Go.RowKit
/-- A number brought within the limits. -/
def rowx (h x : Int) : Int := if h ≤ x.tmod (2 * h) then x.tmod (2 * h) - 2 * h else if x.tmod (2 * h) < -h then x.tmod (2 * h) + 2 * h else x.tmod (2 * h)
theorem rowx_bal (h : Int) (hh : 1 ≤ h) (l : List Int) : Bal h (l.map (rowx h)) := by
  intro y hy
  obtain ⟨x, _, rfl⟩ := List.mem_map.1 hy
  have h1 := Int.lt_tmod_of_pos x (show 0 < 2 * h by omega)
  have h2 := Int.tmod_lt_of_pos x (show 0 < 2 * h by omega)
  unfold rowx
  split
  · omega
  · split <;> omega
theorem trim_prefix : ∀ l : List Int, trimZ l = l.take (trimZ l).length
  | [] => rfl
  | x :: l => by
    have ih := trim_prefix l
    unfold trimZ
    split
    · split
      · rfl
      · simp
    · rename_i y t h
      rw [h] at ih
      rw [show (x :: y :: t).length = (y :: t).length + 1 from rfl, List.take_succ_cons, ← ih]
theorem back_next {wB wr w3 : World} {v v' : Value} {R : List Int} {i : Nat} {d : Int} {t : TypeId} (hR : R[i]? = some d) (hown : wr.ownsRow wB.heap.size 2 1 v i ((R.take i).map (Value.int .i64))) (hb : Below wB.heap.size wB wr)
    (ho : w3.ownsRow wB.heap.size 2 1 v' (i + 1) ((R.take i).map (Value.int .i64) ++ [.int .i64 d])) (hg : (wr.alloc (.cells #[.int .i64 d] t)).grownBy w3 v.ownBlock) :
    w3.ownsRow wB.heap.size 2 1 v' (i + 1) ((R.take (i + 1)).map (Value.int .i64)) ∧ Below wB.heap.size wB w3 := by
  refine ⟨?_, (hb.alloc hb.size _).grown hg (hb.alloc hb.size _).size (fun k hk => row_ge hown k hk)⟩
  rw [List.take_add_one, hR]
  simpa using ho
theorem last_next {R : List Int} {i : Nat} {d : Int} (hR : R[i]? = some d) : (d = 0 → (trimZ (R.take (i + 1))).length = (trimZ (R.take i)).length) ∧ (d ≠ 0 → (trimZ (R.take (i + 1))).length = i + 1) := by
  have hl := (List.getElem?_eq_some_iff.1 hR).1
  have e : R.take (i + 1) = R.take i ++ [d] := by rw [List.take_add_one, hR]; rfl
  rw [e, trim_snoc]
  refine ⟨fun h => by rw [if_pos h], fun h => ?_⟩
  rw [if_neg h, List.length_append, List.length_take]
  simp; omega
set_option maxRecDepth 400000 in
set_option maxHeartbeats 16000000 in
theorem cutBack_walk (w : World) (s : Bool) (A : Option Addr) (n c : Nat) (l : List Int) (A2 : Option Addr) (n2 c2 : Nat) (l2 : List Int) (b0 : Int) (hs : U w A n c l ∧ Nt.Dig 18446744073709551616 l ∧ c ≤ 9223372036854775807) (hs2 : UL w A2 n2 c2 l2 ∧ L64 l2 ∧ c2 ≤ 9223372036854775807) (wb : (Lit.int .i64 b0).wf = true) : Calls Try.prog 6 #[.agg #[.bool s, .slice A n c], .slice A2 n2 c2, .int .i64 b0] w fun e w' => e = .returned (.bool true) ∧ Below w.heap.size w w' := by
  obtain ⟨i0, hi0, hz0, hz1, hz2⟩ := info_parts i64_info
  have hwf := wf_i64 wb
  have HA := Lib.hid (fun w => awake14_any w)
  have HP := Lib.hid (fun w => pick_any b0 29 w (by decide) (by decide) hwf.1 hwf.2)
  have hnc := hs.1.2.1
  have hcm := hs.2.2
  have hnc2 := hs2.1.2.1
  have hcm2 := hs2.2.2
  have hba := (Below.refl w.heap.size w).alloc (Nat.le_refl _) (.cells #[.bool s, .slice A n c] 24)
  have HB0 := Lib.hid hba
  clear hwf wb hba
  by_cases h300 : n ≤ 300
  · by_cases h2000 : n2 ≤ 2000
    · have HU := Lib.hid hs.1
      have HD := Lib.hid hs.2.1
      have HU2 := Lib.hid hs2.1
      have HLEN2 := Lib.hid hs2.1.1
      have HL64 := Lib.hid hs2.2.1
      have HCI := Lib.hid (fun x (hb : Below w.heap.size w x) => copy_int s A n c l x (by omega) (HU.out.below hb))
      have hgt300 : decide (300 < (n : Int)) = false := decide_eq_false (by omega)
      have hgt2000 : decide (2000 < (n2 : Int)) = false := decide_eq_false (by omega)
      clear hs hs2
      obtain ⟨rb, hrb⟩ : ∃ rb, rb = rightB s l := ⟨_, rfl⟩
      have HRB := Lib.hid hrb
      have HRI : Hid (∀ x, Below w.heap.size w x → Calls Try.prog 24 #[.agg #[.bool s, .slice A n c]] x fun e w' => e = .returned (.bool rb) ∧ Below x.heap.size x w') := Lib.hid (fun x hb => by rw [hrb]; exact right_any s A n c l x (HU.out.below hb) (by omega))
      clear hrb
      go_enter Try.func6, Try.ntmps6
      go_wp2_with fail
      refine (HA.out _).mono ?_
      rintro e w1 ⟨rfl, hb⟩
      have HB1 := Lib.hid (HB0.out.trans (hb.mono HB0.out.size))
      obtain ⟨x0, x1⟩ := cells_int w w1 s A n c _ (by simpa using hb)
      have hlt1 : w.heap.size < w1.heap.size := by have := hb.size; simp at this; omega
      clear hb
      go_wp2_with fail
      refine (HP.out _).mono ?_
      rintro e w' ⟨k, rfl, hk, rfl⟩
      obtain ⟨b, hbk⟩ : ∃ b : Nat, b = 2 + k := ⟨_, rfl⟩
      have hbk2 : (2 : Int) + (k : Int) = (b : Int) := by omega
      have hb1 : 2 ≤ b := by omega
      have hb2 : b ≤ 30 := by omega
      obtain ⟨b1, hb'⟩ : ∃ b1, b = b1 + 1 := ⟨b - 1, by omega⟩
      have hbs : (b : Int) - 1 = (b1 : Int) := by omega
      obtain ⟨hv, hh⟩ : ∃ hv : Int, hv = ((2 ^ (b - 1) : Nat) : Int) := ⟨_, rfl⟩
      have hh2 : 2 ≤ hv ∧ hv ≤ 536870912 := by
        have h1 : (2 : Nat) ^ 1 ≤ 2 ^ (b - 1) := Nat.pow_le_pow_right (by decide) (by omega)
        have h2 : (2 : Nat) ^ (b - 1) ≤ 2 ^ 29 := Nat.pow_le_pow_right (by decide) (by omega)
        have h3 : (2 : Nat) ^ 29 = 536870912 := by decide
        omega
      have hsh : IntKind.i64.wrap (2 ^ b1) = hv := by
        rw [show ((2 : Int) ^ b1) = ((2 ^ (b - 1) : Nat) : Int) by rw [hb']; simp, ← hh, IntKind.wrap_i64]; omega
      have hcw1 : IntKind.u64.wrap (b1 : Int) = (b1 : Int) := by rw [IntKind.wrap_u64]; omega
      have hnh : wrap64 (-hv) = -hv := by unfold wrap64; omega
      obtain ⟨B2, hB2⟩ : ∃ B2 : Int, B2 = 2 * hv := ⟨_, rfl⟩
      have hB2w : wrap64 (2 * hv) = B2 := by rw [hB2]; unfold wrap64; omega
      have hB2r : 2 * hv = B2 := hB2.symm
      have hB2e : (B2 == 0) = false := by simp; omega
      have hB2n : B2 ≠ 0 := by omega
      obtain ⟨T, hT⟩ : ∃ T, T = dT s l b := ⟨_, rfl⟩
      obtain ⟨K, hK⟩ : ∃ K, K = T.length := ⟨_, rfl⟩
      have HT := Lib.hid hT
      have HKT := Lib.hid hK
      obtain ⟨R, hR⟩ : ∃ R, R = l2.map (rowx hv) := ⟨_, rfl⟩
      have hRlen : R.length = n2 := by rw [hR, List.length_map]; exact HLEN2.out
      have HRL := Lib.hid hRlen
      have HRX : Hid (∀ i x, l2[i]? = some x → R[i]? = some (rowx hv x)) := Lib.hid (fun i x hx => by rw [hR, List.getElem?_map, hx]; rfl)
      have hbal : Bal ((2 ^ (b - 1) : Nat) : Int) R := by rw [hR, ← hh]; exact rowx_bal hv (by omega) l2
      have hR64 : L64 R := fun x hx => by have := hbal x hx; rw [← hh] at this; omega
      obtain ⟨g1, g2, g3, g4, g5⟩ := back_two hb1 hb2 (by omega) hbal
      have HCW2 : Hid (∀ x A c, UL x A n2 c R → Calls Try.prog 18 #[.slice A n2 c, .int .i64 b] x fun e w' => ∃ A' c', e = .returned (.tuple #[.agg #[.bool (wS b R), .slice A' (wL b R).length c'], .int .i64 0]) ∧ U w' A' (wL b R).length c' (wL b R) ∧ Below x.heap.size x w') := Lib.hid (fun x A c hu => by
        have := cwhole_any A n2 c b R x hu hR64 (by omega)
        unfold WPost at this
        rw [g1] at this
        exact this)
      have HCD2 : Hid (∀ x A c, U x A (wL b R).length c (wL b R) → Calls Try.prog 13 #[.agg #[.bool (wS b R), .slice A (wL b R).length c], .int .i64 b] x fun e w' => ∃ A' c', e = .returned (.tuple #[.slice A' (trimZ R).length c', .int .i64 0]) ∧ UL w' A' (trimZ R).length c' (trimZ R) ∧ Below x.heap.size x w') := Lib.hid (fun x A c hu => by
        refine (digits_any (wS b R) A (wL b R).length c (wL b R) b x hu g2 (by omega)).mono ?_
        rintro e w' ⟨v, rfl, hown, hbb⟩
        rw [g4] at hown
        rw [g3]
        obtain ⟨A', c', rfl, hu'⟩ := UL.of_own hown
        exact ⟨A', c', rfl, hu', hbb⟩)
      have HTP := Lib.hid (trim_prefix R)
      have HTL : Hid ((trimZ R).length ≤ n2) := Lib.hid (by rw [← hRlen]; exact trimZ_len R)
      generalize wS b R = S2 at *
      generalize wL b R = L2 at *
      generalize L2.length = K2 at *
      have HCD : Hid (∀ x A c, U x A n c l → Calls Try.prog 13 #[.agg #[.bool s, .slice A n c], .int .i64 b] x fun e w' => ∃ A' c', e = .returned (.tuple #[.slice A' K c', .int .i64 (dE s l b)]) ∧ UL w' A' K c' T ∧ Below x.heap.size x w') := Lib.hid (fun x A c hu => by
        refine (digits_any s A n c l b x hu HD.out (by omega)).mono ?_
        rintro e w' ⟨v, rfl, hown, hbb⟩
        rw [← hT] at hown
        obtain ⟨A', c', rfl, hu'⟩ := UL.of_own hown
        rw [← hK] at hu'
        rw [hK]
        exact ⟨A', c', rfl, by rw [← hK]; exact hu', hbb⟩)
      have HHB := Lib.hid hh2
      have HROW : Hid (∀ x, rowx hv x = if hv ≤ x.tmod B2 then x.tmod B2 - B2 else if x.tmod B2 < -hv then x.tmod B2 + B2 else x.tmod B2) := Lib.hid (fun x => by rw [hB2]; rfl)
      have HQB : Hid (∀ x : Int, -B2 < x.tmod B2 ∧ x.tmod B2 < B2) := Lib.hid (fun x => ⟨Int.lt_tmod_of_pos x (by omega), Int.tmod_lt_of_pos x (by omega)⟩)
      have HBB := Lib.hid hB2
      have HONE := Lib.hid (fun (hr : rightB s l = true) => back_one (s := s) (mag := l) (b := b) HD.out hr hb1 hb2)
      rw [← hT, ← hh] at HONE
      have HNLEN := Lib.hid HU.out.1
      have hK2 : K ≤ 1000000 := by
        rw [hK, hT]
        unfold dT
        split
        · have h1 := trimZ_len (rawD (2 ^ ((b : Int).toNat - 1) : Nat) s (Nt.val 18446744073709551616 l) (b : Int).toNat l.length)
          have h2 := digS_raw_len (2 ^ ((b : Int).toNat - 1) : Nat) s (Nt.val 18446744073709551616 l) (b : Int).toNat l.length
          have h3 : chkM l.length (b : Int).toNat ≤ 64 * l.length + (b : Int).toNat := by unfold chkM; exact Nat.le_trans (Nat.div_le_self _ _) (by omega)
          have h4 := HNLEN.out
          unfold digT
          omega
        · exact Nat.zero_le _
      obtain ⟨Q, hQ⟩ : ∃ Q, Q = 64 * n / b := ⟨_, rfl⟩
      have hQb : Q ≤ 19200 := by rw [hQ]; exact Nat.le_trans (Nat.div_le_self _ _) (by omega)
      have hQi : ((64 * (n : Int)).tdiv (b : Int)) = (Q : Int) := by
        rw [hQ, show (64 * (n : Int)) = ((64 * n : Nat) : Int) by omega]; exact Int.ofNat_tdiv ..
      have hQi2 : ((64 * (n : Int)) / (b : Int)) = (Q : Int) := by rw [hQ]; simp
      rw [HNLEN.out, ← hQ] at HONE
      clear hbk hk hb' hh hB2 hT hK hR hRlen hbal hR64 g1 g2 g3 g4 g5 hQ
      go_wp2_with fail
      refine (HCI.out _ HB1.out).mono ?_
      rintro e w2 ⟨A', c', rfl, _, hu', hb⟩
      have HB2 := Lib.hid (HB1.out.trans (hb.mono HB1.out.size))
      have y0 := (hb.cell (p := ⟨w.heap.size, 0, none⟩) hlt1).trans x0
      have y1 := (hb.cell (p := ⟨w.heap.size, 1, none⟩) hlt1).trans x1
      have hlt2 : w.heap.size < w2.heap.size := Nat.lt_of_lt_of_le hlt1 hb.size
      have HU1 := Lib.hid hu'
      clear hb hu' x0 x1 hlt1
      obtain ⟨E, hE⟩ : ∃ E, E = dE s l b := ⟨_, rfl⟩
      rw [← hE] at HCD HONE
      have HE := Lib.hid hE
      clear hE
      go_wp2_with fail
      refine (HCD.out _ _ _ HU1.out).mono ?_
      rintro e w3 ⟨A3, c3, rfl, hu3, hb⟩
      have HB3 := Lib.hid (HB2.out.trans (hb.mono HB2.out.size))
      have z0 := (hb.cell (p := ⟨w.heap.size, 0, none⟩) hlt2).trans y0
      have z1 := (hb.cell (p := ⟨w.heap.size, 1, none⟩) hlt2).trans y1
      have hlt3 : w.heap.size < w3.heap.size := Nat.lt_of_lt_of_le hlt2 hb.size
      have HU3 := Lib.hid hu3
      have hKc := hu3.2.1
      clear hb hu3 y0 y1 hlt2
      go_wp2_with fail
      refine (HRI.out _ HB3.out).mono ?_
      rintro e w4 ⟨rfl, hb⟩
      have HB4 := Lib.hid (HB3.out.trans (hb.mono HB3.out.size))
      have q0 := (hb.cell (p := ⟨w.heap.size, 0, none⟩) hlt3).trans z0
      have q1 := (hb.cell (p := ⟨w.heap.size, 1, none⟩) hlt3).trans z1
      have hlt4 : w.heap.size < w4.heap.size := Nat.lt_of_lt_of_le hlt3 hb.size
      have HU4 := Lib.hid (HU3.out.below hb)
      clear hb z0 z1 hlt3
      cases rb
      · have hE2 : E = 2 ∧ K = 0 := by
          have hn : ¬ (rightB s l = true ∧ 2 ≤ (b : Int) ∧ (b : Int) ≤ 30) := fun hh => by rw [← HRB.out] at hh; cases hh.1
          refine ⟨by rw [HE.out]; unfold dE; rw [if_neg hn], ?_⟩
          rw [HKT.out, HT.out]; unfold dT; rw [if_neg hn]; rfl
        obtain ⟨rfl, rfl⟩ := hE2
        go_wp2_with fail
        go_loopw [14, 15, 16] (fun vv lv iv wr => ∃ (i la : Nat), iv = .int .i64 i ∧ lv = .int .i64 la ∧ i ≤ n2 ∧ Hid (la = (trimZ (R.take i)).length) ∧ Hid (wr.ownsRow w4.heap.size 2 1 vv i ((R.take i).map (Value.int .i64))) ∧ Hid (Below w4.heap.size w4 wr)) (fun _ _ iv _ => n2 - (intOf iv).toNat)
        case atStart => exact ⟨0, 0, rfl, rfl, Nat.zero_le _, Lib.hid rfl, Lib.hid (World.ownsRow_nil _ _ _ _), Lib.hid (Below.refl _ _)⟩
        case round =>
          obtain ⟨i, la, rfl, rfl, hi, HLA, HOWN, HB⟩ := hrel
          have HBW := Lib.hid (HB4.out.trans (HB.out.mono HB4.out.size))
          by_cases hlt : i < n2
          · obtain ⟨x, hx⟩ : ∃ x, l2[i]? = some x := ⟨_, List.getElem?_eq_getElem (by have := HLEN2.out; omega)⟩
            obtain ⟨ad, rfl, _, hcx⟩ := (HU2.out.below HBW.out).2.2.2 i x hx
            have hRi := HRX.out i x hx
            obtain ⟨q, hq⟩ : ∃ q, x.tmod B2 = q := ⟨_, rfl⟩
            have hqb := HQB.out x
            have hrw := HROW.out x
            rw [hq] at hqb hrw
            have OWN2 : Hid (∀ m : Int, (wr.alloc (.cells #[.int .i64 m] 2)).ownsRow w4.heap.size 2 1 u14 i ((R.take i).map (Value.int .i64))) := Lib.hid (fun m => HOWN.out.alloc _)
            have CELLS2 := Lib.hid (fun m => cell1L wr m 2)
            have SIZE2 : Hid (∀ m : Int, w4.heap.size ≤ (wr.alloc (.cells #[.int .i64 m] 2)).heap.size) := Lib.hid (fun m => by have := HB.out.size; simp; omega)
            have HME : Hid (i < n2) := Lib.hid hlt
            have H63 : Hid (i + 1 ≤ maxLen) := Lib.hid (by simp only [maxLen]; omega)
            have H64 : Hid ((i + 1) * 8 ≤ 140737488355328) := Lib.hid (by omega)
            have hhb := HHB.out
            have hbb := HBB.out
            by_cases h1 : hv ≤ q
            · obtain ⟨d, hd⟩ : ∃ d : Int, d = q - B2 := ⟨_, rfl⟩
              have t1 : decide (hv ≤ q) = true := decide_eq_true h1
              have t2 : wrap64 (q - B2) = d := by rw [hd]; unfold wrap64; omega
              have t3 : decide (d < -hv) = false := decide_eq_false (by omega)
              have t4 : q - B2 = d := hd.symm
              have t5 : wrap64 d = d := by unfold wrap64; omega
              have hdr : rowx hv x = d := by rw [hrw]; rw [if_pos h1, hd]
              rw [hdr] at hRi
              have HLN := Lib.hid (last_next hRi)
              have HFN := Lib.hid (fun (v' : Value) (w3 : World) (h1 : w3.ownsRow w4.heap.size 2 1 v' (i + 1) ((R.take i).map (Value.int .i64) ++ [.int .i64 d])) (h2 : (wr.alloc (.cells #[.int .i64 d] 2)).grownBy w3 (Value.ownBlock u14)) => back_next hRi HOWN.out HB.out h1 h2)
              clear hRi hdr hrw hx hqb hhb hbb hd
              by_cases hd0 : d = 0
              · have hdz : (d == 0) = true := by simpa using hd0
                have HZ : Hid (la = (trimZ (R.take (i + 1))).length) := Lib.hid (by rw [HLN.out.1 hd0]; exact HLA.out)
                clear hd0
                go_wp2_with (at_builtin; refine wpList_append_own _ rfl (.tmp 147) (.tmp 149) _ rfl w4.heap.size 2 i0 _ 1 8 Try.underlying27 hi0 hz0 hz1 hz2 rfl (Nat.le_refl 1) u14 i ((R.take i).map (Value.int .i64)) rfl (OWN2.out d) ⟨wr.heap.size, 0, none⟩ 1 1 [Value.int .i64 d] rfl (CELLS2.out d).1 (CELLS2.out d).2.1 (CELLS2.out d).2.2 H63.out H64.out (SIZE2.out d) ?_; intro v' w9 hown hg _; obtain ⟨f1, f2⟩ := HFN.out v' w9 hown hg; clear hown hg)
                refine ⟨⟨i + 1, la, by go_num, rfl, by have := HME.out; omega, HZ, Lib.hid f1, Lib.hid f2⟩, by have := HME.out; simp [intOf]; omega⟩
              · have hdz : (d == 0) = false := by simpa using hd0
                have HZ : Hid (i + 1 = (trimZ (R.take (i + 1))).length) := Lib.hid (by rw [HLN.out.2 hd0])
                clear hd0
                go_wp2_with (at_builtin; refine wpList_append_own _ rfl (.tmp 147) (.tmp 149) _ rfl w4.heap.size 2 i0 _ 1 8 Try.underlying27 hi0 hz0 hz1 hz2 rfl (Nat.le_refl 1) u14 i ((R.take i).map (Value.int .i64)) rfl (OWN2.out d) ⟨wr.heap.size, 0, none⟩ 1 1 [Value.int .i64 d] rfl (CELLS2.out d).1 (CELLS2.out d).2.1 (CELLS2.out d).2.2 H63.out H64.out (SIZE2.out d) ?_; intro v' w9 hown hg _; obtain ⟨f1, f2⟩ := HFN.out v' w9 hown hg; clear hown hg)
                refine ⟨⟨i + 1, i + 1, by go_num, by go_num, by have := HME.out; omega, HZ, Lib.hid f1, Lib.hid f2⟩, by have := HME.out; simp [intOf]; omega⟩
            · by_cases h2 : q < -hv
              · obtain ⟨d, hd⟩ : ∃ d : Int, d = q + B2 := ⟨_, rfl⟩
                have t1 : decide (hv ≤ q) = false := decide_eq_false h1
                have t2 : wrap64 (q + B2) = d := by rw [hd]; unfold wrap64; omega
                have t3 : decide (q < -hv) = true := decide_eq_true h2
                have t4 : q + B2 = d := hd.symm
                have t5 : wrap64 d = d := by unfold wrap64; omega
                have hdr : rowx hv x = d := by rw [hrw]; rw [if_neg h1, if_pos h2, hd]
                rw [hdr] at hRi
                have HLN := Lib.hid (last_next hRi)
                have HFN := Lib.hid (fun (v' : Value) (w3 : World) (h1 : w3.ownsRow w4.heap.size 2 1 v' (i + 1) ((R.take i).map (Value.int .i64) ++ [.int .i64 d])) (h2 : (wr.alloc (.cells #[.int .i64 d] 2)).grownBy w3 (Value.ownBlock u14)) => back_next hRi HOWN.out HB.out h1 h2)
                clear hRi hdr hrw hx hqb hhb hbb hd
                by_cases hd0 : d = 0
                · have hdz : (d == 0) = true := by simpa using hd0
                  have HZ : Hid (la = (trimZ (R.take (i + 1))).length) := Lib.hid (by rw [HLN.out.1 hd0]; exact HLA.out)
                  clear hd0
                  go_wp2_with (at_builtin; refine wpList_append_own _ rfl (.tmp 147) (.tmp 149) _ rfl w4.heap.size 2 i0 _ 1 8 Try.underlying27 hi0 hz0 hz1 hz2 rfl (Nat.le_refl 1) u14 i ((R.take i).map (Value.int .i64)) rfl (OWN2.out d) ⟨wr.heap.size, 0, none⟩ 1 1 [Value.int .i64 d] rfl (CELLS2.out d).1 (CELLS2.out d).2.1 (CELLS2.out d).2.2 H63.out H64.out (SIZE2.out d) ?_; intro v' w9 hown hg _; obtain ⟨f1, f2⟩ := HFN.out v' w9 hown hg; clear hown hg)
                  refine ⟨⟨i + 1, la, by go_num, rfl, by have := HME.out; omega, HZ, Lib.hid f1, Lib.hid f2⟩, by have := HME.out; simp [intOf]; omega⟩
                · have hdz : (d == 0) = false := by simpa using hd0
                  have HZ : Hid (i + 1 = (trimZ (R.take (i + 1))).length) := Lib.hid (by rw [HLN.out.2 hd0])
                  clear hd0
                  go_wp2_with (at_builtin; refine wpList_append_own _ rfl (.tmp 147) (.tmp 149) _ rfl w4.heap.size 2 i0 _ 1 8 Try.underlying27 hi0 hz0 hz1 hz2 rfl (Nat.le_refl 1) u14 i ((R.take i).map (Value.int .i64)) rfl (OWN2.out d) ⟨wr.heap.size, 0, none⟩ 1 1 [Value.int .i64 d] rfl (CELLS2.out d).1 (CELLS2.out d).2.1 (CELLS2.out d).2.2 H63.out H64.out (SIZE2.out d) ?_; intro v' w9 hown hg _; obtain ⟨f1, f2⟩ := HFN.out v' w9 hown hg; clear hown hg)
                  refine ⟨⟨i + 1, i + 1, by go_num, by go_num, by have := HME.out; omega, HZ, Lib.hid f1, Lib.hid f2⟩, by have := HME.out; simp [intOf]; omega⟩
              · obtain ⟨d, rfl⟩ : ∃ d : Int, d = q := ⟨_, rfl⟩
                have t1 : decide (hv ≤ d) = false := decide_eq_false h1
                have t3 : decide (d < -hv) = false := decide_eq_false h2
                have hdr : rowx hv x = d := by rw [hrw]; rw [if_neg h1, if_neg h2]
                rw [hdr] at hRi
                have HLN := Lib.hid (last_next hRi)
                have HFN := Lib.hid (fun (v' : Value) (w3 : World) (h1 : w3.ownsRow w4.heap.size 2 1 v' (i + 1) ((R.take i).map (Value.int .i64) ++ [.int .i64 d])) (h2 : (wr.alloc (.cells #[.int .i64 d] 2)).grownBy w3 (Value.ownBlock u14)) => back_next hRi HOWN.out HB.out h1 h2)
                clear hRi hdr hrw hx hqb hhb hbb
                by_cases hd0 : d = 0
                · have hdz : (d == 0) = true := by simpa using hd0
                  have HZ : Hid (la = (trimZ (R.take (i + 1))).length) := Lib.hid (by rw [HLN.out.1 hd0]; exact HLA.out)
                  clear hd0
                  go_wp2_with (at_builtin; refine wpList_append_own _ rfl (.tmp 147) (.tmp 149) _ rfl w4.heap.size 2 i0 _ 1 8 Try.underlying27 hi0 hz0 hz1 hz2 rfl (Nat.le_refl 1) u14 i ((R.take i).map (Value.int .i64)) rfl (OWN2.out d) ⟨wr.heap.size, 0, none⟩ 1 1 [Value.int .i64 d] rfl (CELLS2.out d).1 (CELLS2.out d).2.1 (CELLS2.out d).2.2 H63.out H64.out (SIZE2.out d) ?_; intro v' w9 hown hg _; obtain ⟨f1, f2⟩ := HFN.out v' w9 hown hg; clear hown hg)
                  refine ⟨⟨i + 1, la, by go_num, rfl, by have := HME.out; omega, HZ, Lib.hid f1, Lib.hid f2⟩, by have := HME.out; simp [intOf]; omega⟩
                · have hdz : (d == 0) = false := by simpa using hd0
                  have HZ : Hid (i + 1 = (trimZ (R.take (i + 1))).length) := Lib.hid (by rw [HLN.out.2 hd0])
                  clear hd0
                  go_wp2_with (at_builtin; refine wpList_append_own _ rfl (.tmp 147) (.tmp 149) _ rfl w4.heap.size 2 i0 _ 1 8 Try.underlying27 hi0 hz0 hz1 hz2 rfl (Nat.le_refl 1) u14 i ((R.take i).map (Value.int .i64)) rfl (OWN2.out d) ⟨wr.heap.size, 0, none⟩ 1 1 [Value.int .i64 d] rfl (CELLS2.out d).1 (CELLS2.out d).2.1 (CELLS2.out d).2.2 H63.out H64.out (SIZE2.out d) ?_; intro v' w9 hown hg _; obtain ⟨f1, f2⟩ := HFN.out v' w9 hown hg; clear hown hg)
                  refine ⟨⟨i + 1, i + 1, by go_num, by go_num, by have := HME.out; omega, HZ, Lib.hid f1, Lib.hid f2⟩, by have := HME.out; simp [intOf]; omega⟩
          · obtain rfl : i = n2 := by omega
            have hown := HOWN.out
            have hla := HLA.out
            rw [List.take_of_length_le (by have := HRL.out; omega)] at hown hla
            have hrl := HRL.out
            obtain ⟨A6, c6, hv6, hu6⟩ := UL.of_own hown
            subst hv6
            have hn6 := hu6.2.1
            have HU6 := Lib.hid hu6
            have hKT := HTL.out
            obtain ⟨KT, hKTe⟩ : ∃ KT, KT = (trimZ R).length := ⟨_, rfl⟩
            rw [← hKTe] at HCD2 hla hKT HTP
            have hlc : la ≤ c6 := by omega
            subst hla
            have HKTN := Lib.hid hKT
            clear hown hu6 hKTe hrl
            go_wp2_with fail
            refine (HCW2.out _ _ _ HU6.out).mono ?_
            rintro e w5 ⟨A7, c7, rfl, hu7, hb⟩
            have HB5 := Lib.hid (HBW.out.trans (hb.mono HBW.out.size))
            have HU65 := Lib.hid (HU6.out.below hb)
            have hba7 := (Below.refl w5.heap.size w5).alloc (Nat.le_refl _) (.cells #[.bool S2, .slice A7 K2 c7] 24)
            have HBA7 := Lib.hid hba7
            have HU7 := Lib.hid (hu7.below hba7)
            clear hb hu7 hba7
            go_wp2_with fail
            refine (HCD2.out _ _ _ HU7.out).mono ?_
            rintro e w6 ⟨A8, c8, rfl, hu8, hb⟩
            have hb56 := HBA7.out.trans (hb.mono HBA7.out.size)
            have HB6 := Lib.hid (HB5.out.trans (hb56.mono HB5.out.size))
            have HU8 := Lib.hid hu8
            have hu66 := (HU65.out.below hb56).take la (by omega)
            rw [← HTP.out] at hu66
            have HU66 := Lib.hid hu66
            clear hb hu8 hb56 hu66
            go_wp2_with fail
            refine (same_longs A8 la c8 A6 c6 (trimZ R) _ (by have := HKTN.out; omega) HU8.out HU66.out).mono ?_
            rintro e w7 ⟨rfl, hb⟩
            have HB7 := Lib.hid (HB6.out.trans (hb.mono HB6.out.size))
            clear hb
            go_wp2
            go_ret
            exact ⟨rfl, HB7.out⟩
      · obtain ⟨o1, o2, o3, o4, o5, o6, o7⟩ := HONE.out HRB.out.symm
        subst o1
        have hKQ : decide ((Q : Int) + 2 < (K : Int)) = false := decide_eq_false (by rw [HKT.out]; omega)
        have HCW1 : Hid (∀ x A c, UL x A K c T → Calls Try.prog 18 #[.slice A K c, .int .i64 b] x fun e w' => ∃ A' c', e = .returned (.tuple #[.agg #[.bool s, .slice A' n c'], .int .i64 0]) ∧ U w' A' n c' l ∧ Below x.heap.size x w') := Lib.hid (fun x A c hu => by
          have h64 : L64 T := fun x hx => by have := o4 x hx; omega
          have := cwhole_any A K c b T x hu h64 hK2
          unfold WPost at this
          rw [o5, o6, o7, HNLEN.out] at this
          exact this)
        have HBAL := Lib.hid o4
        have hlast : ∀ i x, i + 1 = K → T[i]? = some x → (x == 0) = false := fun i x hi hx => by
          rw [List.getLast?_eq_getElem?, ← HKT.out, show K - 1 = i by omega, hx] at o2
          simpa using o2
        have HLST := Lib.hid hlast
        clear o2 o3 o4 o5 o6 o7 hlast
        rcases Nat.eq_zero_or_pos K with hK0 | hK0
        · have hKe := hK0
          subst hKe
          go_wp2_with fail
          go_loop [11] (fun iv => ∃ i : Nat, i ≤ 0 ∧ iv = .int .i64 i) (fun iv => 0 - (intOf iv).toNat)
          case atStart => exact ⟨0, Nat.zero_le _, rfl⟩
          case round =>
            obtain ⟨i, hi, rfl⟩ := hrel
            by_cases hlt : i < 0
            · exact absurd hlt (Nat.not_lt_zero i)
            · obtain rfl : i = 0 := by omega
              go_wp2_with fail
              refine (HCW1.out _ _ _ HU4.out).mono ?_
              rintro e w5 ⟨A5, c5, rfl, hu5, hb⟩
              have HB5 := Lib.hid (HB4.out.trans (hb.mono HB4.out.size))
              have r0 := (hb.cell (p := ⟨w.heap.size, 0, none⟩) hlt4).trans q0
              have r1 := (hb.cell (p := ⟨w.heap.size, 1, none⟩) hlt4).trans q1
              have hlt5 : w.heap.size < w5.heap.size := Nat.lt_of_lt_of_le hlt4 hb.size
              have hba5 := (Below.refl w5.heap.size w5).alloc (Nat.le_refl _) (.cells #[.bool s, .slice A5 n c5] 24)
              have HBA5 := Lib.hid (HB5.out.trans (hba5.mono HB5.out.size))
              have HU5 := Lib.hid (hu5.below hba5)
              clear hb hu5 hba5 q0 q1
              go_wp2_with fail
              refine (same_int s A n c A5 c5 l _ (by omega) (HU.out.below HBA5.out) HU5.out).mono ?_
              rintro e w6 ⟨rfl, hb⟩
              have HB6 := Lib.hid (HBA5.out.trans (hb.mono HBA5.out.size))
              clear hb r0 r1
              go_wp2_with fail
              go_loopw [14, 15, 16] (fun vv lv iv wr => ∃ (i la : Nat), iv = .int .i64 i ∧ lv = .int .i64 la ∧ i ≤ n2 ∧ Hid (la = (trimZ (R.take i)).length) ∧ Hid (wr.ownsRow w6.heap.size 2 1 vv i ((R.take i).map (Value.int .i64))) ∧ Hid (Below w6.heap.size w6 wr)) (fun _ _ iv _ => n2 - (intOf iv).toNat)
              case atStart => exact ⟨0, 0, rfl, rfl, Nat.zero_le _, Lib.hid rfl, Lib.hid (World.ownsRow_nil _ _ _ _), Lib.hid (Below.refl _ _)⟩
              case round =>
                obtain ⟨i, la, rfl, rfl, hi, HLA, HOWN, HB⟩ := hrel
                have HBW := Lib.hid (HB6.out.trans (HB.out.mono HB6.out.size))
                by_cases hlt : i < n2
                · obtain ⟨x, hx⟩ : ∃ x, l2[i]? = some x := ⟨_, List.getElem?_eq_getElem (by have := HLEN2.out; omega)⟩
                  obtain ⟨ad, rfl, _, hcx⟩ := (HU2.out.below HBW.out).2.2.2 i x hx
                  have hRi := HRX.out i x hx
                  obtain ⟨q, hq⟩ : ∃ q, x.tmod B2 = q := ⟨_, rfl⟩
                  have hqb := HQB.out x
                  have hrw := HROW.out x
                  rw [hq] at hqb hrw
                  have OWN2 : Hid (∀ m : Int, (wr.alloc (.cells #[.int .i64 m] 2)).ownsRow w6.heap.size 2 1 u14 i ((R.take i).map (Value.int .i64))) := Lib.hid (fun m => HOWN.out.alloc _)
                  have CELLS2 := Lib.hid (fun m => cell1L wr m 2)
                  have SIZE2 : Hid (∀ m : Int, w6.heap.size ≤ (wr.alloc (.cells #[.int .i64 m] 2)).heap.size) := Lib.hid (fun m => by have := HB.out.size; simp; omega)
                  have HME : Hid (i < n2) := Lib.hid hlt
                  have H63 : Hid (i + 1 ≤ maxLen) := Lib.hid (by simp only [maxLen]; omega)
                  have H64 : Hid ((i + 1) * 8 ≤ 140737488355328) := Lib.hid (by omega)
                  have hhb := HHB.out
                  have hbb := HBB.out
                  by_cases h1 : hv ≤ q
                  · obtain ⟨d, hd⟩ : ∃ d : Int, d = q - B2 := ⟨_, rfl⟩
                    have t1 : decide (hv ≤ q) = true := decide_eq_true h1
                    have t2 : wrap64 (q - B2) = d := by rw [hd]; unfold wrap64; omega
                    have t3 : decide (d < -hv) = false := decide_eq_false (by omega)
                    have t4 : q - B2 = d := hd.symm
                    have t5 : wrap64 d = d := by unfold wrap64; omega
                    have hdr : rowx hv x = d := by rw [hrw]; rw [if_pos h1, hd]
                    rw [hdr] at hRi
                    have HLN := Lib.hid (last_next hRi)
                    have HFN := Lib.hid (fun (v' : Value) (w3 : World) (h1 : w3.ownsRow w6.heap.size 2 1 v' (i + 1) ((R.take i).map (Value.int .i64) ++ [.int .i64 d])) (h2 : (wr.alloc (.cells #[.int .i64 d] 2)).grownBy w3 (Value.ownBlock u14)) => back_next hRi HOWN.out HB.out h1 h2)
                    clear hRi hdr hrw hx hqb hhb hbb hd
                    by_cases hd0 : d = 0
                    · have hdz : (d == 0) = true := by simpa using hd0
                      have HZ : Hid (la = (trimZ (R.take (i + 1))).length) := Lib.hid (by rw [HLN.out.1 hd0]; exact HLA.out)
                      clear hd0
                      go_wp2_with (at_builtin; refine wpList_append_own _ rfl (.tmp 147) (.tmp 149) _ rfl w6.heap.size 2 i0 _ 1 8 Try.underlying27 hi0 hz0 hz1 hz2 rfl (Nat.le_refl 1) u14 i ((R.take i).map (Value.int .i64)) rfl (OWN2.out d) ⟨wr.heap.size, 0, none⟩ 1 1 [Value.int .i64 d] rfl (CELLS2.out d).1 (CELLS2.out d).2.1 (CELLS2.out d).2.2 H63.out H64.out (SIZE2.out d) ?_; intro v' w9 hown hg _; obtain ⟨f1, f2⟩ := HFN.out v' w9 hown hg; clear hown hg)
                      refine ⟨⟨i + 1, la, by go_num, rfl, by have := HME.out; omega, HZ, Lib.hid f1, Lib.hid f2⟩, by have := HME.out; simp [intOf]; omega⟩
                    · have hdz : (d == 0) = false := by simpa using hd0
                      have HZ : Hid (i + 1 = (trimZ (R.take (i + 1))).length) := Lib.hid (by rw [HLN.out.2 hd0])
                      clear hd0
                      go_wp2_with (at_builtin; refine wpList_append_own _ rfl (.tmp 147) (.tmp 149) _ rfl w6.heap.size 2 i0 _ 1 8 Try.underlying27 hi0 hz0 hz1 hz2 rfl (Nat.le_refl 1) u14 i ((R.take i).map (Value.int .i64)) rfl (OWN2.out d) ⟨wr.heap.size, 0, none⟩ 1 1 [Value.int .i64 d] rfl (CELLS2.out d).1 (CELLS2.out d).2.1 (CELLS2.out d).2.2 H63.out H64.out (SIZE2.out d) ?_; intro v' w9 hown hg _; obtain ⟨f1, f2⟩ := HFN.out v' w9 hown hg; clear hown hg)
                      refine ⟨⟨i + 1, i + 1, by go_num, by go_num, by have := HME.out; omega, HZ, Lib.hid f1, Lib.hid f2⟩, by have := HME.out; simp [intOf]; omega⟩
                  · by_cases h2 : q < -hv
                    · obtain ⟨d, hd⟩ : ∃ d : Int, d = q + B2 := ⟨_, rfl⟩
                      have t1 : decide (hv ≤ q) = false := decide_eq_false h1
                      have t2 : wrap64 (q + B2) = d := by rw [hd]; unfold wrap64; omega
                      have t3 : decide (q < -hv) = true := decide_eq_true h2
                      have t4 : q + B2 = d := hd.symm
                      have t5 : wrap64 d = d := by unfold wrap64; omega
                      have hdr : rowx hv x = d := by rw [hrw]; rw [if_neg h1, if_pos h2, hd]
                      rw [hdr] at hRi
                      have HLN := Lib.hid (last_next hRi)
                      have HFN := Lib.hid (fun (v' : Value) (w3 : World) (h1 : w3.ownsRow w6.heap.size 2 1 v' (i + 1) ((R.take i).map (Value.int .i64) ++ [.int .i64 d])) (h2 : (wr.alloc (.cells #[.int .i64 d] 2)).grownBy w3 (Value.ownBlock u14)) => back_next hRi HOWN.out HB.out h1 h2)
                      clear hRi hdr hrw hx hqb hhb hbb hd
                      by_cases hd0 : d = 0
                      · have hdz : (d == 0) = true := by simpa using hd0
                        have HZ : Hid (la = (trimZ (R.take (i + 1))).length) := Lib.hid (by rw [HLN.out.1 hd0]; exact HLA.out)
                        clear hd0
                        go_wp2_with (at_builtin; refine wpList_append_own _ rfl (.tmp 147) (.tmp 149) _ rfl w6.heap.size 2 i0 _ 1 8 Try.underlying27 hi0 hz0 hz1 hz2 rfl (Nat.le_refl 1) u14 i ((R.take i).map (Value.int .i64)) rfl (OWN2.out d) ⟨wr.heap.size, 0, none⟩ 1 1 [Value.int .i64 d] rfl (CELLS2.out d).1 (CELLS2.out d).2.1 (CELLS2.out d).2.2 H63.out H64.out (SIZE2.out d) ?_; intro v' w9 hown hg _; obtain ⟨f1, f2⟩ := HFN.out v' w9 hown hg; clear hown hg)
                        refine ⟨⟨i + 1, la, by go_num, rfl, by have := HME.out; omega, HZ, Lib.hid f1, Lib.hid f2⟩, by have := HME.out; simp [intOf]; omega⟩
                      · have hdz : (d == 0) = false := by simpa using hd0
                        have HZ : Hid (i + 1 = (trimZ (R.take (i + 1))).length) := Lib.hid (by rw [HLN.out.2 hd0])
                        clear hd0
                        go_wp2_with (at_builtin; refine wpList_append_own _ rfl (.tmp 147) (.tmp 149) _ rfl w6.heap.size 2 i0 _ 1 8 Try.underlying27 hi0 hz0 hz1 hz2 rfl (Nat.le_refl 1) u14 i ((R.take i).map (Value.int .i64)) rfl (OWN2.out d) ⟨wr.heap.size, 0, none⟩ 1 1 [Value.int .i64 d] rfl (CELLS2.out d).1 (CELLS2.out d).2.1 (CELLS2.out d).2.2 H63.out H64.out (SIZE2.out d) ?_; intro v' w9 hown hg _; obtain ⟨f1, f2⟩ := HFN.out v' w9 hown hg; clear hown hg)
                        refine ⟨⟨i + 1, i + 1, by go_num, by go_num, by have := HME.out; omega, HZ, Lib.hid f1, Lib.hid f2⟩, by have := HME.out; simp [intOf]; omega⟩
                    · obtain ⟨d, rfl⟩ : ∃ d : Int, d = q := ⟨_, rfl⟩
                      have t1 : decide (hv ≤ d) = false := decide_eq_false h1
                      have t3 : decide (d < -hv) = false := decide_eq_false h2
                      have hdr : rowx hv x = d := by rw [hrw]; rw [if_neg h1, if_neg h2]
                      rw [hdr] at hRi
                      have HLN := Lib.hid (last_next hRi)
                      have HFN := Lib.hid (fun (v' : Value) (w3 : World) (h1 : w3.ownsRow w6.heap.size 2 1 v' (i + 1) ((R.take i).map (Value.int .i64) ++ [.int .i64 d])) (h2 : (wr.alloc (.cells #[.int .i64 d] 2)).grownBy w3 (Value.ownBlock u14)) => back_next hRi HOWN.out HB.out h1 h2)
                      clear hRi hdr hrw hx hqb hhb hbb
                      by_cases hd0 : d = 0
                      · have hdz : (d == 0) = true := by simpa using hd0
                        have HZ : Hid (la = (trimZ (R.take (i + 1))).length) := Lib.hid (by rw [HLN.out.1 hd0]; exact HLA.out)
                        clear hd0
                        go_wp2_with (at_builtin; refine wpList_append_own _ rfl (.tmp 147) (.tmp 149) _ rfl w6.heap.size 2 i0 _ 1 8 Try.underlying27 hi0 hz0 hz1 hz2 rfl (Nat.le_refl 1) u14 i ((R.take i).map (Value.int .i64)) rfl (OWN2.out d) ⟨wr.heap.size, 0, none⟩ 1 1 [Value.int .i64 d] rfl (CELLS2.out d).1 (CELLS2.out d).2.1 (CELLS2.out d).2.2 H63.out H64.out (SIZE2.out d) ?_; intro v' w9 hown hg _; obtain ⟨f1, f2⟩ := HFN.out v' w9 hown hg; clear hown hg)
                        refine ⟨⟨i + 1, la, by go_num, rfl, by have := HME.out; omega, HZ, Lib.hid f1, Lib.hid f2⟩, by have := HME.out; simp [intOf]; omega⟩
                      · have hdz : (d == 0) = false := by simpa using hd0
                        have HZ : Hid (i + 1 = (trimZ (R.take (i + 1))).length) := Lib.hid (by rw [HLN.out.2 hd0])
                        clear hd0
                        go_wp2_with (at_builtin; refine wpList_append_own _ rfl (.tmp 147) (.tmp 149) _ rfl w6.heap.size 2 i0 _ 1 8 Try.underlying27 hi0 hz0 hz1 hz2 rfl (Nat.le_refl 1) u14 i ((R.take i).map (Value.int .i64)) rfl (OWN2.out d) ⟨wr.heap.size, 0, none⟩ 1 1 [Value.int .i64 d] rfl (CELLS2.out d).1 (CELLS2.out d).2.1 (CELLS2.out d).2.2 H63.out H64.out (SIZE2.out d) ?_; intro v' w9 hown hg _; obtain ⟨f1, f2⟩ := HFN.out v' w9 hown hg; clear hown hg)
                        refine ⟨⟨i + 1, i + 1, by go_num, by go_num, by have := HME.out; omega, HZ, Lib.hid f1, Lib.hid f2⟩, by have := HME.out; simp [intOf]; omega⟩
                · obtain rfl : i = n2 := by omega
                  have hown := HOWN.out
                  have hla := HLA.out
                  rw [List.take_of_length_le (by have := HRL.out; omega)] at hown hla
                  have hrl := HRL.out
                  obtain ⟨A6, c6, hv6, hu6⟩ := UL.of_own hown
                  subst hv6
                  have hn6 := hu6.2.1
                  have HU6 := Lib.hid hu6
                  have hKT := HTL.out
                  obtain ⟨KT, hKTe⟩ : ∃ KT, KT = (trimZ R).length := ⟨_, rfl⟩
                  rw [← hKTe] at HCD2 hla hKT HTP
                  have hlc : la ≤ c6 := by omega
                  subst hla
                  have HKTN := Lib.hid hKT
                  clear hown hu6 hKTe hrl
                  go_wp2_with fail
                  refine (HCW2.out _ _ _ HU6.out).mono ?_
                  rintro e w5 ⟨A7, c7, rfl, hu7, hb⟩
                  have HB5 := Lib.hid (HBW.out.trans (hb.mono HBW.out.size))
                  have HU65 := Lib.hid (HU6.out.below hb)
                  have hba7 := (Below.refl w5.heap.size w5).alloc (Nat.le_refl _) (.cells #[.bool S2, .slice A7 K2 c7] 24)
                  have HBA7 := Lib.hid hba7
                  have HU7 := Lib.hid (hu7.below hba7)
                  clear hb hu7 hba7
                  go_wp2_with fail
                  refine (HCD2.out _ _ _ HU7.out).mono ?_
                  rintro e w6 ⟨A8, c8, rfl, hu8, hb⟩
                  have hb56 := HBA7.out.trans (hb.mono HBA7.out.size)
                  have HB6 := Lib.hid (HB5.out.trans (hb56.mono HB5.out.size))
                  have HU8 := Lib.hid hu8
                  have hu66 := (HU65.out.below hb56).take la (by omega)
                  rw [← HTP.out] at hu66
                  have HU66 := Lib.hid hu66
                  clear hb hu8 hb56 hu66
                  go_wp2_with fail
                  refine (same_longs A8 la c8 A6 c6 (trimZ R) _ (by have := HKTN.out; omega) HU8.out HU66.out).mono ?_
                  rintro e w7 ⟨rfl, hb⟩
                  have HB7 := Lib.hid (HB6.out.trans (hb.mono HB6.out.size))
                  clear hb
                  go_wp2
                  go_ret
                  exact ⟨rfl, HB7.out⟩
        · obtain ⟨K1, hK1⟩ : ∃ K1, K = K1 + 1 := ⟨K - 1, by omega⟩
          obtain ⟨y, hy⟩ : ∃ y, T[K1]? = some y := ⟨_, List.getElem?_eq_getElem (by have := HKT.out; omega)⟩
          obtain ⟨ad3, hA3', _, hcy⟩ := HU4.out.2.2.2 K1 y hy
          have hyz := HLST.out K1 y hK1.symm hy
          have hKs : (K : Int) - 1 = (K1 : Int) := by omega
          have hK1l : K1 < K := by omega
          have hKp : decide ((0 : Int) < (K : Int)) = true := decide_eq_true (by omega)
          subst hA3'
          clear hy hK1 hK0
          go_wp2_with fail
          go_loop [11] (fun iv => ∃ i : Nat, i ≤ K ∧ iv = .int .i64 i) (fun iv => K - (intOf iv).toNat)
          case atStart => exact ⟨0, Nat.zero_le _, rfl⟩
          case round =>
            obtain ⟨i, hi, rfl⟩ := hrel
            by_cases hlt : i < K
            · obtain ⟨x, hx⟩ : ∃ x, T[i]? = some x := ⟨_, List.getElem?_eq_getElem (by have := HKT.out; omega)⟩
              obtain ⟨ad, hA3, _, hcx⟩ := HU4.out.2.2.2 i x hx
              obtain rfl := Option.some.inj hA3
              have hxb := HBAL.out x (List.mem_of_getElem? hx)
              have t1 : decide (x < -hv) = false := decide_eq_false (by omega)
              have t2 : decide (hv ≤ x) = false := decide_eq_false (by omega)
              clear hx hxb
              go_wp2_with fail
              go_round
              case rel => exact ⟨i + 1, hlt, by go_num⟩
              case measure => simp [intOf]; omega
            · obtain rfl : i = K := by omega
              go_wp2_with fail
              refine (HCW1.out _ _ _ HU4.out).mono ?_
              rintro e w5 ⟨A5, c5, rfl, hu5, hb⟩
              have HB5 := Lib.hid (HB4.out.trans (hb.mono HB4.out.size))
              have r0 := (hb.cell (p := ⟨w.heap.size, 0, none⟩) hlt4).trans q0
              have r1 := (hb.cell (p := ⟨w.heap.size, 1, none⟩) hlt4).trans q1
              have hlt5 : w.heap.size < w5.heap.size := Nat.lt_of_lt_of_le hlt4 hb.size
              have hba5 := (Below.refl w5.heap.size w5).alloc (Nat.le_refl _) (.cells #[.bool s, .slice A5 n c5] 24)
              have HBA5 := Lib.hid (HB5.out.trans (hba5.mono HB5.out.size))
              have HU5 := Lib.hid (hu5.below hba5)
              clear hb hu5 hba5 q0 q1
              go_wp2_with fail
              refine (same_int s A n c A5 c5 l _ (by omega) (HU.out.below HBA5.out) HU5.out).mono ?_
              rintro e w6 ⟨rfl, hb⟩
              have HB6 := Lib.hid (HBA5.out.trans (hb.mono HBA5.out.size))
              clear hb r0 r1
              go_wp2_with fail
              go_loopw [14, 15, 16] (fun vv lv iv wr => ∃ (i la : Nat), iv = .int .i64 i ∧ lv = .int .i64 la ∧ i ≤ n2 ∧ Hid (la = (trimZ (R.take i)).length) ∧ Hid (wr.ownsRow w6.heap.size 2 1 vv i ((R.take i).map (Value.int .i64))) ∧ Hid (Below w6.heap.size w6 wr)) (fun _ _ iv _ => n2 - (intOf iv).toNat)
              case atStart => exact ⟨0, 0, rfl, rfl, Nat.zero_le _, Lib.hid rfl, Lib.hid (World.ownsRow_nil _ _ _ _), Lib.hid (Below.refl _ _)⟩
              case round =>
                obtain ⟨i, la, rfl, rfl, hi, HLA, HOWN, HB⟩ := hrel
                have HBW := Lib.hid (HB6.out.trans (HB.out.mono HB6.out.size))
                by_cases hlt : i < n2
                · obtain ⟨x, hx⟩ : ∃ x, l2[i]? = some x := ⟨_, List.getElem?_eq_getElem (by have := HLEN2.out; omega)⟩
                  obtain ⟨ad, rfl, _, hcx⟩ := (HU2.out.below HBW.out).2.2.2 i x hx
                  have hRi := HRX.out i x hx
                  obtain ⟨q, hq⟩ : ∃ q, x.tmod B2 = q := ⟨_, rfl⟩
                  have hqb := HQB.out x
                  have hrw := HROW.out x
                  rw [hq] at hqb hrw
                  have OWN2 : Hid (∀ m : Int, (wr.alloc (.cells #[.int .i64 m] 2)).ownsRow w6.heap.size 2 1 u14 i ((R.take i).map (Value.int .i64))) := Lib.hid (fun m => HOWN.out.alloc _)
                  have CELLS2 := Lib.hid (fun m => cell1L wr m 2)
                  have SIZE2 : Hid (∀ m : Int, w6.heap.size ≤ (wr.alloc (.cells #[.int .i64 m] 2)).heap.size) := Lib.hid (fun m => by have := HB.out.size; simp; omega)
                  have HME : Hid (i < n2) := Lib.hid hlt
                  have H63 : Hid (i + 1 ≤ maxLen) := Lib.hid (by simp only [maxLen]; omega)
                  have H64 : Hid ((i + 1) * 8 ≤ 140737488355328) := Lib.hid (by omega)
                  have hhb := HHB.out
                  have hbb := HBB.out
                  by_cases h1 : hv ≤ q
                  · obtain ⟨d, hd⟩ : ∃ d : Int, d = q - B2 := ⟨_, rfl⟩
                    have t1 : decide (hv ≤ q) = true := decide_eq_true h1
                    have t2 : wrap64 (q - B2) = d := by rw [hd]; unfold wrap64; omega
                    have t3 : decide (d < -hv) = false := decide_eq_false (by omega)
                    have t4 : q - B2 = d := hd.symm
                    have t5 : wrap64 d = d := by unfold wrap64; omega
                    have hdr : rowx hv x = d := by rw [hrw]; rw [if_pos h1, hd]
                    rw [hdr] at hRi
                    have HLN := Lib.hid (last_next hRi)
                    have HFN := Lib.hid (fun (v' : Value) (w3 : World) (h1 : w3.ownsRow w6.heap.size 2 1 v' (i + 1) ((R.take i).map (Value.int .i64) ++ [.int .i64 d])) (h2 : (wr.alloc (.cells #[.int .i64 d] 2)).grownBy w3 (Value.ownBlock u14)) => back_next hRi HOWN.out HB.out h1 h2)
                    clear hRi hdr hrw hx hqb hhb hbb hd
                    by_cases hd0 : d = 0
                    · have hdz : (d == 0) = true := by simpa using hd0
                      have HZ : Hid (la = (trimZ (R.take (i + 1))).length) := Lib.hid (by rw [HLN.out.1 hd0]; exact HLA.out)
                      clear hd0
                      go_wp2_with (at_builtin; refine wpList_append_own _ rfl (.tmp 147) (.tmp 149) _ rfl w6.heap.size 2 i0 _ 1 8 Try.underlying27 hi0 hz0 hz1 hz2 rfl (Nat.le_refl 1) u14 i ((R.take i).map (Value.int .i64)) rfl (OWN2.out d) ⟨wr.heap.size, 0, none⟩ 1 1 [Value.int .i64 d] rfl (CELLS2.out d).1 (CELLS2.out d).2.1 (CELLS2.out d).2.2 H63.out H64.out (SIZE2.out d) ?_; intro v' w9 hown hg _; obtain ⟨f1, f2⟩ := HFN.out v' w9 hown hg; clear hown hg)
                      refine ⟨⟨i + 1, la, by go_num, rfl, by have := HME.out; omega, HZ, Lib.hid f1, Lib.hid f2⟩, by have := HME.out; simp [intOf]; omega⟩
                    · have hdz : (d == 0) = false := by simpa using hd0
                      have HZ : Hid (i + 1 = (trimZ (R.take (i + 1))).length) := Lib.hid (by rw [HLN.out.2 hd0])
                      clear hd0
                      go_wp2_with (at_builtin; refine wpList_append_own _ rfl (.tmp 147) (.tmp 149) _ rfl w6.heap.size 2 i0 _ 1 8 Try.underlying27 hi0 hz0 hz1 hz2 rfl (Nat.le_refl 1) u14 i ((R.take i).map (Value.int .i64)) rfl (OWN2.out d) ⟨wr.heap.size, 0, none⟩ 1 1 [Value.int .i64 d] rfl (CELLS2.out d).1 (CELLS2.out d).2.1 (CELLS2.out d).2.2 H63.out H64.out (SIZE2.out d) ?_; intro v' w9 hown hg _; obtain ⟨f1, f2⟩ := HFN.out v' w9 hown hg; clear hown hg)
                      refine ⟨⟨i + 1, i + 1, by go_num, by go_num, by have := HME.out; omega, HZ, Lib.hid f1, Lib.hid f2⟩, by have := HME.out; simp [intOf]; omega⟩
                  · by_cases h2 : q < -hv
                    · obtain ⟨d, hd⟩ : ∃ d : Int, d = q + B2 := ⟨_, rfl⟩
                      have t1 : decide (hv ≤ q) = false := decide_eq_false h1
                      have t2 : wrap64 (q + B2) = d := by rw [hd]; unfold wrap64; omega
                      have t3 : decide (q < -hv) = true := decide_eq_true h2
                      have t4 : q + B2 = d := hd.symm
                      have t5 : wrap64 d = d := by unfold wrap64; omega
                      have hdr : rowx hv x = d := by rw [hrw]; rw [if_neg h1, if_pos h2, hd]
                      rw [hdr] at hRi
                      have HLN := Lib.hid (last_next hRi)
                      have HFN := Lib.hid (fun (v' : Value) (w3 : World) (h1 : w3.ownsRow w6.heap.size 2 1 v' (i + 1) ((R.take i).map (Value.int .i64) ++ [.int .i64 d])) (h2 : (wr.alloc (.cells #[.int .i64 d] 2)).grownBy w3 (Value.ownBlock u14)) => back_next hRi HOWN.out HB.out h1 h2)
                      clear hRi hdr hrw hx hqb hhb hbb hd
                      by_cases hd0 : d = 0
                      · have hdz : (d == 0) = true := by simpa using hd0
                        have HZ : Hid (la = (trimZ (R.take (i + 1))).length) := Lib.hid (by rw [HLN.out.1 hd0]; exact HLA.out)
                        clear hd0
                        go_wp2_with (at_builtin; refine wpList_append_own _ rfl (.tmp 147) (.tmp 149) _ rfl w6.heap.size 2 i0 _ 1 8 Try.underlying27 hi0 hz0 hz1 hz2 rfl (Nat.le_refl 1) u14 i ((R.take i).map (Value.int .i64)) rfl (OWN2.out d) ⟨wr.heap.size, 0, none⟩ 1 1 [Value.int .i64 d] rfl (CELLS2.out d).1 (CELLS2.out d).2.1 (CELLS2.out d).2.2 H63.out H64.out (SIZE2.out d) ?_; intro v' w9 hown hg _; obtain ⟨f1, f2⟩ := HFN.out v' w9 hown hg; clear hown hg)
                        refine ⟨⟨i + 1, la, by go_num, rfl, by have := HME.out; omega, HZ, Lib.hid f1, Lib.hid f2⟩, by have := HME.out; simp [intOf]; omega⟩
                      · have hdz : (d == 0) = false := by simpa using hd0
                        have HZ : Hid (i + 1 = (trimZ (R.take (i + 1))).length) := Lib.hid (by rw [HLN.out.2 hd0])
                        clear hd0
                        go_wp2_with (at_builtin; refine wpList_append_own _ rfl (.tmp 147) (.tmp 149) _ rfl w6.heap.size 2 i0 _ 1 8 Try.underlying27 hi0 hz0 hz1 hz2 rfl (Nat.le_refl 1) u14 i ((R.take i).map (Value.int .i64)) rfl (OWN2.out d) ⟨wr.heap.size, 0, none⟩ 1 1 [Value.int .i64 d] rfl (CELLS2.out d).1 (CELLS2.out d).2.1 (CELLS2.out d).2.2 H63.out H64.out (SIZE2.out d) ?_; intro v' w9 hown hg _; obtain ⟨f1, f2⟩ := HFN.out v' w9 hown hg; clear hown hg)
                        refine ⟨⟨i + 1, i + 1, by go_num, by go_num, by have := HME.out; omega, HZ, Lib.hid f1, Lib.hid f2⟩, by have := HME.out; simp [intOf]; omega⟩
                    · obtain ⟨d, rfl⟩ : ∃ d : Int, d = q := ⟨_, rfl⟩
                      have t1 : decide (hv ≤ d) = false := decide_eq_false h1
                      have t3 : decide (d < -hv) = false := decide_eq_false h2
                      have hdr : rowx hv x = d := by rw [hrw]; rw [if_neg h1, if_neg h2]
                      rw [hdr] at hRi
                      have HLN := Lib.hid (last_next hRi)
                      have HFN := Lib.hid (fun (v' : Value) (w3 : World) (h1 : w3.ownsRow w6.heap.size 2 1 v' (i + 1) ((R.take i).map (Value.int .i64) ++ [.int .i64 d])) (h2 : (wr.alloc (.cells #[.int .i64 d] 2)).grownBy w3 (Value.ownBlock u14)) => back_next hRi HOWN.out HB.out h1 h2)
                      clear hRi hdr hrw hx hqb hhb hbb
                      by_cases hd0 : d = 0
                      · have hdz : (d == 0) = true := by simpa using hd0
                        have HZ : Hid (la = (trimZ (R.take (i + 1))).length) := Lib.hid (by rw [HLN.out.1 hd0]; exact HLA.out)
                        clear hd0
                        go_wp2_with (at_builtin; refine wpList_append_own _ rfl (.tmp 147) (.tmp 149) _ rfl w6.heap.size 2 i0 _ 1 8 Try.underlying27 hi0 hz0 hz1 hz2 rfl (Nat.le_refl 1) u14 i ((R.take i).map (Value.int .i64)) rfl (OWN2.out d) ⟨wr.heap.size, 0, none⟩ 1 1 [Value.int .i64 d] rfl (CELLS2.out d).1 (CELLS2.out d).2.1 (CELLS2.out d).2.2 H63.out H64.out (SIZE2.out d) ?_; intro v' w9 hown hg _; obtain ⟨f1, f2⟩ := HFN.out v' w9 hown hg; clear hown hg)
                        refine ⟨⟨i + 1, la, by go_num, rfl, by have := HME.out; omega, HZ, Lib.hid f1, Lib.hid f2⟩, by have := HME.out; simp [intOf]; omega⟩
                      · have hdz : (d == 0) = false := by simpa using hd0
                        have HZ : Hid (i + 1 = (trimZ (R.take (i + 1))).length) := Lib.hid (by rw [HLN.out.2 hd0])
                        clear hd0
                        go_wp2_with (at_builtin; refine wpList_append_own _ rfl (.tmp 147) (.tmp 149) _ rfl w6.heap.size 2 i0 _ 1 8 Try.underlying27 hi0 hz0 hz1 hz2 rfl (Nat.le_refl 1) u14 i ((R.take i).map (Value.int .i64)) rfl (OWN2.out d) ⟨wr.heap.size, 0, none⟩ 1 1 [Value.int .i64 d] rfl (CELLS2.out d).1 (CELLS2.out d).2.1 (CELLS2.out d).2.2 H63.out H64.out (SIZE2.out d) ?_; intro v' w9 hown hg _; obtain ⟨f1, f2⟩ := HFN.out v' w9 hown hg; clear hown hg)
                        refine ⟨⟨i + 1, i + 1, by go_num, by go_num, by have := HME.out; omega, HZ, Lib.hid f1, Lib.hid f2⟩, by have := HME.out; simp [intOf]; omega⟩
                · obtain rfl : i = n2 := by omega
                  have hown := HOWN.out
                  have hla := HLA.out
                  rw [List.take_of_length_le (by have := HRL.out; omega)] at hown hla
                  have hrl := HRL.out
                  obtain ⟨A6, c6, hv6, hu6⟩ := UL.of_own hown
                  subst hv6
                  have hn6 := hu6.2.1
                  have HU6 := Lib.hid hu6
                  have hKT := HTL.out
                  obtain ⟨KT, hKTe⟩ : ∃ KT, KT = (trimZ R).length := ⟨_, rfl⟩
                  rw [← hKTe] at HCD2 hla hKT HTP
                  have hlc : la ≤ c6 := by omega
                  subst hla
                  have HKTN := Lib.hid hKT
                  clear hown hu6 hKTe hrl
                  go_wp2_with fail
                  refine (HCW2.out _ _ _ HU6.out).mono ?_
                  rintro e w5 ⟨A7, c7, rfl, hu7, hb⟩
                  have HB5 := Lib.hid (HBW.out.trans (hb.mono HBW.out.size))
                  have HU65 := Lib.hid (HU6.out.below hb)
                  have hba7 := (Below.refl w5.heap.size w5).alloc (Nat.le_refl _) (.cells #[.bool S2, .slice A7 K2 c7] 24)
                  have HBA7 := Lib.hid hba7
                  have HU7 := Lib.hid (hu7.below hba7)
                  clear hb hu7 hba7
                  go_wp2_with fail
                  refine (HCD2.out _ _ _ HU7.out).mono ?_
                  rintro e w6 ⟨A8, c8, rfl, hu8, hb⟩
                  have hb56 := HBA7.out.trans (hb.mono HBA7.out.size)
                  have HB6 := Lib.hid (HB5.out.trans (hb56.mono HB5.out.size))
                  have HU8 := Lib.hid hu8
                  have hu66 := (HU65.out.below hb56).take la (by omega)
                  rw [← HTP.out] at hu66
                  have HU66 := Lib.hid hu66
                  clear hb hu8 hb56 hu66
                  go_wp2_with fail
                  refine (same_longs A8 la c8 A6 c6 (trimZ R) _ (by have := HKTN.out; omega) HU8.out HU66.out).mono ?_
                  rintro e w7 ⟨rfl, hb⟩
                  have HB7 := Lib.hid (HB6.out.trans (hb.mono HB6.out.size))
                  clear hb
                  go_wp2
                  go_ret
                  exact ⟨rfl, HB7.out⟩
    · have hgt300 : decide (300 < (n : Int)) = false := decide_eq_false (by omega)
      have hgt2000 : decide (2000 < (n2 : Int)) = true := decide_eq_true (by omega)
      clear hs hs2
      go_enter Try.func6, Try.ntmps6
      go_wp2_with fail
      refine (HA.out _).mono ?_
      rintro e w1 ⟨rfl, hb⟩
      have HB1 := Lib.hid (HB0.out.trans (hb.mono HB0.out.size))
      obtain ⟨x0, x1⟩ := cells_int w w1 s A n c _ (by simpa using hb)
      clear hb
      go_wp2
      go_ret
      exact ⟨rfl, HB1.out⟩
  · have hgt300 : decide (300 < (n : Int)) = true := decide_eq_true (by omega)
    clear hs hs2
    go_enter Try.func6, Try.ntmps6
    go_wp2_with fail
    refine (HA.out _).mono ?_
    rintro e w1 ⟨rfl, hb⟩
    have HB1 := Lib.hid (HB0.out.trans (hb.mono HB0.out.size))
    obtain ⟨x0, x1⟩ := cells_int w w1 s A n c _ (by simpa using hb)
    clear hb
    go_wp2
    go_ret
    exact ⟨rfl, HB1.out⟩
end Go.Proofs.Ytclnmheplecknaa

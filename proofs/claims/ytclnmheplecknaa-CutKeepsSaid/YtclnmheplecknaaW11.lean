/-
  Walk: rosetteref14's Digits: it tells as cut's Digits does.
-/
import Derived.Test.YtclnmheplecknaaW10
set_option linter.unusedVariables false
set_option linter.unusedSimpArgs false
namespace Go.Proofs.Ytclnmheplecknaa
open Go.RowKit
set_option maxRecDepth 100000 in
set_option maxHeartbeats 4000000 in
theorem rdigits_no (s : Bool) (A : Option Addr) (m c : Nat) (mag : List Int) (b : Int) (w : World) (hu : U w A m c mag) (hm : m ≤ 1000000000000) (hno : rightB s mag = false ∨ ¬ (2 ≤ b ∧ b ≤ 30)) :
    Calls Try.prog 14 #[.agg #[.bool s, .slice A m c], .int .i64 b] w fun e w' => e = .returned (.tuple #[.slice none 0 0, .int .i64 2]) ∧ Below w.heap.size w w' := by
  have HB0 := Lib.hid ((Below.refl w.heap.size w).alloc (Nat.le_refl _) (.cells #[.bool s, .slice A m c] 24))
  have HR := Lib.hid (rright_any s A m c mag (w.alloc (.cells #[.bool s, .slice A m c] 24)) (hu.below HB0.out) hm)
  have HM := Lib.hid (fun w => rmay14_any b w)
  clear hu hm
  cases hr : rightB s mag
  · rw [hr] at HR
    clear hr hno
    go_enter Try.func14, Try.ntmps14
    go_wp2_with fail
    refine HR.out.mono ?_
    rintro e w1 ⟨rfl, hb⟩
    have HB1 := Lib.hid (HB0.out.trans (hb.mono HB0.out.size))
    clear hb
    go_wp2
    go_ret2
    exact ⟨rfl, HB1.out⟩
  · rw [hr] at HR hno
    have hd : decide (2 ≤ b ∧ b ≤ 30) = false := decide_eq_false (by rcases hno with h | h; cases h; exact h)
    rw [hd] at HM
    clear hr hno hd
    go_enter Try.func14, Try.ntmps14
    go_wp2_with fail
    refine HR.out.mono ?_
    rintro e w1 ⟨rfl, hb⟩
    have HB1 := Lib.hid (HB0.out.trans (hb.mono HB0.out.size))
    clear hb
    go_wp2_with fail
    refine (HM.out _).mono ?_
    rintro e w' ⟨rfl, rfl⟩
    go_wp2
    go_ret2
    exact ⟨rfl, HB1.out⟩
/-- The last digit that is not 0 stands there. -/
def LastAt (xs : List Int) (la : Nat) : Prop := la ≤ xs.length ∧ (∀ x, x ∈ xs.drop la → x = 0) ∧ (la = 0 ∨ ∃ x, xs[la - 1]? = some x ∧ x ≠ 0)
theorem LastAt.nil : LastAt [] 0 := ⟨Nat.le_refl _, fun x hx => by simp at hx, .inl rfl⟩
theorem LastAt.zero {xs : List Int} {la : Nat} (h : LastAt xs la) : LastAt (xs ++ [0]) la := by
  obtain ⟨h1, h2, h3⟩ := h
  refine ⟨by simp; omega, fun x hx => ?_, ?_⟩
  · rw [List.drop_append_of_le_length h1] at hx
    rcases List.mem_append.1 hx with h | h
    · exact h2 x h
    · simpa using h
  · rcases h3 with h3 | ⟨x, hx, h0⟩
    · exact .inl h3
    · exact .inr ⟨x, by rw [List.getElem?_append_left (by have := (List.getElem?_eq_some_iff.1 hx).1; exact this)]; exact hx, h0⟩
theorem LastAt.more (xs : List Int) (d : Int) (h0 : d ≠ 0) : LastAt (xs ++ [d]) (xs.length + 1) := by
  refine ⟨by simp, fun x hx => ?_, .inr ⟨d, by simp, h0⟩⟩
  rw [List.drop_eq_nil_of_le (by simp)] at hx
  cases hx
theorem LastAt.trim {xs : List Int} {la : Nat} (h : LastAt xs la) : trimZ xs = xs.take la := trimZ_take xs la h.1 h.2.1 h.2.2
theorem rawD_none (h : Int) (s : Bool) (N b m : Nat) (h0 : (digS h s (chks N b (chkM m b))).2 = 0) : rawD h s N b m = (digS h s (chks N b (chkM m b))).1 := by unfold rawD; rw [if_pos h0]
theorem rawD_one (h : Int) (s : Bool) (N b m : Nat) (hh : 2 ≤ h) (hz : (chkC N (b * chkM m b) b).1 = 0) (h0 : (digS h s (chks N b (chkM m b))).2 ≠ 0) : rawD h s N b m = (digS h s (chks N b (chkM m b + 1))).1 ∧ (digS h s (chks N b (chkM m b + 1))).2 = 0 := by
  have hc := digS_carry h s (chks N b (chkM m b))
  rw [chks_succ, digS_snoc]
  unfold rawD putL sgnC
  rw [if_neg h0, hz]
  have e : (if s = true then -(0 : Int) else 0) + (digS h s (chks N b (chkM m b))).2 = (digS h s (chks N b (chkM m b))).2 := by split <;> omega
  rw [e]
  have hst : stepD h (digS h s (chks N b (chkM m b))).2 = ((digS h s (chks N b (chkM m b))).2, 0) := by
    unfold stepD
    rw [if_neg (by omega), if_neg (by omega)]
  rw [hst]
  exact ⟨rfl, rfl⟩
theorem UL1 (w : World) (d : Int) (t : TypeId) : True := trivial
set_option maxRecDepth 400000 in
set_option maxHeartbeats 8000000 in
theorem rdigits_yes (s : Bool) (A : Option Addr) (m c b : Nat) (mag : List Int) (w : World) (hu : U w A m c mag) (hd : Nt.Dig 18446744073709551616 mag) (hr : rightB s mag = true) (hb1 : 2 ≤ b) (hb2 : b ≤ 30) (hm : m ≤ 1000000) :
    Calls Try.prog 14 #[.agg #[.bool s, .slice A m c], .int .i64 b] w (DigPost (digT s (Nt.val 18446744073709551616 mag) b m) w) := by
  obtain ⟨i0, hi0, hz0, hz1, hz2⟩ := info_parts i64_info
  have HB0 := Lib.hid ((Below.refl w.heap.size w).alloc (Nat.le_refl _) (.cells #[.bool s, .slice A m c] 24))
  have HR := Lib.hid (rright_any s A m c mag (w.alloc (.cells #[.bool s, .slice A m c] 24)) (hu.below HB0.out) (by omega))
  rw [hr] at HR
  have HM := Lib.hid (fun w => rmay14_any b w)
  rw [decide_eq_true (by omega)] at HM
  obtain ⟨N, hN⟩ : ∃ N, N = Nt.val 18446744073709551616 mag := ⟨_, rfl⟩
  have HCH := Lib.hid (fun (at0 : Nat) (x : World) (hx : Below w.heap.size w x) (h : at0 ≤ 100000000) => chunk_any A m c mag at0 b x (hu.below hx) hd (by omega) hb2 h)
  have HHI := Lib.hid (fun (p : Nat) (h : 64 * m ≤ p) => Nt.chk_high mag hd p b (by rw [hu.1]; exact h))
  rw [← hN] at HCH HHI ⊢
  obtain ⟨b1, hb'⟩ : ∃ b1, b = b1 + 1 := ⟨b - 1, by omega⟩
  have hbs : (b : Int) - 1 = (b1 : Int) := by omega
  obtain ⟨h, hh⟩ : ∃ h : Int, h = ((2 ^ (b - 1) : Nat) : Int) := ⟨_, rfl⟩
  have hh2 : 2 ≤ h ∧ h ≤ 536870912 := by
    have h1 : (2 : Nat) ^ 1 ≤ 2 ^ (b - 1) := Nat.pow_le_pow_right (by decide) (by omega)
    have h2 : (2 : Nat) ^ (b - 1) ≤ 2 ^ 29 := Nat.pow_le_pow_right (by decide) (by omega)
    have h3 : (2 : Nat) ^ 29 = 536870912 := by decide
    omega
  have hsh : IntKind.i64.wrap (2 ^ b1) = h := by
    rw [show ((2 : Int) ^ b1) = ((2 ^ (b - 1) : Nat) : Int) by rw [hb']; simp, ← hh, IntKind.wrap_i64]; omega
  obtain ⟨B2, hB2⟩ : ∃ B2 : Int, B2 = 2 * h := ⟨_, rfl⟩
  have hsh2 : IntKind.i64.wrap (2 ^ b) = B2 := by
    have e1 : (2 : Nat) ^ b = 2 * 2 ^ (b - 1) := by rw [hb', Nat.add_sub_cancel, Nat.pow_succ]; omega
    have e2 : ((2 : Int) ^ b) = ((2 ^ b : Nat) : Int) := by simp
    rw [e2, e1, Int.natCast_mul, ← hh, IntKind.wrap_i64, hB2]; omega
  have hcw1 : IntKind.u64.wrap (b : Int) = (b : Int) := by rw [IntKind.wrap_u64]; omega
  have hcw2 : IntKind.u64.wrap (b1 : Int) = (b1 : Int) := by rw [IntKind.wrap_u64]; omega
  have hnh : wrap64 (-h) = -h := by unfold wrap64; omega
  have HDT : Hid (digT s N b m = trimZ (rawD h s N b m)) := Lib.hid (by unfold digT; rw [hh])
  have HH := Lib.hid hh2
  have HB2 := Lib.hid hB2
  have hml : chkM m b ≤ 64000000 := by
    rcases Nat.lt_or_ge 64000000 (chkM m b) with h' | h'
    · have := (chkM_lt m b 64000000 (by omega)).1 h'
      have h2' := Nat.mul_le_mul_right 64000000 hb1
      omega
    · exact h'
  have HML := Lib.hid hml
  clear hu hd hr hN hh hh2 hB2 hb' hml
  go_enter Try.func14, Try.ntmps14
  go_wp2_with fail
  refine HR.out.mono ?_
  rintro e w1 ⟨rfl, hb⟩
  have HB1 := Lib.hid (HB0.out.trans (hb.mono HB0.out.size))
  have hx1 : w1.cell? ⟨w.heap.size, 1, none⟩ = some (.slice A m c) := (hb.cell (p := ⟨w.heap.size, 1, none⟩) (alloc_lt w _)).trans (by simp)
  have hx0 : w1.cell? ⟨w.heap.size, 0, none⟩ = some (.bool s) := (hb.cell (p := ⟨w.heap.size, 0, none⟩) (alloc_lt w _)).trans (by simp)
  have HSZ : Hid (w.heap.size < w1.heap.size) := Lib.hid (Nat.lt_of_lt_of_le (alloc_lt w _) hb.size)
  have HX1 := Lib.hid hx1
  have HX0 := Lib.hid hx0
  clear hb hx0 hx1
  go_wp2_with fail
  refine (HM.out _).mono ?_
  rintro e w' ⟨rfl, rfl⟩
  go_wp2_with fail
  go_loopw [8, 9, 10, 11] (fun ov cv lv av wr => ∃ (k la : Nat) (cy : Int), av = .int .i64 ((b * k : Nat) : Int) ∧ cv = .int .i64 cy ∧ lv = .int .i64 la ∧ k ≤ chkM m b + 1 ∧ Hid (cy = (digS h s (chks N b k)).2) ∧ Hid (LastAt (digS h s (chks N b k)).1 la) ∧ Hid (wr.ownsRow w1.heap.size 2 1 ov k ((digS h s (chks N b k)).1.map (Value.int .i64))) ∧ Hid (Below w1.heap.size w1 wr) ∧ Hid (k = chkM m b + 1 → cy = 0 ∧ (digS h s (chks N b (chkM m b))).2 ≠ 0)) (fun _ _ _ av _ => 64 * m + 2 * b + b - (intOf av).toNat)
  case atStart => exact ⟨0, 0, 0, rfl, rfl, rfl, Nat.zero_le _, Lib.hid rfl, Lib.hid LastAt.nil, Lib.hid (World.ownsRow_nil _ _ _ _), Lib.hid (Below.refl _ _), Lib.hid (by intro h; omega)⟩
  case round =>
    obtain ⟨k, la, cy, rfl, rfl, rfl, hk, HCY, HLA, HOWN, HB, HEND⟩ := hrel
    have hxm : wr.cell? ⟨w.heap.size, 1, none⟩ = some (.slice A m c) := (HB.out.cell (p := ⟨w.heap.size, 1, none⟩) HSZ.out).trans HX1.out
    have hxs : wr.cell? ⟨w.heap.size, 0, none⟩ = some (.bool s) := (HB.out.cell (p := ⟨w.heap.size, 0, none⟩) HSZ.out).trans HX0.out
    have HBW : Hid (Below w.heap.size w wr) := Lib.hid (HB1.out.trans (HB.out.mono HB1.out.size))
    have hlen := digS_len h s (chks N b k)
    rw [chks_len] at hlen
    have hkm := chkM_lt m b k (by omega)
    obtain ⟨P, hP⟩ : ∃ P, P = b * k := ⟨_, rfl⟩
    rw [← hP] at hkm ⊢
    obtain ⟨xs, hxsv⟩ : ∃ xs, xs = (digS h s (chks N b k)).1 := ⟨_, rfl⟩
    rw [← hxsv] at HLA HOWN hlen
    have hcyb : -1 ≤ cy ∧ cy ≤ 1 := by rw [HCY.out]; exact digS_carry h s _
    by_cases hgo : P < 64 * m ∨ cy ≠ 0
    · have hkM : k ≤ chkM m b := by
        rcases Nat.lt_or_ge (chkM m b) k with h' | h'
        · have h2 := HEND.out (by omega)
          rcases hgo with h3 | h3
          · have := hkm.2 h3; omega
          · exact absurd h2.1 h3
        · exact h'
      have hPb : P ≤ 64 * m + b := by
        rcases Nat.lt_or_ge k (chkM m b) with h' | h'
        · have := hkm.1 h'; omega
        · have hke : k = chkM m b := by omega
          have hb3 := Nat.div_mul_le_self (64 * m + b - 1) b
          rw [hP, hke, Nat.mul_comm]
          unfold chkM
          omega
      obtain ⟨ck, hck⟩ : ∃ ck, ck = chkC N (b * k) b := ⟨_, rfl⟩
      have hcv : ck.1 = (chkN N P b : Int) := by rw [hck, chkC_val _ _ _ hb2, ← hP]
      have HSN : Hid (digS h s (chks N b (k + 1)) = putL h (xs, cy) (sgnC s ck)) := Lib.hid (by rw [chks_succ, digS_snoc, ← hck, hxsv, HCY.out])
      have HCALL := Lib.hid (HCH.out P wr HBW.out (by omega))
      obtain ⟨x, hx⟩ : ∃ x : Int, x = ck.1 := ⟨_, rfl⟩
      rw [← hcv, ← hx] at HCALL
      have hxb : 0 ≤ x ∧ x < 1073741824 := by rw [hx]; exact ck.2
      obtain ⟨E, hE⟩ : ∃ E : Int, E = sgnC s ck + cy := ⟨_, rfl⟩
      have hEs : E = (if s then -x else x) + cy := by rw [hE]; unfold sgnC; rw [← hx]
      have HNEW : Hid (∀ d c', stepD h E = (d, c') → (digS h s (chks N b (k + 1))).1 = xs ++ [d] ∧ (digS h s (chks N b (k + 1))).2 = c') := Lib.hid (fun d c' hst => by
        rw [HSN.out]
        unfold putL
        dsimp only
        rw [← hE, hst]
        exact ⟨rfl, rfl⟩)
      have HEND2 : Hid (k + 1 = chkM m b + 1 → (digS h s (chks N b (k + 1))).2 = 0 ∧ (digS h s (chks N b (chkM m b))).2 ≠ 0) := Lib.hid (by
        intro h1
        have hke : k = chkM m b := by omega
        have hnm : ¬ P < 64 * m := fun h2 => by have := hkm.2 h2; omega
        have hcy0 : cy ≠ 0 := by rcases hgo with h3 | h3; exact absurd h3 hnm; exact h3
        have hz : (chkC N (b * chkM m b) b).1 = 0 := by
          rw [chkC_val _ _ _ hb2, ← hke, ← hP, HHI.out P (by omega)]; rfl
        have hcyM : (digS h s (chks N b (chkM m b))).2 ≠ 0 := by rw [← hke, ← HCY.out]; exact hcy0
        rw [hke]
        exact ⟨(rawD_one h s N b m HH.out.1 hz hcyM).2, hcyM⟩)
      obtain ⟨P2, hP2⟩ : ∃ P2, P2 = P + b := ⟨_, rfl⟩
      have HP2 : Hid (P2 = b * (k + 1)) := Lib.hid (by rw [Nat.mul_add, ← hP]; omega)
      have hadd2 : (P : Int) + (b : Int) = (P2 : Int) := by omega
      have HME : Hid (P < P2 ∧ P ≤ 64 * m + b) := Lib.hid ⟨by omega, hPb⟩
      have HKM := Lib.hid hkM
      have HLEN := Lib.hid hlen
      have OWN2 : Hid (∀ d : Int, (wr.alloc (.cells #[.int .i64 d] 2)).ownsRow w1.heap.size 2 1 u8 k (xs.map (Value.int .i64))) := Lib.hid (fun d => HOWN.out.alloc _)
      have CELLS2 := Lib.hid (fun d => cell1L wr d 2)
      have SIZE2 : Hid (∀ d : Int, w1.heap.size ≤ (wr.alloc (.cells #[.int .i64 d] 2)).heap.size) := Lib.hid (fun d => by have := HB.out.size; simp; omega)
      have H63 : Hid (k + 1 ≤ maxLen) := Lib.hid (by have := HML.out; simp only [maxLen]; omega)
      have H64 : Hid ((k + 1) * 8 ≤ 140737488355328) := Lib.hid (by have := HML.out; omega)
      have HFIN : Hid (∀ (d : Int) (v' : Value) (w3 : World), w3.ownsRow w1.heap.size 2 1 v' (k + 1) (xs.map (Value.int .i64) ++ [.int .i64 d]) → (wr.alloc (.cells #[.int .i64 d] 2)).grownBy w3 u8.ownBlock → (digS h s (chks N b (k + 1))).1 = xs ++ [d] → Hid (w3.ownsRow w1.heap.size 2 1 v' (k + 1) ((digS h s (chks N b (k + 1))).1.map (Value.int .i64))) ∧ Hid (Below w1.heap.size w1 w3)) := Lib.hid (fun d v' w3 h1 h2 h3 => ⟨Lib.hid (by rw [h3, List.map_append]; exact h1), Lib.hid ((HB.out.alloc HB.out.size _).grown h2 (by have := HB.out.size; simp; omega) (fun j ej => (HOWN.out.lt j ej).1))⟩)
      have hgoB : ((decide ((P : Int) < 64 * (m : Int)) || !(cy == 0)) = true) := by
        rcases hgo with h3 | h3
        · rw [decide_eq_true (by omega), Bool.true_or]
        · have : (cy == 0) = false := by simpa using h3
          rw [this]; simp
      have hgc : P < 64 * m ∨ (¬ P < 64 * m ∧ cy ≠ 0) := by
        rcases Nat.lt_or_ge P (64 * m) with h3 | h3
        · exact .inl h3
        · exact .inr ⟨by omega, by rcases hgo with h4 | h4; omega; exact h4⟩
      have HEB := Lib.hid hEs
      have HXB := Lib.hid hxb
      have HCYB := Lib.hid hcyb
      clear hkm hgo hkM hPb hck hcv hx hE hEs hlen hxsv hP2 hgoB hP hxb hcyb
      rcases hgc with hlt | ⟨hnl, hcn⟩
      · have hlt2 : decide (P < 64 * m) = true := decide_eq_true hlt
        cases s
        · have hneg : wrap64 (x + cy) = E := by have h5 := HEB.out; have h6 := HXB.out; have h7 := HCYB.out; unfold wrap64; simp at h5; omega
          by_cases h1 : h ≤ E
          · obtain ⟨d, hdv⟩ : ∃ d : Int, d = E - B2 := ⟨_, rfl⟩
            have hst : stepD h E = (d, 1) := by unfold stepD; rw [if_pos h1]; rw [hdv, HB2.out]
            have hw2 : wrap64 (E - B2) = d := by have h5 := HEB.out; have h6 := HXB.out; have h7 := HCYB.out; have h8 := HH.out; have h9 := HB2.out; unfold wrap64; simp at h5; omega
            obtain ⟨hn1, hn2⟩ := HNEW.out d 1 hst
            have HN1 := Lib.hid hn1
            have HN2 := Lib.hid hn2
            have HF2 := Lib.hid (fun v' w3 h1 h2 => HFIN.out d v' w3 h1 h2 hn1)
            have HLZ : Hid (d = 0 → LastAt (digS h false (chks N b (k + 1))).1 la) := Lib.hid (fun h0 => by rw [HN1.out, h0]; exact HLA.out.zero)
            have HLM : Hid (d ≠ 0 → LastAt (digS h false (chks N b (k + 1))).1 (k + 1)) := Lib.hid (fun h0 => by
              have := LastAt.more xs d h0
              rw [HLEN.out] at this
              rw [HN1.out]; exact this)
            have HE2 : Hid (k + 1 = chkM m b + 1 → (1 : Int) = 0 ∧ (digS h false (chks N b (chkM m b))).2 ≠ 0) := Lib.hid (fun hh => by
              have := HEND2.out hh
              rw [HN2.out] at this
              exact this)
            clear hn1 hn2 hst hdv 
            by_cases hd0 : d = 0
            · have hdz : (d == 0) = true := by simpa using hd0
              have HZ0 := Lib.hid (HLZ.out hd0)
              clear hd0
              go_wp2_with (first
                | (go_at_call 40; refine HCALL.out.mono ?_; rintro e w' ⟨rfl, rfl⟩)
                | (at_builtin; refine wpList_append_own _ rfl (.tmp 66) (.tmp 68) _ rfl w1.heap.size 2 i0 _ 1 8 Try.underlying27 hi0 hz0 hz1 hz2 rfl (Nat.le_refl 1) u8 k (xs.map (Value.int .i64)) rfl (OWN2.out d) ⟨wr.heap.size, 0, none⟩ 1 1 [Value.int .i64 d] rfl (CELLS2.out d).1 (CELLS2.out d).2.1 (CELLS2.out d).2.2 H63.out H64.out (SIZE2.out d) ?_; intro v' w3 hown hg _; obtain ⟨f1, f2⟩ := HF2.out v' w3 hown hg; clear hown hg))
              refine ⟨⟨k + 1, la, 1, by rw [← HP2.out], rfl, rfl, by have := HKM.out; omega, Lib.hid HN2.out.symm, HZ0, f1, f2, Lib.hid (fun hh => by first | exact ⟨rfl, (HE2.out hh).2⟩ | exact absurd (HE2.out hh).1 (by decide))⟩, by have := HME.out; simp [intOf]; omega⟩
            · have hdz : (d == 0) = false := by simpa using hd0
              have HZ0 := Lib.hid (HLM.out hd0)
              clear hd0
              go_wp2_with (first
                | (go_at_call 40; refine HCALL.out.mono ?_; rintro e w' ⟨rfl, rfl⟩)
                | (at_builtin; refine wpList_append_own _ rfl (.tmp 66) (.tmp 68) _ rfl w1.heap.size 2 i0 _ 1 8 Try.underlying27 hi0 hz0 hz1 hz2 rfl (Nat.le_refl 1) u8 k (xs.map (Value.int .i64)) rfl (OWN2.out d) ⟨wr.heap.size, 0, none⟩ 1 1 [Value.int .i64 d] rfl (CELLS2.out d).1 (CELLS2.out d).2.1 (CELLS2.out d).2.2 H63.out H64.out (SIZE2.out d) ?_; intro v' w3 hown hg _; obtain ⟨g', cap', rfl⟩ := ownsRow_succ hown; obtain ⟨f1, f2⟩ := HF2.out _ w3 hown hg; clear hown hg))
              refine ⟨⟨k + 1, k + 1, 1, by rw [← HP2.out], rfl, by go_num, by have := HKM.out; omega, Lib.hid HN2.out.symm, HZ0, f1, f2, Lib.hid (fun hh => by first | exact ⟨rfl, (HE2.out hh).2⟩ | exact absurd (HE2.out hh).1 (by decide))⟩, by have := HME.out; simp [intOf]; omega⟩
          · by_cases h2 : E < -h
            · obtain ⟨d, hdv⟩ : ∃ d : Int, d = E + B2 := ⟨_, rfl⟩
              have hst : stepD h E = (d, (-1)) := by unfold stepD; rw [if_neg h1, if_pos h2]; rw [hdv, HB2.out]
              have hd1 : decide (h ≤ E) = false := decide_eq_false h1
              have hd2 : decide (E < -h) = true := decide_eq_true h2
              have hw2 : wrap64 (E + B2) = d := by have h5 := HEB.out; have h6 := HXB.out; have h7 := HCYB.out; have h8 := HH.out; have h9 := HB2.out; unfold wrap64; simp at h5; omega
              obtain ⟨hn1, hn2⟩ := HNEW.out d (-1) hst
              have HN1 := Lib.hid hn1
              have HN2 := Lib.hid hn2
              have HF2 := Lib.hid (fun v' w3 h1 h2 => HFIN.out d v' w3 h1 h2 hn1)
              have HLZ : Hid (d = 0 → LastAt (digS h false (chks N b (k + 1))).1 la) := Lib.hid (fun h0 => by rw [HN1.out, h0]; exact HLA.out.zero)
              have HLM : Hid (d ≠ 0 → LastAt (digS h false (chks N b (k + 1))).1 (k + 1)) := Lib.hid (fun h0 => by
                have := LastAt.more xs d h0
                rw [HLEN.out] at this
                rw [HN1.out]; exact this)
              have HE2 : Hid (k + 1 = chkM m b + 1 → ((-1) : Int) = 0 ∧ (digS h false (chks N b (chkM m b))).2 ≠ 0) := Lib.hid (fun hh => by
                have := HEND2.out hh
                rw [HN2.out] at this
                exact this)
              clear hn1 hn2 hst hdv 
              by_cases hd0 : d = 0
              · have hdz : (d == 0) = true := by simpa using hd0
                have HZ0 := Lib.hid (HLZ.out hd0)
                clear hd0
                go_wp2_with (first
                  | (go_at_call 40; refine HCALL.out.mono ?_; rintro e w' ⟨rfl, rfl⟩)
                  | (at_builtin; refine wpList_append_own _ rfl (.tmp 66) (.tmp 68) _ rfl w1.heap.size 2 i0 _ 1 8 Try.underlying27 hi0 hz0 hz1 hz2 rfl (Nat.le_refl 1) u8 k (xs.map (Value.int .i64)) rfl (OWN2.out d) ⟨wr.heap.size, 0, none⟩ 1 1 [Value.int .i64 d] rfl (CELLS2.out d).1 (CELLS2.out d).2.1 (CELLS2.out d).2.2 H63.out H64.out (SIZE2.out d) ?_; intro v' w3 hown hg _; obtain ⟨f1, f2⟩ := HF2.out v' w3 hown hg; clear hown hg))
                refine ⟨⟨k + 1, la, (-1), by rw [← HP2.out], rfl, rfl, by have := HKM.out; omega, Lib.hid HN2.out.symm, HZ0, f1, f2, Lib.hid (fun hh => by first | exact ⟨rfl, (HE2.out hh).2⟩ | exact absurd (HE2.out hh).1 (by decide))⟩, by have := HME.out; simp [intOf]; omega⟩
              · have hdz : (d == 0) = false := by simpa using hd0
                have HZ0 := Lib.hid (HLM.out hd0)
                clear hd0
                go_wp2_with (first
                  | (go_at_call 40; refine HCALL.out.mono ?_; rintro e w' ⟨rfl, rfl⟩)
                  | (at_builtin; refine wpList_append_own _ rfl (.tmp 66) (.tmp 68) _ rfl w1.heap.size 2 i0 _ 1 8 Try.underlying27 hi0 hz0 hz1 hz2 rfl (Nat.le_refl 1) u8 k (xs.map (Value.int .i64)) rfl (OWN2.out d) ⟨wr.heap.size, 0, none⟩ 1 1 [Value.int .i64 d] rfl (CELLS2.out d).1 (CELLS2.out d).2.1 (CELLS2.out d).2.2 H63.out H64.out (SIZE2.out d) ?_; intro v' w3 hown hg _; obtain ⟨g', cap', rfl⟩ := ownsRow_succ hown; obtain ⟨f1, f2⟩ := HF2.out _ w3 hown hg; clear hown hg))
                refine ⟨⟨k + 1, k + 1, (-1), by rw [← HP2.out], rfl, by go_num, by have := HKM.out; omega, Lib.hid HN2.out.symm, HZ0, f1, f2, Lib.hid (fun hh => by first | exact ⟨rfl, (HE2.out hh).2⟩ | exact absurd (HE2.out hh).1 (by decide))⟩, by have := HME.out; simp [intOf]; omega⟩
            · obtain ⟨d, hdv⟩ : ∃ d : Int, d = E := ⟨_, rfl⟩
              have hst : stepD h E = (d, 0) := by unfold stepD; rw [if_neg h1, if_neg h2]; rw [hdv]
              have hd1 : decide (h ≤ E) = false := decide_eq_false h1
              have hd2 : decide (E < -h) = false := decide_eq_false h2
              have hdE : d = E := hdv
              subst hdE
              have hdv : True := trivial
              obtain ⟨hn1, hn2⟩ := HNEW.out d 0 hst
              have HN1 := Lib.hid hn1
              have HN2 := Lib.hid hn2
              have HF2 := Lib.hid (fun v' w3 h1 h2 => HFIN.out d v' w3 h1 h2 hn1)
              have HLZ : Hid (d = 0 → LastAt (digS h false (chks N b (k + 1))).1 la) := Lib.hid (fun h0 => by rw [HN1.out, h0]; exact HLA.out.zero)
              have HLM : Hid (d ≠ 0 → LastAt (digS h false (chks N b (k + 1))).1 (k + 1)) := Lib.hid (fun h0 => by
                have := LastAt.more xs d h0
                rw [HLEN.out] at this
                rw [HN1.out]; exact this)
              have HE2 : Hid (k + 1 = chkM m b + 1 → (0 : Int) = 0 ∧ (digS h false (chks N b (chkM m b))).2 ≠ 0) := Lib.hid (fun hh => by
                have := HEND2.out hh
                rw [HN2.out] at this
                exact this)
              clear hn1 hn2 hst hdv 
              by_cases hd0 : d = 0
              · have hdz : (d == 0) = true := by simpa using hd0
                have HZ0 := Lib.hid (HLZ.out hd0)
                clear hd0
                go_wp2_with (first
                  | (go_at_call 40; refine HCALL.out.mono ?_; rintro e w' ⟨rfl, rfl⟩)
                  | (at_builtin; refine wpList_append_own _ rfl (.tmp 66) (.tmp 68) _ rfl w1.heap.size 2 i0 _ 1 8 Try.underlying27 hi0 hz0 hz1 hz2 rfl (Nat.le_refl 1) u8 k (xs.map (Value.int .i64)) rfl (OWN2.out d) ⟨wr.heap.size, 0, none⟩ 1 1 [Value.int .i64 d] rfl (CELLS2.out d).1 (CELLS2.out d).2.1 (CELLS2.out d).2.2 H63.out H64.out (SIZE2.out d) ?_; intro v' w3 hown hg _; obtain ⟨f1, f2⟩ := HF2.out v' w3 hown hg; clear hown hg))
                refine ⟨⟨k + 1, la, 0, by rw [← HP2.out], rfl, rfl, by have := HKM.out; omega, Lib.hid HN2.out.symm, HZ0, f1, f2, Lib.hid (fun hh => by first | exact ⟨rfl, (HE2.out hh).2⟩ | exact absurd (HE2.out hh).1 (by decide))⟩, by have := HME.out; simp [intOf]; omega⟩
              · have hdz : (d == 0) = false := by simpa using hd0
                have HZ0 := Lib.hid (HLM.out hd0)
                clear hd0
                go_wp2_with (first
                  | (go_at_call 40; refine HCALL.out.mono ?_; rintro e w' ⟨rfl, rfl⟩)
                  | (at_builtin; refine wpList_append_own _ rfl (.tmp 66) (.tmp 68) _ rfl w1.heap.size 2 i0 _ 1 8 Try.underlying27 hi0 hz0 hz1 hz2 rfl (Nat.le_refl 1) u8 k (xs.map (Value.int .i64)) rfl (OWN2.out d) ⟨wr.heap.size, 0, none⟩ 1 1 [Value.int .i64 d] rfl (CELLS2.out d).1 (CELLS2.out d).2.1 (CELLS2.out d).2.2 H63.out H64.out (SIZE2.out d) ?_; intro v' w3 hown hg _; obtain ⟨g', cap', rfl⟩ := ownsRow_succ hown; obtain ⟨f1, f2⟩ := HF2.out _ w3 hown hg; clear hown hg))
                refine ⟨⟨k + 1, k + 1, 0, by rw [← HP2.out], rfl, by go_num, by have := HKM.out; omega, Lib.hid HN2.out.symm, HZ0, f1, f2, Lib.hid (fun hh => by first | exact ⟨rfl, (HE2.out hh).2⟩ | exact absurd (HE2.out hh).1 (by decide))⟩, by have := HME.out; simp [intOf]; omega⟩
        · have hng : wrap64 (-x) = -x := by have h6 := HXB.out; unfold wrap64; omega
          have hneg : wrap64 (-x + cy) = E := by have h5 := HEB.out; have h6 := HXB.out; have h7 := HCYB.out; unfold wrap64; simp at h5; omega
          by_cases h1 : h ≤ E
          · obtain ⟨d, hdv⟩ : ∃ d : Int, d = E - B2 := ⟨_, rfl⟩
            have hst : stepD h E = (d, 1) := by unfold stepD; rw [if_pos h1]; rw [hdv, HB2.out]
            have hw2 : wrap64 (E - B2) = d := by have h5 := HEB.out; have h6 := HXB.out; have h7 := HCYB.out; have h8 := HH.out; have h9 := HB2.out; unfold wrap64; simp at h5; omega
            obtain ⟨hn1, hn2⟩ := HNEW.out d 1 hst
            have HN1 := Lib.hid hn1
            have HN2 := Lib.hid hn2
            have HF2 := Lib.hid (fun v' w3 h1 h2 => HFIN.out d v' w3 h1 h2 hn1)
            have HLZ : Hid (d = 0 → LastAt (digS h true (chks N b (k + 1))).1 la) := Lib.hid (fun h0 => by rw [HN1.out, h0]; exact HLA.out.zero)
            have HLM : Hid (d ≠ 0 → LastAt (digS h true (chks N b (k + 1))).1 (k + 1)) := Lib.hid (fun h0 => by
              have := LastAt.more xs d h0
              rw [HLEN.out] at this
              rw [HN1.out]; exact this)
            have HE2 : Hid (k + 1 = chkM m b + 1 → (1 : Int) = 0 ∧ (digS h true (chks N b (chkM m b))).2 ≠ 0) := Lib.hid (fun hh => by
              have := HEND2.out hh
              rw [HN2.out] at this
              exact this)
            clear hn1 hn2 hst hdv 
            by_cases hd0 : d = 0
            · have hdz : (d == 0) = true := by simpa using hd0
              have HZ0 := Lib.hid (HLZ.out hd0)
              clear hd0
              go_wp2_with (first
                | (go_at_call 40; refine HCALL.out.mono ?_; rintro e w' ⟨rfl, rfl⟩)
                | (at_builtin; refine wpList_append_own _ rfl (.tmp 66) (.tmp 68) _ rfl w1.heap.size 2 i0 _ 1 8 Try.underlying27 hi0 hz0 hz1 hz2 rfl (Nat.le_refl 1) u8 k (xs.map (Value.int .i64)) rfl (OWN2.out d) ⟨wr.heap.size, 0, none⟩ 1 1 [Value.int .i64 d] rfl (CELLS2.out d).1 (CELLS2.out d).2.1 (CELLS2.out d).2.2 H63.out H64.out (SIZE2.out d) ?_; intro v' w3 hown hg _; obtain ⟨f1, f2⟩ := HF2.out v' w3 hown hg; clear hown hg))
              refine ⟨⟨k + 1, la, 1, by rw [← HP2.out], rfl, rfl, by have := HKM.out; omega, Lib.hid HN2.out.symm, HZ0, f1, f2, Lib.hid (fun hh => by first | exact ⟨rfl, (HE2.out hh).2⟩ | exact absurd (HE2.out hh).1 (by decide))⟩, by have := HME.out; simp [intOf]; omega⟩
            · have hdz : (d == 0) = false := by simpa using hd0
              have HZ0 := Lib.hid (HLM.out hd0)
              clear hd0
              go_wp2_with (first
                | (go_at_call 40; refine HCALL.out.mono ?_; rintro e w' ⟨rfl, rfl⟩)
                | (at_builtin; refine wpList_append_own _ rfl (.tmp 66) (.tmp 68) _ rfl w1.heap.size 2 i0 _ 1 8 Try.underlying27 hi0 hz0 hz1 hz2 rfl (Nat.le_refl 1) u8 k (xs.map (Value.int .i64)) rfl (OWN2.out d) ⟨wr.heap.size, 0, none⟩ 1 1 [Value.int .i64 d] rfl (CELLS2.out d).1 (CELLS2.out d).2.1 (CELLS2.out d).2.2 H63.out H64.out (SIZE2.out d) ?_; intro v' w3 hown hg _; obtain ⟨g', cap', rfl⟩ := ownsRow_succ hown; obtain ⟨f1, f2⟩ := HF2.out _ w3 hown hg; clear hown hg))
              refine ⟨⟨k + 1, k + 1, 1, by rw [← HP2.out], rfl, by go_num, by have := HKM.out; omega, Lib.hid HN2.out.symm, HZ0, f1, f2, Lib.hid (fun hh => by first | exact ⟨rfl, (HE2.out hh).2⟩ | exact absurd (HE2.out hh).1 (by decide))⟩, by have := HME.out; simp [intOf]; omega⟩
          · by_cases h2 : E < -h
            · obtain ⟨d, hdv⟩ : ∃ d : Int, d = E + B2 := ⟨_, rfl⟩
              have hst : stepD h E = (d, (-1)) := by unfold stepD; rw [if_neg h1, if_pos h2]; rw [hdv, HB2.out]
              have hd1 : decide (h ≤ E) = false := decide_eq_false h1
              have hd2 : decide (E < -h) = true := decide_eq_true h2
              have hw2 : wrap64 (E + B2) = d := by have h5 := HEB.out; have h6 := HXB.out; have h7 := HCYB.out; have h8 := HH.out; have h9 := HB2.out; unfold wrap64; simp at h5; omega
              obtain ⟨hn1, hn2⟩ := HNEW.out d (-1) hst
              have HN1 := Lib.hid hn1
              have HN2 := Lib.hid hn2
              have HF2 := Lib.hid (fun v' w3 h1 h2 => HFIN.out d v' w3 h1 h2 hn1)
              have HLZ : Hid (d = 0 → LastAt (digS h true (chks N b (k + 1))).1 la) := Lib.hid (fun h0 => by rw [HN1.out, h0]; exact HLA.out.zero)
              have HLM : Hid (d ≠ 0 → LastAt (digS h true (chks N b (k + 1))).1 (k + 1)) := Lib.hid (fun h0 => by
                have := LastAt.more xs d h0
                rw [HLEN.out] at this
                rw [HN1.out]; exact this)
              have HE2 : Hid (k + 1 = chkM m b + 1 → ((-1) : Int) = 0 ∧ (digS h true (chks N b (chkM m b))).2 ≠ 0) := Lib.hid (fun hh => by
                have := HEND2.out hh
                rw [HN2.out] at this
                exact this)
              clear hn1 hn2 hst hdv 
              by_cases hd0 : d = 0
              · have hdz : (d == 0) = true := by simpa using hd0
                have HZ0 := Lib.hid (HLZ.out hd0)
                clear hd0
                go_wp2_with (first
                  | (go_at_call 40; refine HCALL.out.mono ?_; rintro e w' ⟨rfl, rfl⟩)
                  | (at_builtin; refine wpList_append_own _ rfl (.tmp 66) (.tmp 68) _ rfl w1.heap.size 2 i0 _ 1 8 Try.underlying27 hi0 hz0 hz1 hz2 rfl (Nat.le_refl 1) u8 k (xs.map (Value.int .i64)) rfl (OWN2.out d) ⟨wr.heap.size, 0, none⟩ 1 1 [Value.int .i64 d] rfl (CELLS2.out d).1 (CELLS2.out d).2.1 (CELLS2.out d).2.2 H63.out H64.out (SIZE2.out d) ?_; intro v' w3 hown hg _; obtain ⟨f1, f2⟩ := HF2.out v' w3 hown hg; clear hown hg))
                refine ⟨⟨k + 1, la, (-1), by rw [← HP2.out], rfl, rfl, by have := HKM.out; omega, Lib.hid HN2.out.symm, HZ0, f1, f2, Lib.hid (fun hh => by first | exact ⟨rfl, (HE2.out hh).2⟩ | exact absurd (HE2.out hh).1 (by decide))⟩, by have := HME.out; simp [intOf]; omega⟩
              · have hdz : (d == 0) = false := by simpa using hd0
                have HZ0 := Lib.hid (HLM.out hd0)
                clear hd0
                go_wp2_with (first
                  | (go_at_call 40; refine HCALL.out.mono ?_; rintro e w' ⟨rfl, rfl⟩)
                  | (at_builtin; refine wpList_append_own _ rfl (.tmp 66) (.tmp 68) _ rfl w1.heap.size 2 i0 _ 1 8 Try.underlying27 hi0 hz0 hz1 hz2 rfl (Nat.le_refl 1) u8 k (xs.map (Value.int .i64)) rfl (OWN2.out d) ⟨wr.heap.size, 0, none⟩ 1 1 [Value.int .i64 d] rfl (CELLS2.out d).1 (CELLS2.out d).2.1 (CELLS2.out d).2.2 H63.out H64.out (SIZE2.out d) ?_; intro v' w3 hown hg _; obtain ⟨g', cap', rfl⟩ := ownsRow_succ hown; obtain ⟨f1, f2⟩ := HF2.out _ w3 hown hg; clear hown hg))
                refine ⟨⟨k + 1, k + 1, (-1), by rw [← HP2.out], rfl, by go_num, by have := HKM.out; omega, Lib.hid HN2.out.symm, HZ0, f1, f2, Lib.hid (fun hh => by first | exact ⟨rfl, (HE2.out hh).2⟩ | exact absurd (HE2.out hh).1 (by decide))⟩, by have := HME.out; simp [intOf]; omega⟩
            · obtain ⟨d, hdv⟩ : ∃ d : Int, d = E := ⟨_, rfl⟩
              have hst : stepD h E = (d, 0) := by unfold stepD; rw [if_neg h1, if_neg h2]; rw [hdv]
              have hd1 : decide (h ≤ E) = false := decide_eq_false h1
              have hd2 : decide (E < -h) = false := decide_eq_false h2
              have hdE : d = E := hdv
              subst hdE
              have hdv : True := trivial
              obtain ⟨hn1, hn2⟩ := HNEW.out d 0 hst
              have HN1 := Lib.hid hn1
              have HN2 := Lib.hid hn2
              have HF2 := Lib.hid (fun v' w3 h1 h2 => HFIN.out d v' w3 h1 h2 hn1)
              have HLZ : Hid (d = 0 → LastAt (digS h true (chks N b (k + 1))).1 la) := Lib.hid (fun h0 => by rw [HN1.out, h0]; exact HLA.out.zero)
              have HLM : Hid (d ≠ 0 → LastAt (digS h true (chks N b (k + 1))).1 (k + 1)) := Lib.hid (fun h0 => by
                have := LastAt.more xs d h0
                rw [HLEN.out] at this
                rw [HN1.out]; exact this)
              have HE2 : Hid (k + 1 = chkM m b + 1 → (0 : Int) = 0 ∧ (digS h true (chks N b (chkM m b))).2 ≠ 0) := Lib.hid (fun hh => by
                have := HEND2.out hh
                rw [HN2.out] at this
                exact this)
              clear hn1 hn2 hst hdv 
              by_cases hd0 : d = 0
              · have hdz : (d == 0) = true := by simpa using hd0
                have HZ0 := Lib.hid (HLZ.out hd0)
                clear hd0
                go_wp2_with (first
                  | (go_at_call 40; refine HCALL.out.mono ?_; rintro e w' ⟨rfl, rfl⟩)
                  | (at_builtin; refine wpList_append_own _ rfl (.tmp 66) (.tmp 68) _ rfl w1.heap.size 2 i0 _ 1 8 Try.underlying27 hi0 hz0 hz1 hz2 rfl (Nat.le_refl 1) u8 k (xs.map (Value.int .i64)) rfl (OWN2.out d) ⟨wr.heap.size, 0, none⟩ 1 1 [Value.int .i64 d] rfl (CELLS2.out d).1 (CELLS2.out d).2.1 (CELLS2.out d).2.2 H63.out H64.out (SIZE2.out d) ?_; intro v' w3 hown hg _; obtain ⟨f1, f2⟩ := HF2.out v' w3 hown hg; clear hown hg))
                refine ⟨⟨k + 1, la, 0, by rw [← HP2.out], rfl, rfl, by have := HKM.out; omega, Lib.hid HN2.out.symm, HZ0, f1, f2, Lib.hid (fun hh => by first | exact ⟨rfl, (HE2.out hh).2⟩ | exact absurd (HE2.out hh).1 (by decide))⟩, by have := HME.out; simp [intOf]; omega⟩
              · have hdz : (d == 0) = false := by simpa using hd0
                have HZ0 := Lib.hid (HLM.out hd0)
                clear hd0
                go_wp2_with (first
                  | (go_at_call 40; refine HCALL.out.mono ?_; rintro e w' ⟨rfl, rfl⟩)
                  | (at_builtin; refine wpList_append_own _ rfl (.tmp 66) (.tmp 68) _ rfl w1.heap.size 2 i0 _ 1 8 Try.underlying27 hi0 hz0 hz1 hz2 rfl (Nat.le_refl 1) u8 k (xs.map (Value.int .i64)) rfl (OWN2.out d) ⟨wr.heap.size, 0, none⟩ 1 1 [Value.int .i64 d] rfl (CELLS2.out d).1 (CELLS2.out d).2.1 (CELLS2.out d).2.2 H63.out H64.out (SIZE2.out d) ?_; intro v' w3 hown hg _; obtain ⟨g', cap', rfl⟩ := ownsRow_succ hown; obtain ⟨f1, f2⟩ := HF2.out _ w3 hown hg; clear hown hg))
                refine ⟨⟨k + 1, k + 1, 0, by rw [← HP2.out], rfl, by go_num, by have := HKM.out; omega, Lib.hid HN2.out.symm, HZ0, f1, f2, Lib.hid (fun hh => by first | exact ⟨rfl, (HE2.out hh).2⟩ | exact absurd (HE2.out hh).1 (by decide))⟩, by have := HME.out; simp [intOf]; omega⟩
      · have hcb : (cy == 0) = false := by simpa using hcn
        have hcb2 : (cy != 0) = true := by simpa using hcn
        have hPle := HME.out.2
        have hlt2 : decide (P < 64 * m) = false := decide_eq_false hnl
        clear hcn
        cases s
        · have hneg : wrap64 (x + cy) = E := by have h5 := HEB.out; have h6 := HXB.out; have h7 := HCYB.out; unfold wrap64; simp at h5; omega
          by_cases h1 : h ≤ E
          · obtain ⟨d, hdv⟩ : ∃ d : Int, d = E - B2 := ⟨_, rfl⟩
            have hst : stepD h E = (d, 1) := by unfold stepD; rw [if_pos h1]; rw [hdv, HB2.out]
            have hw2 : wrap64 (E - B2) = d := by have h5 := HEB.out; have h6 := HXB.out; have h7 := HCYB.out; have h8 := HH.out; have h9 := HB2.out; unfold wrap64; simp at h5; omega
            obtain ⟨hn1, hn2⟩ := HNEW.out d 1 hst
            have HN1 := Lib.hid hn1
            have HN2 := Lib.hid hn2
            have HF2 := Lib.hid (fun v' w3 h1 h2 => HFIN.out d v' w3 h1 h2 hn1)
            have HLZ : Hid (d = 0 → LastAt (digS h false (chks N b (k + 1))).1 la) := Lib.hid (fun h0 => by rw [HN1.out, h0]; exact HLA.out.zero)
            have HLM : Hid (d ≠ 0 → LastAt (digS h false (chks N b (k + 1))).1 (k + 1)) := Lib.hid (fun h0 => by
              have := LastAt.more xs d h0
              rw [HLEN.out] at this
              rw [HN1.out]; exact this)
            have HE2 : Hid (k + 1 = chkM m b + 1 → (1 : Int) = 0 ∧ (digS h false (chks N b (chkM m b))).2 ≠ 0) := Lib.hid (fun hh => by
              have := HEND2.out hh
              rw [HN2.out] at this
              exact this)
            clear hn1 hn2 hst hdv 
            by_cases hd0 : d = 0
            · have hdz : (d == 0) = true := by simpa using hd0
              have HZ0 := Lib.hid (HLZ.out hd0)
              clear hd0
              go_wp2_with (first
                | (go_at_call 40; refine HCALL.out.mono ?_; rintro e w' ⟨rfl, rfl⟩)
                | (at_builtin; refine wpList_append_own _ rfl (.tmp 66) (.tmp 68) _ rfl w1.heap.size 2 i0 _ 1 8 Try.underlying27 hi0 hz0 hz1 hz2 rfl (Nat.le_refl 1) u8 k (xs.map (Value.int .i64)) rfl (OWN2.out d) ⟨wr.heap.size, 0, none⟩ 1 1 [Value.int .i64 d] rfl (CELLS2.out d).1 (CELLS2.out d).2.1 (CELLS2.out d).2.2 H63.out H64.out (SIZE2.out d) ?_; intro v' w3 hown hg _; obtain ⟨f1, f2⟩ := HF2.out v' w3 hown hg; clear hown hg))
              refine ⟨⟨k + 1, la, 1, by rw [← HP2.out], rfl, rfl, by have := HKM.out; omega, Lib.hid HN2.out.symm, HZ0, f1, f2, Lib.hid (fun hh => by first | exact ⟨rfl, (HE2.out hh).2⟩ | exact absurd (HE2.out hh).1 (by decide))⟩, by have := HME.out; simp [intOf]; omega⟩
            · have hdz : (d == 0) = false := by simpa using hd0
              have HZ0 := Lib.hid (HLM.out hd0)
              clear hd0
              go_wp2_with (first
                | (go_at_call 40; refine HCALL.out.mono ?_; rintro e w' ⟨rfl, rfl⟩)
                | (at_builtin; refine wpList_append_own _ rfl (.tmp 66) (.tmp 68) _ rfl w1.heap.size 2 i0 _ 1 8 Try.underlying27 hi0 hz0 hz1 hz2 rfl (Nat.le_refl 1) u8 k (xs.map (Value.int .i64)) rfl (OWN2.out d) ⟨wr.heap.size, 0, none⟩ 1 1 [Value.int .i64 d] rfl (CELLS2.out d).1 (CELLS2.out d).2.1 (CELLS2.out d).2.2 H63.out H64.out (SIZE2.out d) ?_; intro v' w3 hown hg _; obtain ⟨g', cap', rfl⟩ := ownsRow_succ hown; obtain ⟨f1, f2⟩ := HF2.out _ w3 hown hg; clear hown hg))
              refine ⟨⟨k + 1, k + 1, 1, by rw [← HP2.out], rfl, by go_num, by have := HKM.out; omega, Lib.hid HN2.out.symm, HZ0, f1, f2, Lib.hid (fun hh => by first | exact ⟨rfl, (HE2.out hh).2⟩ | exact absurd (HE2.out hh).1 (by decide))⟩, by have := HME.out; simp [intOf]; omega⟩
          · by_cases h2 : E < -h
            · obtain ⟨d, hdv⟩ : ∃ d : Int, d = E + B2 := ⟨_, rfl⟩
              have hst : stepD h E = (d, (-1)) := by unfold stepD; rw [if_neg h1, if_pos h2]; rw [hdv, HB2.out]
              have hd1 : decide (h ≤ E) = false := decide_eq_false h1
              have hd2 : decide (E < -h) = true := decide_eq_true h2
              have hw2 : wrap64 (E + B2) = d := by have h5 := HEB.out; have h6 := HXB.out; have h7 := HCYB.out; have h8 := HH.out; have h9 := HB2.out; unfold wrap64; simp at h5; omega
              obtain ⟨hn1, hn2⟩ := HNEW.out d (-1) hst
              have HN1 := Lib.hid hn1
              have HN2 := Lib.hid hn2
              have HF2 := Lib.hid (fun v' w3 h1 h2 => HFIN.out d v' w3 h1 h2 hn1)
              have HLZ : Hid (d = 0 → LastAt (digS h false (chks N b (k + 1))).1 la) := Lib.hid (fun h0 => by rw [HN1.out, h0]; exact HLA.out.zero)
              have HLM : Hid (d ≠ 0 → LastAt (digS h false (chks N b (k + 1))).1 (k + 1)) := Lib.hid (fun h0 => by
                have := LastAt.more xs d h0
                rw [HLEN.out] at this
                rw [HN1.out]; exact this)
              have HE2 : Hid (k + 1 = chkM m b + 1 → ((-1) : Int) = 0 ∧ (digS h false (chks N b (chkM m b))).2 ≠ 0) := Lib.hid (fun hh => by
                have := HEND2.out hh
                rw [HN2.out] at this
                exact this)
              clear hn1 hn2 hst hdv 
              by_cases hd0 : d = 0
              · have hdz : (d == 0) = true := by simpa using hd0
                have HZ0 := Lib.hid (HLZ.out hd0)
                clear hd0
                go_wp2_with (first
                  | (go_at_call 40; refine HCALL.out.mono ?_; rintro e w' ⟨rfl, rfl⟩)
                  | (at_builtin; refine wpList_append_own _ rfl (.tmp 66) (.tmp 68) _ rfl w1.heap.size 2 i0 _ 1 8 Try.underlying27 hi0 hz0 hz1 hz2 rfl (Nat.le_refl 1) u8 k (xs.map (Value.int .i64)) rfl (OWN2.out d) ⟨wr.heap.size, 0, none⟩ 1 1 [Value.int .i64 d] rfl (CELLS2.out d).1 (CELLS2.out d).2.1 (CELLS2.out d).2.2 H63.out H64.out (SIZE2.out d) ?_; intro v' w3 hown hg _; obtain ⟨f1, f2⟩ := HF2.out v' w3 hown hg; clear hown hg))
                refine ⟨⟨k + 1, la, (-1), by rw [← HP2.out], rfl, rfl, by have := HKM.out; omega, Lib.hid HN2.out.symm, HZ0, f1, f2, Lib.hid (fun hh => by first | exact ⟨rfl, (HE2.out hh).2⟩ | exact absurd (HE2.out hh).1 (by decide))⟩, by have := HME.out; simp [intOf]; omega⟩
              · have hdz : (d == 0) = false := by simpa using hd0
                have HZ0 := Lib.hid (HLM.out hd0)
                clear hd0
                go_wp2_with (first
                  | (go_at_call 40; refine HCALL.out.mono ?_; rintro e w' ⟨rfl, rfl⟩)
                  | (at_builtin; refine wpList_append_own _ rfl (.tmp 66) (.tmp 68) _ rfl w1.heap.size 2 i0 _ 1 8 Try.underlying27 hi0 hz0 hz1 hz2 rfl (Nat.le_refl 1) u8 k (xs.map (Value.int .i64)) rfl (OWN2.out d) ⟨wr.heap.size, 0, none⟩ 1 1 [Value.int .i64 d] rfl (CELLS2.out d).1 (CELLS2.out d).2.1 (CELLS2.out d).2.2 H63.out H64.out (SIZE2.out d) ?_; intro v' w3 hown hg _; obtain ⟨g', cap', rfl⟩ := ownsRow_succ hown; obtain ⟨f1, f2⟩ := HF2.out _ w3 hown hg; clear hown hg))
                refine ⟨⟨k + 1, k + 1, (-1), by rw [← HP2.out], rfl, by go_num, by have := HKM.out; omega, Lib.hid HN2.out.symm, HZ0, f1, f2, Lib.hid (fun hh => by first | exact ⟨rfl, (HE2.out hh).2⟩ | exact absurd (HE2.out hh).1 (by decide))⟩, by have := HME.out; simp [intOf]; omega⟩
            · obtain ⟨d, hdv⟩ : ∃ d : Int, d = E := ⟨_, rfl⟩
              have hst : stepD h E = (d, 0) := by unfold stepD; rw [if_neg h1, if_neg h2]; rw [hdv]
              have hd1 : decide (h ≤ E) = false := decide_eq_false h1
              have hd2 : decide (E < -h) = false := decide_eq_false h2
              have hdE : d = E := hdv
              subst hdE
              have hdv : True := trivial
              obtain ⟨hn1, hn2⟩ := HNEW.out d 0 hst
              have HN1 := Lib.hid hn1
              have HN2 := Lib.hid hn2
              have HF2 := Lib.hid (fun v' w3 h1 h2 => HFIN.out d v' w3 h1 h2 hn1)
              have HLZ : Hid (d = 0 → LastAt (digS h false (chks N b (k + 1))).1 la) := Lib.hid (fun h0 => by rw [HN1.out, h0]; exact HLA.out.zero)
              have HLM : Hid (d ≠ 0 → LastAt (digS h false (chks N b (k + 1))).1 (k + 1)) := Lib.hid (fun h0 => by
                have := LastAt.more xs d h0
                rw [HLEN.out] at this
                rw [HN1.out]; exact this)
              have HE2 : Hid (k + 1 = chkM m b + 1 → (0 : Int) = 0 ∧ (digS h false (chks N b (chkM m b))).2 ≠ 0) := Lib.hid (fun hh => by
                have := HEND2.out hh
                rw [HN2.out] at this
                exact this)
              clear hn1 hn2 hst hdv 
              by_cases hd0 : d = 0
              · have hdz : (d == 0) = true := by simpa using hd0
                have HZ0 := Lib.hid (HLZ.out hd0)
                clear hd0
                go_wp2_with (first
                  | (go_at_call 40; refine HCALL.out.mono ?_; rintro e w' ⟨rfl, rfl⟩)
                  | (at_builtin; refine wpList_append_own _ rfl (.tmp 66) (.tmp 68) _ rfl w1.heap.size 2 i0 _ 1 8 Try.underlying27 hi0 hz0 hz1 hz2 rfl (Nat.le_refl 1) u8 k (xs.map (Value.int .i64)) rfl (OWN2.out d) ⟨wr.heap.size, 0, none⟩ 1 1 [Value.int .i64 d] rfl (CELLS2.out d).1 (CELLS2.out d).2.1 (CELLS2.out d).2.2 H63.out H64.out (SIZE2.out d) ?_; intro v' w3 hown hg _; obtain ⟨f1, f2⟩ := HF2.out v' w3 hown hg; clear hown hg))
                refine ⟨⟨k + 1, la, 0, by rw [← HP2.out], rfl, rfl, by have := HKM.out; omega, Lib.hid HN2.out.symm, HZ0, f1, f2, Lib.hid (fun hh => by first | exact ⟨rfl, (HE2.out hh).2⟩ | exact absurd (HE2.out hh).1 (by decide))⟩, by have := HME.out; simp [intOf]; omega⟩
              · have hdz : (d == 0) = false := by simpa using hd0
                have HZ0 := Lib.hid (HLM.out hd0)
                clear hd0
                go_wp2_with (first
                  | (go_at_call 40; refine HCALL.out.mono ?_; rintro e w' ⟨rfl, rfl⟩)
                  | (at_builtin; refine wpList_append_own _ rfl (.tmp 66) (.tmp 68) _ rfl w1.heap.size 2 i0 _ 1 8 Try.underlying27 hi0 hz0 hz1 hz2 rfl (Nat.le_refl 1) u8 k (xs.map (Value.int .i64)) rfl (OWN2.out d) ⟨wr.heap.size, 0, none⟩ 1 1 [Value.int .i64 d] rfl (CELLS2.out d).1 (CELLS2.out d).2.1 (CELLS2.out d).2.2 H63.out H64.out (SIZE2.out d) ?_; intro v' w3 hown hg _; obtain ⟨g', cap', rfl⟩ := ownsRow_succ hown; obtain ⟨f1, f2⟩ := HF2.out _ w3 hown hg; clear hown hg))
                refine ⟨⟨k + 1, k + 1, 0, by rw [← HP2.out], rfl, by go_num, by have := HKM.out; omega, Lib.hid HN2.out.symm, HZ0, f1, f2, Lib.hid (fun hh => by first | exact ⟨rfl, (HE2.out hh).2⟩ | exact absurd (HE2.out hh).1 (by decide))⟩, by have := HME.out; simp [intOf]; omega⟩
        · have hng : wrap64 (-x) = -x := by have h6 := HXB.out; unfold wrap64; omega
          have hneg : wrap64 (-x + cy) = E := by have h5 := HEB.out; have h6 := HXB.out; have h7 := HCYB.out; unfold wrap64; simp at h5; omega
          by_cases h1 : h ≤ E
          · obtain ⟨d, hdv⟩ : ∃ d : Int, d = E - B2 := ⟨_, rfl⟩
            have hst : stepD h E = (d, 1) := by unfold stepD; rw [if_pos h1]; rw [hdv, HB2.out]
            have hw2 : wrap64 (E - B2) = d := by have h5 := HEB.out; have h6 := HXB.out; have h7 := HCYB.out; have h8 := HH.out; have h9 := HB2.out; unfold wrap64; simp at h5; omega
            obtain ⟨hn1, hn2⟩ := HNEW.out d 1 hst
            have HN1 := Lib.hid hn1
            have HN2 := Lib.hid hn2
            have HF2 := Lib.hid (fun v' w3 h1 h2 => HFIN.out d v' w3 h1 h2 hn1)
            have HLZ : Hid (d = 0 → LastAt (digS h true (chks N b (k + 1))).1 la) := Lib.hid (fun h0 => by rw [HN1.out, h0]; exact HLA.out.zero)
            have HLM : Hid (d ≠ 0 → LastAt (digS h true (chks N b (k + 1))).1 (k + 1)) := Lib.hid (fun h0 => by
              have := LastAt.more xs d h0
              rw [HLEN.out] at this
              rw [HN1.out]; exact this)
            have HE2 : Hid (k + 1 = chkM m b + 1 → (1 : Int) = 0 ∧ (digS h true (chks N b (chkM m b))).2 ≠ 0) := Lib.hid (fun hh => by
              have := HEND2.out hh
              rw [HN2.out] at this
              exact this)
            clear hn1 hn2 hst hdv 
            by_cases hd0 : d = 0
            · have hdz : (d == 0) = true := by simpa using hd0
              have HZ0 := Lib.hid (HLZ.out hd0)
              clear hd0
              go_wp2_with (first
                | (go_at_call 40; refine HCALL.out.mono ?_; rintro e w' ⟨rfl, rfl⟩)
                | (at_builtin; refine wpList_append_own _ rfl (.tmp 66) (.tmp 68) _ rfl w1.heap.size 2 i0 _ 1 8 Try.underlying27 hi0 hz0 hz1 hz2 rfl (Nat.le_refl 1) u8 k (xs.map (Value.int .i64)) rfl (OWN2.out d) ⟨wr.heap.size, 0, none⟩ 1 1 [Value.int .i64 d] rfl (CELLS2.out d).1 (CELLS2.out d).2.1 (CELLS2.out d).2.2 H63.out H64.out (SIZE2.out d) ?_; intro v' w3 hown hg _; obtain ⟨f1, f2⟩ := HF2.out v' w3 hown hg; clear hown hg))
              refine ⟨⟨k + 1, la, 1, by rw [← HP2.out], rfl, rfl, by have := HKM.out; omega, Lib.hid HN2.out.symm, HZ0, f1, f2, Lib.hid (fun hh => by first | exact ⟨rfl, (HE2.out hh).2⟩ | exact absurd (HE2.out hh).1 (by decide))⟩, by have := HME.out; simp [intOf]; omega⟩
            · have hdz : (d == 0) = false := by simpa using hd0
              have HZ0 := Lib.hid (HLM.out hd0)
              clear hd0
              go_wp2_with (first
                | (go_at_call 40; refine HCALL.out.mono ?_; rintro e w' ⟨rfl, rfl⟩)
                | (at_builtin; refine wpList_append_own _ rfl (.tmp 66) (.tmp 68) _ rfl w1.heap.size 2 i0 _ 1 8 Try.underlying27 hi0 hz0 hz1 hz2 rfl (Nat.le_refl 1) u8 k (xs.map (Value.int .i64)) rfl (OWN2.out d) ⟨wr.heap.size, 0, none⟩ 1 1 [Value.int .i64 d] rfl (CELLS2.out d).1 (CELLS2.out d).2.1 (CELLS2.out d).2.2 H63.out H64.out (SIZE2.out d) ?_; intro v' w3 hown hg _; obtain ⟨g', cap', rfl⟩ := ownsRow_succ hown; obtain ⟨f1, f2⟩ := HF2.out _ w3 hown hg; clear hown hg))
              refine ⟨⟨k + 1, k + 1, 1, by rw [← HP2.out], rfl, by go_num, by have := HKM.out; omega, Lib.hid HN2.out.symm, HZ0, f1, f2, Lib.hid (fun hh => by first | exact ⟨rfl, (HE2.out hh).2⟩ | exact absurd (HE2.out hh).1 (by decide))⟩, by have := HME.out; simp [intOf]; omega⟩
          · by_cases h2 : E < -h
            · obtain ⟨d, hdv⟩ : ∃ d : Int, d = E + B2 := ⟨_, rfl⟩
              have hst : stepD h E = (d, (-1)) := by unfold stepD; rw [if_neg h1, if_pos h2]; rw [hdv, HB2.out]
              have hd1 : decide (h ≤ E) = false := decide_eq_false h1
              have hd2 : decide (E < -h) = true := decide_eq_true h2
              have hw2 : wrap64 (E + B2) = d := by have h5 := HEB.out; have h6 := HXB.out; have h7 := HCYB.out; have h8 := HH.out; have h9 := HB2.out; unfold wrap64; simp at h5; omega
              obtain ⟨hn1, hn2⟩ := HNEW.out d (-1) hst
              have HN1 := Lib.hid hn1
              have HN2 := Lib.hid hn2
              have HF2 := Lib.hid (fun v' w3 h1 h2 => HFIN.out d v' w3 h1 h2 hn1)
              have HLZ : Hid (d = 0 → LastAt (digS h true (chks N b (k + 1))).1 la) := Lib.hid (fun h0 => by rw [HN1.out, h0]; exact HLA.out.zero)
              have HLM : Hid (d ≠ 0 → LastAt (digS h true (chks N b (k + 1))).1 (k + 1)) := Lib.hid (fun h0 => by
                have := LastAt.more xs d h0
                rw [HLEN.out] at this
                rw [HN1.out]; exact this)
              have HE2 : Hid (k + 1 = chkM m b + 1 → ((-1) : Int) = 0 ∧ (digS h true (chks N b (chkM m b))).2 ≠ 0) := Lib.hid (fun hh => by
                have := HEND2.out hh
                rw [HN2.out] at this
                exact this)
              clear hn1 hn2 hst hdv 
              by_cases hd0 : d = 0
              · have hdz : (d == 0) = true := by simpa using hd0
                have HZ0 := Lib.hid (HLZ.out hd0)
                clear hd0
                go_wp2_with (first
                  | (go_at_call 40; refine HCALL.out.mono ?_; rintro e w' ⟨rfl, rfl⟩)
                  | (at_builtin; refine wpList_append_own _ rfl (.tmp 66) (.tmp 68) _ rfl w1.heap.size 2 i0 _ 1 8 Try.underlying27 hi0 hz0 hz1 hz2 rfl (Nat.le_refl 1) u8 k (xs.map (Value.int .i64)) rfl (OWN2.out d) ⟨wr.heap.size, 0, none⟩ 1 1 [Value.int .i64 d] rfl (CELLS2.out d).1 (CELLS2.out d).2.1 (CELLS2.out d).2.2 H63.out H64.out (SIZE2.out d) ?_; intro v' w3 hown hg _; obtain ⟨f1, f2⟩ := HF2.out v' w3 hown hg; clear hown hg))
                refine ⟨⟨k + 1, la, (-1), by rw [← HP2.out], rfl, rfl, by have := HKM.out; omega, Lib.hid HN2.out.symm, HZ0, f1, f2, Lib.hid (fun hh => by first | exact ⟨rfl, (HE2.out hh).2⟩ | exact absurd (HE2.out hh).1 (by decide))⟩, by have := HME.out; simp [intOf]; omega⟩
              · have hdz : (d == 0) = false := by simpa using hd0
                have HZ0 := Lib.hid (HLM.out hd0)
                clear hd0
                go_wp2_with (first
                  | (go_at_call 40; refine HCALL.out.mono ?_; rintro e w' ⟨rfl, rfl⟩)
                  | (at_builtin; refine wpList_append_own _ rfl (.tmp 66) (.tmp 68) _ rfl w1.heap.size 2 i0 _ 1 8 Try.underlying27 hi0 hz0 hz1 hz2 rfl (Nat.le_refl 1) u8 k (xs.map (Value.int .i64)) rfl (OWN2.out d) ⟨wr.heap.size, 0, none⟩ 1 1 [Value.int .i64 d] rfl (CELLS2.out d).1 (CELLS2.out d).2.1 (CELLS2.out d).2.2 H63.out H64.out (SIZE2.out d) ?_; intro v' w3 hown hg _; obtain ⟨g', cap', rfl⟩ := ownsRow_succ hown; obtain ⟨f1, f2⟩ := HF2.out _ w3 hown hg; clear hown hg))
                refine ⟨⟨k + 1, k + 1, (-1), by rw [← HP2.out], rfl, by go_num, by have := HKM.out; omega, Lib.hid HN2.out.symm, HZ0, f1, f2, Lib.hid (fun hh => by first | exact ⟨rfl, (HE2.out hh).2⟩ | exact absurd (HE2.out hh).1 (by decide))⟩, by have := HME.out; simp [intOf]; omega⟩
            · obtain ⟨d, hdv⟩ : ∃ d : Int, d = E := ⟨_, rfl⟩
              have hst : stepD h E = (d, 0) := by unfold stepD; rw [if_neg h1, if_neg h2]; rw [hdv]
              have hd1 : decide (h ≤ E) = false := decide_eq_false h1
              have hd2 : decide (E < -h) = false := decide_eq_false h2
              have hdE : d = E := hdv
              subst hdE
              have hdv : True := trivial
              obtain ⟨hn1, hn2⟩ := HNEW.out d 0 hst
              have HN1 := Lib.hid hn1
              have HN2 := Lib.hid hn2
              have HF2 := Lib.hid (fun v' w3 h1 h2 => HFIN.out d v' w3 h1 h2 hn1)
              have HLZ : Hid (d = 0 → LastAt (digS h true (chks N b (k + 1))).1 la) := Lib.hid (fun h0 => by rw [HN1.out, h0]; exact HLA.out.zero)
              have HLM : Hid (d ≠ 0 → LastAt (digS h true (chks N b (k + 1))).1 (k + 1)) := Lib.hid (fun h0 => by
                have := LastAt.more xs d h0
                rw [HLEN.out] at this
                rw [HN1.out]; exact this)
              have HE2 : Hid (k + 1 = chkM m b + 1 → (0 : Int) = 0 ∧ (digS h true (chks N b (chkM m b))).2 ≠ 0) := Lib.hid (fun hh => by
                have := HEND2.out hh
                rw [HN2.out] at this
                exact this)
              clear hn1 hn2 hst hdv 
              by_cases hd0 : d = 0
              · have hdz : (d == 0) = true := by simpa using hd0
                have HZ0 := Lib.hid (HLZ.out hd0)
                clear hd0
                go_wp2_with (first
                  | (go_at_call 40; refine HCALL.out.mono ?_; rintro e w' ⟨rfl, rfl⟩)
                  | (at_builtin; refine wpList_append_own _ rfl (.tmp 66) (.tmp 68) _ rfl w1.heap.size 2 i0 _ 1 8 Try.underlying27 hi0 hz0 hz1 hz2 rfl (Nat.le_refl 1) u8 k (xs.map (Value.int .i64)) rfl (OWN2.out d) ⟨wr.heap.size, 0, none⟩ 1 1 [Value.int .i64 d] rfl (CELLS2.out d).1 (CELLS2.out d).2.1 (CELLS2.out d).2.2 H63.out H64.out (SIZE2.out d) ?_; intro v' w3 hown hg _; obtain ⟨f1, f2⟩ := HF2.out v' w3 hown hg; clear hown hg))
                refine ⟨⟨k + 1, la, 0, by rw [← HP2.out], rfl, rfl, by have := HKM.out; omega, Lib.hid HN2.out.symm, HZ0, f1, f2, Lib.hid (fun hh => by first | exact ⟨rfl, (HE2.out hh).2⟩ | exact absurd (HE2.out hh).1 (by decide))⟩, by have := HME.out; simp [intOf]; omega⟩
              · have hdz : (d == 0) = false := by simpa using hd0
                have HZ0 := Lib.hid (HLM.out hd0)
                clear hd0
                go_wp2_with (first
                  | (go_at_call 40; refine HCALL.out.mono ?_; rintro e w' ⟨rfl, rfl⟩)
                  | (at_builtin; refine wpList_append_own _ rfl (.tmp 66) (.tmp 68) _ rfl w1.heap.size 2 i0 _ 1 8 Try.underlying27 hi0 hz0 hz1 hz2 rfl (Nat.le_refl 1) u8 k (xs.map (Value.int .i64)) rfl (OWN2.out d) ⟨wr.heap.size, 0, none⟩ 1 1 [Value.int .i64 d] rfl (CELLS2.out d).1 (CELLS2.out d).2.1 (CELLS2.out d).2.2 H63.out H64.out (SIZE2.out d) ?_; intro v' w3 hown hg _; obtain ⟨g', cap', rfl⟩ := ownsRow_succ hown; obtain ⟨f1, f2⟩ := HF2.out _ w3 hown hg; clear hown hg))
                refine ⟨⟨k + 1, k + 1, 0, by rw [← HP2.out], rfl, by go_num, by have := HKM.out; omega, Lib.hid HN2.out.symm, HZ0, f1, f2, Lib.hid (fun hh => by first | exact ⟨rfl, (HE2.out hh).2⟩ | exact absurd (HE2.out hh).1 (by decide))⟩, by have := HME.out; simp [intOf]; omega⟩
    · have hcy0 : cy = 0 := by
        rcases Int.lt_trichotomy cy 0 with h' | h' | h'
        · exact absurd (.inr (by omega)) hgo
        · exact h'
        · exact absurd (.inr (by omega)) hgo
      have hPm : ¬ P < 64 * m := fun h' => hgo (.inl h')
      have hraw : rawD h s N b m = xs := by
        rcases Nat.lt_or_ge k (chkM m b + 1) with h' | h'
        · have hke : k = chkM m b := by
            rcases Nat.lt_or_ge k (chkM m b) with h'' | h''
            · exact absurd (hkm.1 h'') hPm
            · omega
          have hc0 : (digS h s (chks N b (chkM m b))).2 = 0 := by rw [← hke, ← HCY.out, hcy0]
          rw [rawD_none h s N b m hc0, hxsv, hke]
        · have hke : k = chkM m b + 1 := by omega
          have hz : (chkC N (b * chkM m b) b).1 = 0 := by
            rw [chkC_val _ _ _ hb2, HHI.out (b * chkM m b) (by
              have := chkM_lt m b (chkM m b) (by omega)
              omega)]; rfl
          rw [(rawD_one h s N b m HH.out.1 hz (HEND.out hke).2).1, hxsv, hke]
      have HTR : Hid (digT s N b m = xs.take la) := Lib.hid (by rw [HDT.out, hraw]; exact HLA.out.trim)
      have hlak : la ≤ k := by have := HLA.out.1; omega
      subst hcy0
      have HLEN := Lib.hid hlen
      rcases HOWN.out.2 with ⟨hv0, h0⟩ | ⟨g, cap, cur, hv0, hgb, _, hkc, _⟩
      · subst hv0
        have hla0 : la = 0 := by omega
        subst hla0
        clear hkm hgo hraw hlen hxsv hcyb h0 hP
        go_wp2
        go_ret2
        refine ⟨_, rfl, ?_, HBW.out⟩
        rw [HTR.out, List.take_zero]
        exact World.ownsRow_nil _ _ _ _
      · subst hv0
        clear hkm hgo hraw hlen hxsv hcyb hP hgb
        have hlc : la ≤ cap := by omega
        go_wp2
        go_ret2
        refine ⟨_, rfl, ?_, HBW.out⟩
        rw [HTR.out, List.length_take, Nat.min_eq_left (by have := HLEN.out; omega), List.map_take]
        exact row_base (ownsRow_cut HOWN.out la hlak) (Nat.le_of_lt HSZ.out)
end Go.Proofs.Ytclnmheplecknaa

/-
  Plain: digits and whole numbers, there and back.
  Plain: digits within limits: their value, and that they are the only ones.
  Walk: CutDigits.
  Walks: copies of lists and of whole numbers.
  Own rows of i64; the walk of CutLong.
  Walk: CutWholes.
-/
import Derived.Test.YtclnmheplecknaaW18
set_option linter.unusedVariables false
set_option linter.unusedSimpArgs false
namespace Go.Proofs.Ytclnmheplecknaa
open Go.RowKit
theorem dg_len_le (b : Int) (l : List Int) : (wL b l).length ≤ 1000000000 := by
  unfold wL
  split
  · rename_i h
    unfold wE at h
    split at h
    · split at h
      · omega
      · cases h
    · cases h
  · exact Nat.zero_le _
set_option maxRecDepth 400000 in
set_option maxHeartbeats 4000000 in
theorem cutWholes_walk (w : World) (A : Option Addr) (n c : Nat) (l : List Int) (b : Int) (hs : UL w A n c l ∧ L64 l ∧ c ≤ 9223372036854775807) (wb : (Lit.int .i64 b).wf = true) : Calls Try.prog 4 #[.slice A n c, .int .i64 b] w fun e w' => e = .returned (.bool true) ∧ Below w.heap.size w w' := by
  have HA := Lib.hid (fun w => awake14_any w)
  have hnc := hs.1.2.1
  have hcm := hs.2.2
  by_cases h2000 : n ≤ 2000

  · have HU := Lib.hid (hs.1)
    have H64 : Hid (L64 l) := Lib.hid (hs.2.1)
    have HLL := Lib.hid (fun x (hb : Below w.heap.size w x) => lent_longs A n c l x (by omega) (HU.out.below hb))
    have HCW : Hid (∀ (x : World) g, LentL x g n l → Calls Try.prog 18 #[.slice (some ⟨g, 0, none⟩) n (n + 12), .int .i64 b] x (WPost b l x)) := Lib.hid (fun x g h => cwhole_any (some ⟨g, 0, none⟩) n (n + 12) b l x h.u H64.out (by omega))
    have HRW : Hid (∀ (x : World), Below w.heap.size w x → Calls Try.prog 19 #[.slice A n c, .int .i64 b] x (WPost b l x)) := Lib.hid (fun x h => rwhole_any A n c b l x (HU.out.below h) H64.out (by omega))
    have HKL : Hid (∀ (x : World) g, Below w.heap.size w x → LentL x g n l → Calls Try.prog 21 #[.slice (some ⟨g, 0, none⟩) n (n + 12), .slice A n c] x fun e w' => e = .returned (.bool true) ∧ Below x.heap.size x w') := Lib.hid (fun x g h hl => kept_longs A n c g l x (by omega) hl (HU.out.below h))
    have HK := Lib.hid (dg_len_le b l)
    unfold WPost at HCW HRW
    generalize wS b l = S at *
    generalize wE b l = E at *
    generalize wL b l = M at *
    obtain ⟨K, hK⟩ : ∃ K, K = M.length := ⟨_, rfl⟩
    rw [← hK] at HCW HRW HK
    have hE : (E == E) = true := by simp
    clear hs hK
    go_enter Try.func4, Try.ntmps4
    go_wp2_with fail
    refine (HA.out _).mono ?_
    rintro e w1 ⟨rfl, hb⟩
    have HB1 := Lib.hid hb
    clear hb
    go_wp2_with fail
    refine (HLL.out _ HB1.out).mono ?_
    rintro e w2 ⟨g, rfl, hl, hb⟩
    have HB2 := Lib.hid (HB1.out.trans (hb.mono HB1.out.size))
    have HL2 := Lib.hid hl
    clear hb hl
    go_wp2_with fail
    refine (HCW.out _ g HL2.out).mono ?_
    rintro e w3 ⟨A3, c3, rfl, hu3, hb⟩
    have HB3 := Lib.hid (HB2.out.trans (hb.mono HB2.out.size))
    have HL3 := Lib.hid (HL2.out.below hb)
    have HU3 := Lib.hid hu3
    clear hb hu3
    go_wp2_with fail
    have hba := (Below.refl w3.heap.size w3).alloc (Nat.le_refl _) (.cells #[.bool S, .slice A3 K c3] 24)
    have HBA := Lib.hid (HB3.out.trans (hba.mono HB3.out.size))
    have HBA3 := Lib.hid hba
    refine (HRW.out _ HBA.out).mono ?_
    rintro e w4 ⟨A4, c4, rfl, hu4, hb⟩
    have d0 : w4.cell? ⟨w3.heap.size, 0, none⟩ = some (.bool S) := (hb.cell (p := ⟨w3.heap.size, 0, none⟩) (by simp)).trans (by simp)
    have d1 : w4.cell? ⟨w3.heap.size, 1, none⟩ = some (.slice A3 K c3) := (hb.cell (p := ⟨w3.heap.size, 1, none⟩) (by simp)).trans (by simp)
    have HB34 := Lib.hid (HBA3.out.trans (hb.mono HBA3.out.size))
    have HB4 := Lib.hid (HB3.out.trans (HB34.out.mono HB3.out.size))
    have hlt34 : w3.heap.size < w4.heap.size := by have := hb.size; simp at this; omega
    have HU34 := Lib.hid (HU3.out.below HB34.out)
    have HL4 := Lib.hid (HL3.out.below HB34.out)
    have HU4 := Lib.hid hu4
    clear hb hu4 hba HBA3
    go_wp2_with fail
    have hba := (Below.refl w4.heap.size w4).alloc (Nat.le_refl _) (.cells #[.bool S, .slice A4 K c4] 24)
    refine (same_int S A3 K c3 A4 c4 M _ HK.out (HU34.out.below hba) (HU4.out.below hba)).mono ?_
    rintro e w5 ⟨rfl, hb⟩
    have HB45 := Lib.hid (hba.trans (hb.mono hba.size))
    have HB5 := Lib.hid (HB4.out.trans (HB45.out.mono HB4.out.size))
    have HL5 := Lib.hid (HL4.out.below HB45.out)
    clear hb hba
    go_wp2_with fail
    refine (HKL.out _ g HB5.out HL5.out).mono ?_
    rintro e w6 ⟨rfl, hb⟩
    have HB6 := Lib.hid (HB5.out.trans (hb.mono HB5.out.size))
    clear hb
    go_wp2
    go_ret
    exact ⟨rfl, HB6.out⟩
  · have HU := Lib.hid (hs.1.take 2000 (by omega))
    have H64 : Hid (L64 (l.take 2000)) := Lib.hid (fun x hx => hs.2.1 x (List.mem_of_mem_take hx))
    have HLL := Lib.hid (fun x (hb : Below w.heap.size w x) => lent_longs A 2000 c (l.take 2000) x (by omega) (HU.out.below hb))
    have HCW : Hid (∀ (x : World) g, LentL x g 2000 (l.take 2000) → Calls Try.prog 18 #[.slice (some ⟨g, 0, none⟩) 2000 (2000 + 12), .int .i64 b] x (WPost b (l.take 2000) x)) := Lib.hid (fun x g h => cwhole_any (some ⟨g, 0, none⟩) 2000 (2000 + 12) b (l.take 2000) x h.u H64.out (by omega))
    have HRW : Hid (∀ (x : World), Below w.heap.size w x → Calls Try.prog 19 #[.slice A 2000 c, .int .i64 b] x (WPost b (l.take 2000) x)) := Lib.hid (fun x h => rwhole_any A 2000 c b (l.take 2000) x (HU.out.below h) H64.out (by omega))
    have HKL : Hid (∀ (x : World) g, Below w.heap.size w x → LentL x g 2000 (l.take 2000) → Calls Try.prog 21 #[.slice (some ⟨g, 0, none⟩) 2000 (2000 + 12), .slice A 2000 c] x fun e w' => e = .returned (.bool true) ∧ Below x.heap.size x w') := Lib.hid (fun x g h hl => kept_longs A 2000 c g (l.take 2000) x (by omega) hl (HU.out.below h))
    have HK := Lib.hid (dg_len_le b (l.take 2000))
    unfold WPost at HCW HRW
    generalize wS b (l.take 2000) = S at *
    generalize wE b (l.take 2000) = E at *
    generalize wL b (l.take 2000) = M at *
    obtain ⟨K, hK⟩ : ∃ K, K = M.length := ⟨_, rfl⟩
    rw [← hK] at HCW HRW HK
    have hE : (E == E) = true := by simp
    clear hs hK
    go_enter Try.func4, Try.ntmps4
    go_wp2_with fail
    refine (HA.out _).mono ?_
    rintro e w1 ⟨rfl, hb⟩
    have HB1 := Lib.hid hb
    clear hb
    go_wp2_with fail
    refine (HLL.out _ HB1.out).mono ?_
    rintro e w2 ⟨g, rfl, hl, hb⟩
    have HB2 := Lib.hid (HB1.out.trans (hb.mono HB1.out.size))
    have HL2 := Lib.hid hl
    clear hb hl
    go_wp2_with fail
    refine (HCW.out _ g HL2.out).mono ?_
    rintro e w3 ⟨A3, c3, rfl, hu3, hb⟩
    have HB3 := Lib.hid (HB2.out.trans (hb.mono HB2.out.size))
    have HL3 := Lib.hid (HL2.out.below hb)
    have HU3 := Lib.hid hu3
    clear hb hu3
    go_wp2_with fail
    have hba := (Below.refl w3.heap.size w3).alloc (Nat.le_refl _) (.cells #[.bool S, .slice A3 K c3] 24)
    have HBA := Lib.hid (HB3.out.trans (hba.mono HB3.out.size))
    have HBA3 := Lib.hid hba
    refine (HRW.out _ HBA.out).mono ?_
    rintro e w4 ⟨A4, c4, rfl, hu4, hb⟩
    have d0 : w4.cell? ⟨w3.heap.size, 0, none⟩ = some (.bool S) := (hb.cell (p := ⟨w3.heap.size, 0, none⟩) (by simp)).trans (by simp)
    have d1 : w4.cell? ⟨w3.heap.size, 1, none⟩ = some (.slice A3 K c3) := (hb.cell (p := ⟨w3.heap.size, 1, none⟩) (by simp)).trans (by simp)
    have HB34 := Lib.hid (HBA3.out.trans (hb.mono HBA3.out.size))
    have HB4 := Lib.hid (HB3.out.trans (HB34.out.mono HB3.out.size))
    have hlt34 : w3.heap.size < w4.heap.size := by have := hb.size; simp at this; omega
    have HU34 := Lib.hid (HU3.out.below HB34.out)
    have HL4 := Lib.hid (HL3.out.below HB34.out)
    have HU4 := Lib.hid hu4
    clear hb hu4 hba HBA3
    go_wp2_with fail
    have hba := (Below.refl w4.heap.size w4).alloc (Nat.le_refl _) (.cells #[.bool S, .slice A4 K c4] 24)
    refine (same_int S A3 K c3 A4 c4 M _ HK.out (HU34.out.below hba) (HU4.out.below hba)).mono ?_
    rintro e w5 ⟨rfl, hb⟩
    have HB45 := Lib.hid (hba.trans (hb.mono hba.size))
    have HB5 := Lib.hid (HB4.out.trans (HB45.out.mono HB4.out.size))
    have HL5 := Lib.hid (HL4.out.below HB45.out)
    clear hb hba
    go_wp2_with fail
    refine (HKL.out _ g HB5.out HL5.out).mono ?_
    rintro e w6 ⟨rfl, hb⟩
    have HB6 := Lib.hid (HB5.out.trans (hb.mono HB5.out.size))
    clear hb
    go_wp2
    go_ret
    exact ⟨rfl, HB6.out⟩
end Go.Proofs.Ytclnmheplecknaa

namespace Go.Proofs.Ytclnmheplecknaa
open Go.RowKit
/-- An own row of i64. -/
def RowL (w : World) (base g n c : Nat) (o : List Int) : Prop := w.ownsRow base 2 1 (.slice (some ⟨g, 0, none⟩) n c) n (o.map (Value.int .i64))
theorem RowL.len {w : World} {base g n c : Nat} {o : List Int} (h : RowL w base g n c o) : o.length = n := by have := h.1; simpa using this
theorem RowL.room {w : World} {base g n c : Nat} {o : List Int} (h : RowL w base g n c o) : n ≤ c := by
  rcases h.2 with ⟨h', _⟩ | ⟨g', cap', cur, h', _, hg, hn, _⟩
  · simp at h'
  · injection h' with _ _ e; omega
theorem RowL.cell {w : World} {base g n c : Nat} {o : List Int} (h : RowL w base g n c o) (j : Nat) (u : Int) (hj : o[j]? = some u) : w.cell? ⟨g, j, none⟩ = some (.int .i64 u) := by
  have hl : j < n := by rw [← h.len]; exact (List.getElem?_eq_some_iff.1 hj).1
  rw [World.ownsRow.cellAt h j (by omega), List.getElem?_map, hj]; rfl
theorem RowL.free {w : World} {base g n c : Nat} {o : List Int} (h : RowL w base g n c o) (j : Nat) : w.frozen? ⟨g, j, none⟩ = false := World.ownsRow.frozenAt h j
theorem RowL.set {w : World} {base g n c : Nat} {o : List Int} (h : RowL w base g n c o) (j : Nat) (v : Int) : RowL (w.setCell ⟨g, j, none⟩ (.int .i64 v)) base g n c (o.set j v) := by
  have := (World.ownsRow.stored h j (.int .i64 v)).1
  rw [← List.map_set] at this
  exact this
theorem RowL.lt {w : World} {base g n c : Nat} {o : List Int} (h : RowL w base g n c o) : base ≤ g ∧ g < w.heap.size := World.ownsRow.lt h g rfl
theorem RowL.u {w : World} {base g n c : Nat} {o : List Int} (h : RowL w base g n c o) : UL w (some ⟨g, 0, none⟩) n c o :=
  ⟨h.len, h.room, (fun e => by cases e), fun k x hk => ⟨_, rfl, h.lt.2, World.ownsRow.cells h rfl k _ (by rw [List.getElem?_map, hk]; rfl)⟩⟩
theorem RowL.made {w : World} {base n m : Nat} (h : w.ownsRow base 2 1 (.slice (some ⟨m, 0, none⟩) n n) n (madeCells (Value.int .i64 0).cells (n * 1)).toList) : RowL w base m n n (List.replicate n 0) := by
  have e : (madeCells (Value.int .i64 0).cells (n * 1)).toList = (List.replicate n (0 : Int)).map (Value.int .i64) := by
    rw [show (Value.int .i64 0).cells = #[Value.int .i64 0] from rfl, toList_madeCells_one, Nat.mul_one, List.map_replicate]
  rw [e] at h; exact h
set_option maxRecDepth 400000 in
set_option maxHeartbeats 4000000 in
theorem cutLong_walk (d below b0 : Int) (wd : (Lit.int .i64 d).wf = true) (wbl : (Lit.int .i64 below).wf = true) (wb : (Lit.int .i64 b0).wf = true) (w : World) : Calls Try.prog 5 #[.int .i64 d, .int .i64 below, .int .i64 b0] w fun e w' => e = .returned (.bool true) ∧ Below w.heap.size w w' := by
  obtain ⟨i0, hi0, hz0, hz1, hz2⟩ := info_parts i64_info
  have hwf := wf_i64 wb
  have HA := Lib.hid (fun w => awake14_any w)
  have HP := Lib.hid (fun w => pick_any b0 29 w (by decide) (by decide) hwf.1 hwf.2)
  have HX : Hid (-64 < Int.tmod d 64 ∧ Int.tmod d 64 < 64) := Lib.hid ⟨Int.lt_tmod_of_pos d (by decide), Int.tmod_lt_of_pos d (by decide)⟩
  have HY : Hid (-2 < Int.tmod below 2 ∧ Int.tmod below 2 < 2) := Lib.hid ⟨Int.lt_tmod_of_pos below (by decide), Int.tmod_lt_of_pos below (by decide)⟩
  obtain ⟨X, hX⟩ : ∃ X, Int.tmod d 64 = X := ⟨_, rfl⟩
  obtain ⟨Y, hY⟩ : ∃ Y, Int.tmod below 2 = Y := ⟨_, rfl⟩
  rw [hX] at HX
  rw [hY] at HY
  clear hwf wb wd wbl
  go_enter Try.func5, Try.ntmps5
  go_wp2_with fail
  refine (HA.out _).mono ?_
  rintro e w1 ⟨rfl, hb⟩
  have HB1 := Lib.hid hb
  clear hb
  go_wp2_with fail
  refine (HP.out _).mono ?_
  rintro e w' ⟨k, rfl, hk, rfl⟩
  obtain ⟨b, hbk⟩ : ∃ b : Nat, b = 2 + k := ⟨_, rfl⟩
  have hbk2 : (2 : Int) + (k : Int) = (b : Int) := by omega
  have hb1 : 2 ≤ b := by omega
  have hb2 : b ≤ 30 := by omega
  obtain ⟨m, hm⟩ : ∃ m, m = 262144 / b := ⟨_, rfl⟩
  have hm1 : m ≤ 131072 := by rw [hm]; exact Nat.le_trans (Nat.div_le_div_left hb1 (by decide)) (by decide)
  have hm2 : 8738 ≤ m := by rw [hm]; exact Nat.le_trans (by decide) (Nat.div_le_div_left hb2 (by omega))
  have hmi : ((262144 : Int)).tdiv (b : Int) = (m : Int) := by rw [hm]; exact Int.ofNat_tdiv ..
  have hmi2 : (262144 : Int) / (b : Int) = (m : Int) := by rw [hm]; simp
  obtain ⟨n, hn⟩ : ∃ n, n = m + 1 := ⟨_, rfl⟩
  have hmn : (m : Int) + 1 = (n : Int) := by omega
  have hnb : n ≤ 131073 := by omega
  have hn0 : 0 < n := by omega
  have hnm : (n : Int) - 1 = (m : Int) := by omega
  have hmlt : m < n := by omega
  have hm0 : m ≠ 0 := by omega
  clear hbk hk hm hn hm1 hm2
  go_wp2_with (refine wpList_make_full _ rfl (.tmp 20) (.tmp 20) 27 rfl w1.heap.size 2 i0 _ 1 Try.underlying27 hi0 hz0 hz1 .i64 .i64 _ _ n rfl rfl rfl rfl (by rw [hz2]; omega) (by simp only [maxLen]; omega) (Nat.le_refl _) ?_; intro w2 hown hg; have hrow := RowL.made hown; have HB12 := Lib.hid ((Below.refl w1.heap.size w1).grown hg (Nat.le_refl _) (fun k hk => by cases hk)); have hc1 := hrow.cell m 0 (by rw [List.getElem?_replicate, if_pos hmlt]); have hf1 := hrow.free m; have HR1 := Lib.hid (hrow.set m X); have hc2 := HR1.out.cell 0 0 (by rw [List.getElem?_set_ne hm0, List.getElem?_replicate, if_pos hn0]); have hf2 := HR1.out.free 0; have HR := Lib.hid (HR1.out.set 0 Y); clear hown hg hrow)
  obtain ⟨g, hgg⟩ : ∃ g, g = w1.heap.size := ⟨_, rfl⟩
  have hb13 := (HB12.out.setCell (p := ⟨w1.heap.size, m, none⟩) (Nat.le_refl _) (.int .i64 X)).setCell (p := ⟨w1.heap.size, 0, none⟩) (Nat.le_refl _) (.int .i64 Y)
  have HB3 := Lib.hid (HB1.out.trans (hb13.mono HB1.out.size))
  clear hb13 hc1 hc2 hf1 hf2 HB12 HR1
  generalize (w2.setCell ⟨w1.heap.size, m, none⟩ (.int .i64 X)).setCell ⟨w1.heap.size, 0, none⟩ (.int .i64 Y) = w3 at *
  rw [← hgg] at HR ⊢
  clear hgg
  have H64 : Hid (L64 (((List.replicate n (0 : Int)).set m X).set 0 Y)) := Lib.hid (fun x hx => by
    have h1 := HX.out
    have h2 := HY.out
    rcases List.mem_or_eq_of_mem_set hx with h | rfl
    · rcases List.mem_or_eq_of_mem_set h with h | rfl
      · rw [(List.mem_replicate.1 h).2]; decide
      · omega
    · omega)
  have HK := Lib.hid (dg_len_le (b : Int) (((List.replicate n (0 : Int)).set m X).set 0 Y))
  have HCW : Hid (∀ x, Below w3.heap.size w3 x → Calls Try.prog 18 #[.slice (some ⟨g, 0, none⟩) n n, .int .i64 b] x (WPost b (((List.replicate n (0 : Int)).set m X).set 0 Y) x)) := Lib.hid (fun x h => cwhole_any _ n n b _ x (HR.out.u.below h) H64.out (by omega))
  have HRW : Hid (∀ x, Below w3.heap.size w3 x → Calls Try.prog 19 #[.slice (some ⟨g, 0, none⟩) n n, .int .i64 b] x (WPost b (((List.replicate n (0 : Int)).set m X).set 0 Y) x)) := Lib.hid (fun x h => rwhole_any _ n n b _ x (HR.out.u.below h) H64.out (by omega))
  unfold WPost at HCW HRW
  generalize wS (b : Int) (((List.replicate n (0 : Int)).set m X).set 0 Y) = S at *
  generalize wE (b : Int) (((List.replicate n (0 : Int)).set m X).set 0 Y) = E at *
  generalize wL (b : Int) (((List.replicate n (0 : Int)).set m X).set 0 Y) = M at *
  obtain ⟨K, hK⟩ : ∃ K, K = M.length := ⟨_, rfl⟩
  rw [← hK] at HCW HRW HK
  have hE : (E == E) = true := by simp
  clear hK H64 HR
  refine (HCW.out _ (Below.refl _ _)).mono ?_
  rintro e w4 ⟨A3, c3, rfl, hu3, hb⟩
  have HB34 := Lib.hid hb
  have HB4 := Lib.hid (HB3.out.trans (hb.mono HB3.out.size))
  have HU3 := Lib.hid hu3
  clear hb hu3
  go_wp2_with fail
  have hba := (Below.refl w4.heap.size w4).alloc (Nat.le_refl _) (.cells #[.bool S, .slice A3 K c3] 24)
  have HBA := Lib.hid (HB34.out.trans (hba.mono HB34.out.size))
  have HBA3 := Lib.hid hba
  refine (HRW.out _ HBA.out).mono ?_
  rintro e w5 ⟨A4, c4, rfl, hu4, hb⟩
  have d0 : w5.cell? ⟨w4.heap.size, 0, none⟩ = some (.bool S) := (hb.cell (p := ⟨w4.heap.size, 0, none⟩) (by simp)).trans (by simp)
  have d1 : w5.cell? ⟨w4.heap.size, 1, none⟩ = some (.slice A3 K c3) := (hb.cell (p := ⟨w4.heap.size, 1, none⟩) (by simp)).trans (by simp)
  have HB45 := Lib.hid (HBA3.out.trans (hb.mono HBA3.out.size))
  have HB5 := Lib.hid (HB4.out.trans (HB45.out.mono HB4.out.size))
  have hlt34 : w4.heap.size < w5.heap.size := by have := hb.size; simp at this; omega
  have HU34 := Lib.hid (HU3.out.below HB45.out)
  have HU4 := Lib.hid hu4
  clear hb hu4 hba HBA3
  go_wp2_with fail
  have hba := (Below.refl w5.heap.size w5).alloc (Nat.le_refl _) (.cells #[.bool S, .slice A4 K c4] 24)
  refine (same_int S A3 K c3 A4 c4 M _ HK.out (HU34.out.below hba) (HU4.out.below hba)).mono ?_
  rintro e w6 ⟨rfl, hb⟩
  have HB6 := Lib.hid (HB5.out.trans ((hba.trans (hb.mono hba.size)).mono HB5.out.size))
  clear hb hba
  go_wp2
  go_ret
  exact ⟨rfl, HB6.out⟩
end Go.Proofs.Ytclnmheplecknaa

namespace Go.Proofs.Ytclnmheplecknaa
open Go.RowKit
theorem grownBy_cell (W : World) (b off : Nat) (v : Value) : W.grownBy (W.setCell ⟨b, off, none⟩ v) (some b) :=
  ⟨rfl, rfl, rfl, (KeepsWalks.setCell W _ v).size, fun k _ hk => Below.heap_setCell _ _ _ k (fun e => hk (by rw [e]))⟩
set_option maxRecDepth 100000 in
set_option maxHeartbeats 2000000 in
theorem copy_limbs (A : Option Addr) (n c : Nat) (l : List Int) (w : World) (hn : n ≤ 100000000) (hu : U w A n c l) :
    Calls Try.prog 50 #[.slice A n c] w fun e w' => ∃ v, e = .returned v ∧ w'.ownsRow w.heap.size 55 1 v n (l.map (Value.int .u64)) ∧ Below w.heap.size w w' := by
  obtain ⟨i0, hi0, hz0, hz1, hz2⟩ := info_parts u64_info
  have HNIL : Hid (w.ownsRow w.heap.size 55 1 (.slice none 0 0) 0 []) := Lib.hid ⟨by simp, .inl ⟨rfl, rfl⟩⟩
  rcases A with _ | ad
  · obtain rfl : c = 0 := hu.2.2.1 rfl
    obtain rfl : n = 0 := by have := hu.2.1; omega
    obtain rfl : l = [] := List.eq_nil_of_length_eq_zero hu.1
    clear hu
    go_enter Try.func50, Try.ntmps50
    go_wp2
    go_ret
    exact ⟨_, rfl, HNIL.out, Below.refl _ _⟩
  · have HL : Hid ((l.map (Value.int .u64)).length = n * 1) := Lib.hid (by rw [List.length_map, Nat.mul_one]; exact hu.1)
    have HC : Hid (∀ j u, (l.map (Value.int .u64))[j]? = some u → w.cell? (ad.add j) = some u) := Lib.hid (fun j u hj => by
      rw [List.getElem?_map] at hj
      obtain ⟨x, hx, rfl⟩ := Option.map_eq_some_iff.1 hj
      obtain ⟨ad2, e2, _, hc2⟩ := hu.2.2.2 j x hx
      obtain rfl := Option.some.inj e2
      exact hc2)
    have H1 : Hid (∀ u ∈ l.map (Value.int .u64), u.oneCell' = true) := Lib.hid (fun u hu => by obtain ⟨x, _, rfl⟩ := List.mem_map.1 hu; rfl)
    generalize l.map (Value.int .u64) = lv at *
    clear hu
    go_enter Try.func50, Try.ntmps50
    go_wp2_with (at_builtin; refine wpList_append_own _ rfl (.tmp 4) (.tmp 5) _ rfl w.heap.size 55 i0 _ 1 8 Try.underlying22 hi0 hz0 hz1 hz2 rfl (Nat.le_refl 1) (.slice none 0 0) 0 [] rfl HNIL.out ad n c lv rfl HL.out HC.out H1.out (by simp only [maxLen]; omega) (by omega) (Nat.le_refl _) ?_; intro v' w3 hown hg _)
    rw [Nat.zero_add, List.nil_append] at hown
    have HO := Lib.hid hown
    have HB := Lib.hid ((Below.refl w.heap.size w).grown hg (Nat.le_refl _) (fun k hk => by cases hk))
    clear hown hg
    go_wp2
    go_ret
    exact ⟨_, rfl, HO.out, HB.out⟩
set_option maxRecDepth 100000 in
set_option maxHeartbeats 2000000 in
theorem copy_longs (A : Option Addr) (n c : Nat) (l : List Int) (w : World) (hn : n ≤ 100000000) (hu : UL w A n c l) :
    Calls Try.prog 26 #[.slice A n c] w fun e w' => ∃ v, e = .returned v ∧ w'.ownsRow w.heap.size 2 1 v n (l.map (Value.int .i64)) ∧ Below w.heap.size w w' := by
  obtain ⟨i0, hi0, hz0, hz1, hz2⟩ := info_parts i64_info
  have HNIL : Hid (w.ownsRow w.heap.size 2 1 (.slice none 0 0) 0 []) := Lib.hid ⟨by simp, .inl ⟨rfl, rfl⟩⟩
  rcases A with _ | ad
  · obtain rfl : c = 0 := hu.2.2.1 rfl
    obtain rfl : n = 0 := by have := hu.2.1; omega
    obtain rfl : l = [] := List.eq_nil_of_length_eq_zero hu.1
    clear hu
    go_enter Try.func26, Try.ntmps26
    go_wp2
    go_ret
    exact ⟨_, rfl, HNIL.out, Below.refl _ _⟩
  · have HL : Hid ((l.map (Value.int .i64)).length = n * 1) := Lib.hid (by rw [List.length_map, Nat.mul_one]; exact hu.1)
    have HC : Hid (∀ j u, (l.map (Value.int .i64))[j]? = some u → w.cell? (ad.add j) = some u) := Lib.hid (fun j u hj => by
      rw [List.getElem?_map] at hj
      obtain ⟨x, hx, rfl⟩ := Option.map_eq_some_iff.1 hj
      obtain ⟨ad2, e2, _, hc2⟩ := hu.2.2.2 j x hx
      obtain rfl := Option.some.inj e2
      exact hc2)
    have H1 : Hid (∀ u ∈ l.map (Value.int .i64), u.oneCell' = true) := Lib.hid (fun u hu => by obtain ⟨x, _, rfl⟩ := List.mem_map.1 hu; rfl)
    generalize l.map (Value.int .i64) = lv at *
    clear hu
    go_enter Try.func26, Try.ntmps26
    go_wp2_with (at_builtin; refine wpList_append_own _ rfl (.tmp 4) (.tmp 5) _ rfl w.heap.size 2 i0 _ 1 8 Try.underlying27 hi0 hz0 hz1 hz2 rfl (Nat.le_refl 1) (.slice none 0 0) 0 [] rfl HNIL.out ad n c lv rfl HL.out HC.out H1.out (by simp only [maxLen]; omega) (by omega) (Nat.le_refl _) ?_; intro v' w3 hown hg _)
    rw [Nat.zero_add, List.nil_append] at hown
    have HO := Lib.hid hown
    have HB := Lib.hid ((Below.refl w.heap.size w).grown hg (Nat.le_refl _) (fun k hk => by cases hk))
    clear hown hg
    go_wp2
    go_ret
    exact ⟨_, rfl, HO.out, HB.out⟩
set_option maxRecDepth 100000 in
set_option maxHeartbeats 4000000 in
theorem copy_int (s : Bool) (A : Option Addr) (n c : Nat) (l : List Int) (w : World) (hn : n ≤ 1000000) (hu : U w A n c l) :
    Calls Try.prog 23 #[.agg #[.bool s, .slice A n c]] w fun e w' => ∃ A' c', e = .returned (.agg #[.bool s, .slice A' n c']) ∧ w'.ownsRow w.heap.size 55 1 (.slice A' n c') n (l.map (Value.int .u64)) ∧ U w' A' n c' l ∧ Below w.heap.size w w' := by
  have HB1 := Lib.hid (((Below.refl w.heap.size w).alloc (Nat.le_refl _) (.cells #[.bool s, .slice A n c] 24)).alloc (by simp) (.cells #[.bool false, .slice none 0 0] 24))
  have HS := Lib.hid (fun w1 (hb : Below w.heap.size w w1) => copy_limbs A n c l w1 (by omega) (hu.below hb))
  clear hu
  go_enter Try.func23, Try.ntmps23
  go_wp2_with fail
  refine (HS.out _ HB1.out).mono ?_
  rintro e w1 ⟨v, rfl, hown, hb⟩
  have hsz : ((w.alloc (.cells #[.bool s, .slice A n c] 24)).alloc (.cells #[.bool false, .slice none 0 0] 24)).heap.size = w.heap.size + 2 := by simp
  rw [hsz] at hown
  obtain ⟨A', c', rfl, hu1⟩ := U.of_own hown
  have c0 : w1.cell? ⟨w.heap.size, 0, none⟩ = some (.bool s) := (hb.cell (p := ⟨w.heap.size, 0, none⟩) (by rw [hsz]; simp)).trans (by simp)
  have c1 : w1.cell? ⟨w.heap.size, 1, none⟩ = some (.slice A n c) := (hb.cell (p := ⟨w.heap.size, 1, none⟩) (by rw [hsz]; simp)).trans (by simp)
  have c2 : w1.cell? ⟨w.heap.size + 1, 0, none⟩ = some (.bool false) := (hb.cell (p := ⟨w.heap.size + 1, 0, none⟩) (by rw [hsz]; simp)).trans (by simp)
  have c3 : w1.cell? ⟨w.heap.size + 1, 1, none⟩ = some (.slice none 0 0) := (hb.cell (p := ⟨w.heap.size + 1, 1, none⟩) (by rw [hsz]; simp)).trans (by simp)
  have f1 : w1.frozen? ⟨w.heap.size, 1, none⟩ = false := (hb.frozen (p := ⟨w.heap.size, 1, none⟩) (by rw [hsz]; simp)).trans (by simp)
  have f2 : w1.frozen? ⟨w.heap.size + 1, 0, none⟩ = false := (hb.frozen (p := ⟨w.heap.size + 1, 0, none⟩) (by rw [hsz]; simp)).trans (by simp)
  have f3 : w1.frozen? ⟨w.heap.size + 1, 1, none⟩ = false := (hb.frozen (p := ⟨w.heap.size + 1, 1, none⟩) (by rw [hsz]; simp)).trans (by simp)
  have d2 : (w1.setCell ⟨w.heap.size, 1, none⟩ (.slice A' n c')).cell? ⟨w.heap.size + 1, 0, none⟩ = some (.bool false) := (World.cell?_setCell_other _ _ _ _ (by simp)).trans c2
  have d3 : (w1.setCell ⟨w.heap.size, 1, none⟩ (.slice A' n c')).cell? ⟨w.heap.size + 1, 1, none⟩ = some (.slice none 0 0) := (World.cell?_setCell_other _ _ _ _ (by simp)).trans c3
  have hne : ∀ k, k < w.heap.size + 2 → (Value.slice A' n c').ownBlock ≠ some k := fun k hk e => by have := (hown.lt k e).1; omega
  have o1 := hown.kept (grownBy_cell w1 w.heap.size 1 (.slice A' n c')) (.inr (fun e => hne w.heap.size (by omega) e))
  have o2 := o1.kept (grownBy_cell (w1.setCell ⟨w.heap.size, 1, none⟩ (.slice A' n c')) (w.heap.size + 1) 0 (.bool s)) (.inr (fun e => hne (w.heap.size + 1) (by omega) e))
  have o3 := o2.kept (grownBy_cell ((w1.setCell ⟨w.heap.size, 1, none⟩ (.slice A' n c')).setCell ⟨w.heap.size + 1, 0, none⟩ (.bool s)) (w.heap.size + 1) 1 (.slice A' n c')) (.inr (fun e => hne (w.heap.size + 1) (by omega) e))
  obtain ⟨A2, c2', e2, hu3⟩ := U.of_own o3
  obtain ⟨rfl, _, rfl⟩ : A' = A2 ∧ n = n ∧ c' = c2' := by injection e2 with q1 q2 q3; exact ⟨q1, q2, q3⟩
  have HU3 := Lib.hid hu3
  have HO3 := Lib.hid (row_base o3 (show w.heap.size ≤ w.heap.size + 2 by omega))
  have HOUT := int_store (w1 := w1.setCell ⟨w.heap.size, 1, none⟩ (.slice A' n c')) (g := w.heap.size + 1) d2 d3 (.bool s) (.slice A' n c')
  have HO := Lib.hid HOUT
  have HBZ := Lib.hid ((HB1.out.trans (hb.mono HB1.out.size)).setCell (p := ⟨w.heap.size, 1, none⟩) (Nat.le_refl _) (.slice A' n c'))
  have HB2 := Lib.hid (HOUT.2.1 _ _ (show w.heap.size ≤ w.heap.size + 1 by omega) HBZ.out)
  clear hb hsz d2 d3 HOUT hne o1 o2 o3 hu3 hu1 hown e2
  go_wp2
  refine bodyPost_ret (v := .agg #[.bool s, .slice A' n c']) (by simp [results, Try.results23, go_sem, HO.out.2.2.1, HO.out.2.2.2]) rfl ⟨A', c', rfl, HO3.out, HU3.out, HB2.out⟩
end Go.Proofs.Ytclnmheplecknaa

namespace Go.Proofs.Ytclnmheplecknaa
open Go.RowKit
theorem trimZ_len : ∀ l : List Int, (trimZ l).length ≤ l.length
  | [] => Nat.le_refl _
  | x :: l => by
    have ih := trimZ_len l
    unfold trimZ
    split
    · split <;> simp
    · rename_i y t h
      rw [h] at ih
      simp at ih ⊢
      omega
theorem cells_int (w w' : World) (s : Bool) (A : Option Addr) (n c : Nat) (t : TypeId) (hb : Below (w.heap.size + 1) (w.alloc (.cells #[.bool s, .slice A n c] t)) w') : w'.cell? ⟨w.heap.size, 0, none⟩ = some (.bool s) ∧ w'.cell? ⟨w.heap.size, 1, none⟩ = some (.slice A n c) :=
  ⟨(hb.cell (p := ⟨w.heap.size, 0, none⟩) (by simp)).trans (by simp), (hb.cell (p := ⟨w.heap.size, 1, none⟩) (by simp)).trans (by simp)⟩
set_option maxRecDepth 400000 in
set_option maxHeartbeats 4000000 in
theorem cutDigits_walk (w : World) (s : Bool) (A : Option Addr) (n c : Nat) (l : List Int) (b : Int) (hs : U w A n c l ∧ Nt.Dig 18446744073709551616 l ∧ c ≤ 9223372036854775807) (wb : (Lit.int .i64 b).wf = true) : Calls Try.prog 3 #[.agg #[.bool s, .slice A n c], .int .i64 b] w fun e w' => e = .returned (.bool true) ∧ Below w.heap.size w w' := by
  have HA := Lib.hid (fun w => awake14_any w)
  have hnc := hs.1.2.1
  have hcm := hs.2.2
  have hba := (Below.refl w.heap.size w).alloc (Nat.le_refl _) (.cells #[.bool s, .slice A n c] 24)
  have HB0 := Lib.hid hba
  by_cases h300 : n ≤ 300
  · have HU := Lib.hid hs.1
    have HD := Lib.hid hs.2.1
    have HLL := Lib.hid (fun x (hb : Below w.heap.size w x) => lent_int s A n c l x (by omega) (HU.out.below hb))
    have HCD : Hid (∀ (x : World) g, LentU x g n l → Calls Try.prog 13 #[.agg #[.bool s, .slice (some ⟨g, 0, none⟩) n (n + 12)], .int .i64 b] x (DPost s l b x)) := Lib.hid (fun x g h => digits_any s (some ⟨g, 0, none⟩) n (n + 12) l b x h.u HD.out (by omega))
    have HRD : Hid (∀ (x : World), Below w.heap.size w x → Calls Try.prog 14 #[.agg #[.bool s, .slice A n c], .int .i64 b] x (DPost s l b x)) := Lib.hid (fun x h => rdigits_any s A n c l b x (HU.out.below h) HD.out (by omega))
    have HKI : Hid (∀ (x : World) g, Below w.heap.size w x → LentU x g n l → Calls Try.prog 16 #[.agg #[.bool s, .slice (some ⟨g, 0, none⟩) n (n + 12)], .agg #[.bool s, .slice A n c]] x fun e w' => e = .returned (.bool true) ∧ Below x.heap.size x w') := Lib.hid (fun x g h hl => kept_int s g A n c l x (by omega) hl (HU.out.below h))
    have hK : (dT s l b).length ≤ 1000000000 := by
      unfold dT
      split
      · refine Nat.le_trans (trimZ_len _) ?_
        have h1 := digS_raw_len (2 ^ (b.toNat - 1) : Nat) s (Nt.val 18446744073709551616 l) b.toNat l.length
        have h2 : chkM l.length b.toNat ≤ 64 * l.length + b.toNat := by unfold chkM; exact Nat.le_trans (Nat.div_le_self _ _) (by omega)
        have h3 := hs.1.1
        omega
      · exact Nat.zero_le _
    have HK := Lib.hid hK
    unfold DPost at HCD HRD
    generalize dE s l b = E at *
    generalize dT s l b = M at *
    obtain ⟨K, hKM⟩ : ∃ K, K = M.length := ⟨_, rfl⟩
    rw [← hKM] at HCD HRD HK
    have hE : (E == E) = true := by simp
    clear hs hK hKM hba
    go_enter Try.func3, Try.ntmps3
    go_wp2_with fail
    refine (HA.out _).mono ?_
    rintro e w1 ⟨rfl, hb⟩
    have HB1 := Lib.hid (HB0.out.trans (hb.mono HB0.out.size))
    obtain ⟨x0, x1⟩ := cells_int w w1 s A n c _ (by simpa using hb)
    have hlt1 : w.heap.size < w1.heap.size := by have := hb.size; simp at this; omega
    clear hb
    go_wp2_with fail
    refine (HLL.out _ HB1.out).mono ?_
    rintro e w2 ⟨g, rfl, hl, hb⟩
    have HB2 := Lib.hid (HB1.out.trans (hb.mono HB1.out.size))
    have y0 := (hb.cell (p := ⟨w.heap.size, 0, none⟩) hlt1).trans x0
    have y1 := (hb.cell (p := ⟨w.heap.size, 1, none⟩) hlt1).trans x1
    have hlt2 : w.heap.size < w2.heap.size := Nat.lt_of_lt_of_le hlt1 hb.size
    have HL2 := Lib.hid hl
    clear hb hl x0 x1 hlt1
    have hba2 := (Below.refl w2.heap.size w2).alloc (Nat.le_refl _) (.cells #[.bool s, .slice (some ⟨g, 0, none⟩) n (n + 12)] 24)
    have HBA2 := Lib.hid hba2
    have HLA := Lib.hid (HL2.out.below hba2)
    clear hba2
    go_wp2_with fail
    refine (HCD.out _ g HLA.out).mono ?_
    rintro e w3 ⟨v3, rfl, hown3, hb⟩
    obtain ⟨A3, c3, rfl, hu3⟩ := UL.of_own hown3
    obtain ⟨i0, i1⟩ := cells_int w2 w3 s (some ⟨g, 0, none⟩) n (n + 12) _ (by simpa using hb)
    have HB23 := Lib.hid (HBA2.out.trans (hb.mono HBA2.out.size))
    have z0 := (HB23.out.cell (p := ⟨w.heap.size, 0, none⟩) hlt2).trans y0
    have z1 := (HB23.out.cell (p := ⟨w.heap.size, 1, none⟩) hlt2).trans y1
    have hlt3 : w2.heap.size < w3.heap.size := by have := hb.size; simp at this; omega
    have HB3 := Lib.hid (HB2.out.trans (HB23.out.mono HB2.out.size))
    have HU3 := Lib.hid hu3
    have HL3 := Lib.hid (HL2.out.below HB23.out)
    clear hb hu3 hown3 y0 y1
    go_wp2_with fail
    refine (HRD.out _ HB3.out).mono ?_
    rintro e w4 ⟨v4, rfl, hown4, hb⟩
    obtain ⟨A4, c4, rfl, hu4⟩ := UL.of_own hown4
    have q0 := (hb.cell (p := ⟨w.heap.size, 0, none⟩) (Nat.lt_trans hlt2 hlt3)).trans z0
    have q1 := (hb.cell (p := ⟨w.heap.size, 1, none⟩) (Nat.lt_trans hlt2 hlt3)).trans z1
    have j0 := (hb.cell (p := ⟨w2.heap.size, 0, none⟩) hlt3).trans i0
    have j1 := (hb.cell (p := ⟨w2.heap.size, 1, none⟩) hlt3).trans i1
    have hlt4 : w2.heap.size < w4.heap.size := Nat.lt_of_lt_of_le hlt3 hb.size
    have HB4 := Lib.hid (HB3.out.trans (hb.mono HB3.out.size))
    have HU4 := Lib.hid hu4
    have HU34 := Lib.hid (HU3.out.below hb)
    have HL4 := Lib.hid (HL3.out.below hb)
    clear hb hu4 hown4 z0 z1 i0 i1
    go_wp2_with fail
    refine (same_longs A3 K c3 A4 c4 M _ HK.out HU34.out HU4.out).mono ?_
    rintro e w5 ⟨rfl, hb⟩
    have r0 := (hb.cell (p := ⟨w.heap.size, 0, none⟩) (Nat.lt_trans hlt2 hlt4)).trans q0
    have r1 := (hb.cell (p := ⟨w.heap.size, 1, none⟩) (Nat.lt_trans hlt2 hlt4)).trans q1
    have k0 := (hb.cell (p := ⟨w2.heap.size, 0, none⟩) hlt4).trans j0
    have k1 := (hb.cell (p := ⟨w2.heap.size, 1, none⟩) hlt4).trans j1
    have HB5 := Lib.hid (HB4.out.trans (hb.mono HB4.out.size))
    have HL5 := Lib.hid (HL4.out.below hb)
    clear hb q0 q1 j0 j1
    go_wp2_with fail
    refine (HKI.out _ g HB5.out HL5.out).mono ?_
    rintro e w6 ⟨rfl, hb⟩
    have HB6 := Lib.hid (HB5.out.trans (hb.mono HB5.out.size))
    clear hb
    go_wp2
    go_ret
    exact ⟨rfl, HB6.out⟩
  · clear hs
    go_enter Try.func3, Try.ntmps3
    go_wp2_with fail
    refine (HA.out _).mono ?_
    rintro e w1 ⟨rfl, hb⟩
    have HB1 := Lib.hid (HB0.out.trans (hb.mono HB0.out.size))
    obtain ⟨x0, x1⟩ := cells_int w w1 s A n c _ (by simpa using hb)
    clear hb
    go_wp2
    go_ret
    exact ⟨rfl, HB1.out⟩
end Go.Proofs.Ytclnmheplecknaa

namespace Go.Proofs.Ytclnmheplecknaa
/-- Digits put together, signs and all. -/
def sv (P : Int) : List Int → Int
  | [] => 0
  | d :: l => d + P * sv P l
def Bal (h : Int) (l : List Int) : Prop := ∀ x, x ∈ l → -h ≤ x ∧ x < h
theorem sv_snoc (P : Int) (x : Int) : ∀ l : List Int, sv P (l ++ [x]) = sv P l + P ^ l.length * x
  | [] => by simp [sv]
  | d :: l => by
    simp only [List.cons_append, sv, sv_snoc P x l, List.length_cons]
    rw [Int.mul_add, Int.pow_succ, Int.mul_comm (P ^ l.length) P, Int.mul_assoc]
    omega
theorem sv_neg (P : Int) : ∀ l : List Int, sv P (l.map fun x => -x) = -sv P l
  | [] => by simp [sv]
  | d :: l => by simp only [List.map_cons, sv, sv_neg P l, Int.mul_neg]; omega
theorem step_val (h e : Int) (h1 : -(3 * h) ≤ e) (h2 : e < 3 * h) : (stepD h e).1 + 2 * h * (stepD h e).2 = e ∧ -h ≤ (stepD h e).1 ∧ (stepD h e).1 < h := by
  unfold stepD
  split
  · dsimp only; omega
  · split
    · dsimp only; omega
    · dsimp only; omega
theorem put_val (h : Int) (hh : 1 ≤ h) : ∀ (l : List Int) (st : List Int × Int), (∀ x, x ∈ l → -(2 * h) < x ∧ x < 2 * h) → Bal h st.1 → -1 ≤ st.2 → st.2 ≤ 1 →
    Bal h (l.foldl (putL h) st).1 ∧ sv (2 * h) (l.foldl (putL h) st).1 + (2 * h) ^ (l.foldl (putL h) st).1.length * (l.foldl (putL h) st).2 = sv (2 * h) st.1 + (2 * h) ^ st.1.length * (st.2 + sv (2 * h) l)
  | [], st, _, hb, _, _ => ⟨hb, by simp [sv]⟩
  | x :: l, st, hl, hb, c1, c2 => by
    rw [List.foldl_cons]
    have hx := hl x (List.mem_cons_self ..)
    obtain ⟨e1, e2, e3⟩ := step_val h (x + st.2) (by omega) (by omega)
    have hc := stepD_carry h (x + st.2)
    have ih := put_val h hh l (putL h st x) (fun y hy => hl y (List.mem_cons_of_mem _ hy)) (fun y hy => by
      unfold putL at hy
      rcases List.mem_append.1 hy with h' | h'
      · exact hb y h'
      · simp at h'; subst h'; exact ⟨e2, e3⟩) (by unfold putL; dsimp only; omega) (by unfold putL; dsimp only; omega)
    refine ⟨ih.1, ?_⟩
    rw [ih.2]
    unfold putL
    dsimp only
    rw [sv_snoc]
    simp only [sv, List.length_append, List.length_cons, List.length_nil, Nat.zero_add]
    generalize (stepD h (x + st.2)).1 = d at *
    generalize (stepD h (x + st.2)).2 = c at *
    generalize sv (2 * h) l = S at *
    generalize sv (2 * h) st.1 = S0 at *
    rw [Int.pow_succ]
    generalize (2 * h) ^ st.1.length = Q at *
    have e4 : st.2 + (x + 2 * h * S) = d + 2 * h * c + 2 * h * S := by omega
    rw [e4, Int.mul_add, Int.mul_add, Int.mul_add, Int.mul_assoc Q, Int.mul_assoc Q]
    omega
theorem chks_val (N b : Nat) (hb : b ≤ 30) : ∀ k, sv ((2 ^ b : Nat) : Int) ((chks N b k).map (·.1)) = ((N % 2 ^ (b * k) : Nat) : Int)
  | 0 => by simp [chks, sv, Nat.mod_one]
  | k + 1 => by
    rw [chks_succ, List.map_append, List.map_singleton, sv_snoc, chks_val N b hb k, chkC_val _ _ _ hb, List.length_map, chks_len]
    unfold chkN
    have h := Nat.mod_mul (x := N) (a := 2 ^ (b * k)) (b := 2 ^ b)
    rw [← Nat.pow_add, show b * k + b = b * (k + 1) by rw [Nat.mul_succ]] at h
    rw [h, Nat.pow_mul]
    simp
theorem chk_bound (N b : Nat) (hb : b ≤ 30) (k : Nat) (s : Bool) : ∀ x, x ∈ (chks N b k).map (sgnC s) → -((2 ^ b : Nat) : Int) < x ∧ x < ((2 ^ b : Nat) : Int) := by
  intro x hx
  obtain ⟨c, hc, rfl⟩ := List.mem_map.1 hx
  obtain ⟨j, _, rfl⟩ := List.mem_map.1 hc
  unfold sgnC
  rw [chkC_val _ _ _ hb]
  have h1 : chkN N (b * j) b < 2 ^ b := Nat.mod_lt _ (Nat.two_pow_pos b)
  generalize chkN N (b * j) b = q at *
  generalize 2 ^ b = P at *
  split <;> omega
theorem sgn_val (P : Int) (s : Bool) (l : List Chk) : sv P (l.map (sgnC s)) = if s then -sv P (l.map (·.1)) else sv P (l.map (·.1)) := by
  cases s
  · rfl
  · rw [show l.map (sgnC true) = (l.map (·.1)).map fun x => -x by rw [List.map_map]; rfl, sv_neg]; rfl
/-- All digits of a size: their value, and their limits. -/
theorem raw_val (s : Bool) (N b m : Nat) (hb1 : 2 ≤ b) (hb2 : b ≤ 30) (hN : N < 2 ^ (64 * m)) : sv ((2 ^ b : Nat) : Int) (rawD (2 ^ (b - 1) : Nat) s N b m) = (if s then -(N : Int) else N) ∧ Bal ((2 ^ (b - 1) : Nat) : Int) (rawD (2 ^ (b - 1) : Nat) s N b m) := by
  obtain ⟨h, hh⟩ : ∃ h : Nat, h = 2 ^ (b - 1) := ⟨_, rfl⟩
  have hP : 2 ^ b = 2 * h := by rw [hh, ← Nat.pow_succ', show (b - 1).succ = b by omega]
  have h2 : 2 ≤ h := by rw [hh]; exact Nat.le_trans (by decide) (Nat.pow_le_pow_right (show 0 < 2 by decide) (show 1 ≤ b - 1 by omega))
  have hPi : ((2 ^ b : Nat) : Int) = 2 * (h : Int) := by rw [hP]; simp
  have hcb := chk_bound N b hb2 (chkM m b) s
  have hM : 2 ^ (64 * m) ≤ 2 ^ (b * chkM m b) := by
    refine Nat.pow_le_pow_right (by decide) ?_
    rcases Nat.lt_or_ge (b * chkM m b) (64 * m) with h' | h'
    · exact absurd ((chkM_lt m b (chkM m b) (by omega)).2 h') (Nat.lt_irrefl _)
    · exact h'
  have hv := sgn_val ((2 ^ b : Nat) : Int) s (chks N b (chkM m b))
  rw [chks_val N b hb2, Nat.mod_eq_of_lt (Nat.lt_of_lt_of_le hN hM)] at hv
  rw [hPi] at hcb hv
  have hput := put_val (h : Int) (by omega) ((chks N b (chkM m b)).map (sgnC s)) ([], 0) hcb (fun x hx => by cases hx) (by decide) (by decide)
  have hcar := digS_carry (h : Int) s (chks N b (chkM m b))
  have e : ((chks N b (chkM m b)).map (sgnC s)).foldl (putL h) ([], 0) = digS h s (chks N b (chkM m b)) := rfl
  rw [e, hv] at hput
  rw [← hh, hPi]
  unfold rawD
  generalize digS (h : Int) s (chks N b (chkM m b)) = r at *
  obtain ⟨p1, p2⟩ := hput
  have p3 : sv (2 * (h : Int)) r.1 + (2 * (h : Int)) ^ r.1.length * r.2 = if s then -(N : Int) else N := by
    rw [p2]; simp [sv]
  by_cases hc : r.2 = 0
  · rw [if_pos hc]
    refine ⟨?_, p1⟩
    rw [hc, Int.mul_zero, Int.add_zero] at p3
    exact p3
  · rw [if_neg hc]
    refine ⟨by rw [sv_snoc]; exact p3, fun x hx => ?_⟩
    rcases List.mem_append.1 hx with h' | h'
    · exact p1 x h'
    · simp at h'; subst h'; omega
theorem trim_nil_sv (P : Int) : ∀ l : List Int, sv P (trimZ l) = sv P l
  | [] => rfl
  | x :: l => by
    have ih := trim_nil_sv P l
    unfold trimZ
    split
    · rename_i h
      rw [h] at ih
      have ih' : sv P l = 0 := ih.symm
      split
      · rename_i h0; simp [sv, ih', h0]
      · simp [sv, ih']
    · rename_i y t h
      rw [h] at ih
      show x + P * sv P (y :: t) = x + P * sv P l
      rw [ih]
theorem trim_mem : ∀ (l : List Int) (x : Int), x ∈ trimZ l → x ∈ l
  | [], x, hx => by cases hx
  | y :: l, x, hx => by
    have ih := trim_mem l x
    unfold trimZ at hx
    split at hx
    · split at hx
      · cases hx
      · simp at hx; subst hx; exact List.mem_cons_self ..
    · rename_i z t h
      rw [h] at ih
      rcases List.mem_cons.1 hx with rfl | h'
      · exact List.mem_cons_self ..
      · exact List.mem_cons_of_mem _ (ih h')
theorem trim_last : ∀ l : List Int, (trimZ l).getLast? ≠ some 0
  | [] => by simp [trimZ]
  | x :: l => by
    have ih := trim_last l
    unfold trimZ
    split
    · split
      · simp
      · rename_i h0; simpa using h0
    · rename_i y t h
      rw [h] at ih
      rw [List.getLast?_cons_cons]
      exact ih
theorem trim_eq_nil (P : Int) (h : Int) (hP : P = 2 * h) (hh : 1 ≤ h) : ∀ l : List Int, Bal h l → sv P l = 0 → trimZ l = []
  | [], _, _ => rfl
  | x :: l, hb, h0 => by
    have hx := hb x (List.mem_cons_self ..)
    have e : x + P * sv P l = 0 := h0
    generalize hS : sv P l = S at *
    have hS0 : S = 0 := by
      rcases Int.lt_trichotomy S 0 with h' | h' | h'
      · have := Int.mul_le_mul_of_nonneg_left (show S ≤ -1 by omega) (show 0 ≤ P by omega)
        omega
      · exact h'
      · have := Int.mul_le_mul_of_nonneg_left (show 1 ≤ S by omega) (show 0 ≤ P by omega)
        omega
    subst hS0
    have hx0 : x = 0 := by rw [Int.mul_zero] at e; omega
    have ih := trim_eq_nil P h hP hh l (fun y hy => hb y (List.mem_cons_of_mem _ hy)) hS
    unfold trimZ
    rw [ih, hx0]
    rfl
/-- Digits within limits are the only ones (but for noughts on top). -/
theorem trim_unique (P : Int) (h : Int) (hP : P = 2 * h) (hh : 1 ≤ h) : ∀ l l' : List Int, Bal h l → Bal h l' → sv P l = sv P l' → trimZ l = trimZ l'
  | [], l', _, hb', e => by rw [trim_eq_nil P h hP hh l' hb' e.symm]; rfl
  | x :: l, [], hb, _, e => by rw [trim_eq_nil P h hP hh (x :: l) hb e]; rfl
  | x :: l, y :: l', hb, hb', e => by
    have hx := hb x (List.mem_cons_self ..)
    have hy := hb' y (List.mem_cons_self ..)
    have e1 : x + P * sv P l = y + P * sv P l' := e
    have hS : sv P l = sv P l' := by
      generalize sv P l = S at *
      generalize sv P l' = S' at *
      rcases Int.lt_trichotomy (S - S') 0 with h' | h' | h'
      · have := Int.mul_le_mul_of_nonneg_left (show S - S' ≤ -1 by omega) (show 0 ≤ P by omega)
        rw [Int.mul_sub] at this
        omega
      · omega
      · have := Int.mul_le_mul_of_nonneg_left (show 1 ≤ S - S' by omega) (show 0 ≤ P by omega)
        rw [Int.mul_sub] at this
        omega
    rw [hS] at e1
    have hxy : x = y := by omega
    have ih := trim_unique P h hP hh l l' (fun z hz => hb z (List.mem_cons_of_mem _ hz)) (fun z hz => hb' z (List.mem_cons_of_mem _ hz)) hS
    unfold trimZ
    rw [ih, hxy]
/-- What is above 0 and what is below. -/
theorem up_dn (b : Nat) : ∀ l : List Int, (upN b l : Int) - (dnN b l : Int) = sv ((2 ^ b : Nat) : Int) l
  | [] => by simp [upN, dnN, Nt.sumP, sv]
  | d :: l => by
    have ih := up_dn b l
    unfold upN dnN at ih ⊢
    simp only [Nt.sumP, sv]
    rw [← ih, Int.mul_sub]
    simp only [Int.natCast_add, Int.natCast_mul]
    have : ((Nt.pos false d : Nat) : Int) - ((Nt.pos true d : Nat) : Int) = d := by unfold Nt.pos; simp; omega
    omega
end Go.Proofs.Ytclnmheplecknaa

namespace Go.Proofs.Ytclnmheplecknaa
theorem whole_of {b : Nat} {l : List Int} {V : Int} (hb1 : 2 ≤ b) (hb2 : b ≤ 30) (hV : sv ((2 ^ b : Nat) : Int) l = V) (hlen : (Nt.dg 18446744073709551616 V.natAbs).length ≤ 4096) : wE (b : Int) l = 0 ∧ wS (b : Int) l = decide (V < 0) ∧ wL (b : Int) l = Nt.dg 18446744073709551616 V.natAbs := by
  have h := up_dn b l
  rw [hV] at h
  have hm : mgN b l = V.natAbs := by unfold mgN; omega
  have hL : mgL b l = Nt.dg 18446744073709551616 V.natAbs := by unfold mgL; rw [hm]
  have hE : wE (b : Int) l = 0 := by
    unfold wE
    rw [if_pos (by omega), Int.toNat_natCast, hL, if_pos hlen]
  refine ⟨hE, ?_, ?_⟩
  · unfold wS
    rw [if_pos hE, Int.toNat_natCast]
    exact decide_eq_decide.2 (by omega)
  · unfold wL
    rw [if_pos hE, Int.toNat_natCast, hL]
theorem right_dg {s : Bool} {l : List Int} (hd : Nt.Dig 18446744073709551616 l) (hr : rightB s l = true) : l = Nt.dg 18446744073709551616 (Nt.val 18446744073709551616 l) ∧ l.length ≤ 4096 ∧ (s = true → Nt.val 18446744073709551616 l ≠ 0) := by
  unfold rightB at hr
  by_cases h0 : l.length = 0
  · rw [if_pos h0] at hr
    obtain rfl := List.eq_nil_of_length_eq_zero h0
    refine ⟨by rw [show Nt.val 18446744073709551616 [] = 0 from rfl, Nt.dg_zero], Nat.zero_le _, fun hs => ?_⟩
    rw [hs] at hr; cases hr
  · rw [if_neg h0] at hr
    simp only [Bool.and_eq_true, decide_eq_true_eq] at hr
    have hne : l ≠ [] := fun h => h0 (by rw [h]; rfl)
    have hlast : l.getLast? ≠ some 0 := by
      rw [List.getLast?_eq_getElem?]
      intro h
      rw [h] at hr
      simp at hr
    have hdg := Nt.dg_val 18446744073709551616 (by decide) l hd (.inr hlast)
    refine ⟨hdg, hr.1, fun _ hv => ?_⟩
    rw [hv, Nt.dg_zero] at hdg
    exact hne hdg
theorem back_one {s : Bool} {mag : List Int} {b : Nat} (hd : Nt.Dig 18446744073709551616 mag) (hr : rightB s mag = true) (hb1 : 2 ≤ b) (hb2 : b ≤ 30) :
    dE s mag b = 0 ∧ (dT s mag b).getLast? ≠ some 0 ∧ (dT s mag b).length ≤ 64 * mag.length / b + 2 ∧ Bal ((2 ^ (b - 1) : Nat) : Int) (dT s mag b) ∧ wE b (dT s mag b) = 0 ∧ wS b (dT s mag b) = s ∧ wL b (dT s mag b) = mag := by
  obtain ⟨g1, g2, g3⟩ := right_dg hd hr
  have hc : rightB s mag = true ∧ 2 ≤ (b : Int) ∧ (b : Int) ≤ 30 := ⟨hr, by omega, by omega⟩
  have hT : dT s mag b = trimZ (rawD (2 ^ (b - 1) : Nat) s (Nt.val 18446744073709551616 mag) b mag.length) := by
    unfold dT
    rw [if_pos hc, Int.toNat_natCast]
    rfl
  have hN : Nt.val 18446744073709551616 mag < 2 ^ (64 * mag.length) := by
    have := Nt.val_lt 18446744073709551616 (by decide) mag hd
    rw [Nat.pow_mul]
    exact this
  obtain ⟨r1, r2⟩ := raw_val s _ b mag.length hb1 hb2 hN
  have hval : sv ((2 ^ b : Nat) : Int) (dT s mag b) = if s then -((Nt.val 18446744073709551616 mag : Nat) : Int) else (Nt.val 18446744073709551616 mag : Nat) := by rw [hT, trim_nil_sv]; exact r1
  generalize hNN : Nt.val 18446744073709551616 mag = N at *
  have hab : (if s then -(N : Int) else (N : Int)).natAbs = N := by split <;> omega
  have hw := whole_of hb1 hb2 hval (by rw [hab, ← g1]; exact g2)
  rw [hab, ← g1] at hw
  refine ⟨by unfold dE; rw [if_pos hc], by rw [hT]; exact trim_last _, ?_, ?_, hw.1, ?_, hw.2.2⟩
  · rw [hT]
    have h1 := trimZ_len (rawD (2 ^ (b - 1) : Nat) s N b mag.length)
    have h2 := digS_raw_len (2 ^ (b - 1) : Nat) s N b mag.length
    have h3 : chkM mag.length b ≤ 64 * mag.length / b + 1 := by
      unfold chkM
      refine Nat.le_trans (Nat.div_le_div_right (show 64 * mag.length + b - 1 ≤ 64 * mag.length + b by omega)) ?_
      rw [Nat.add_div_right _ (by omega)]
      exact Nat.le_refl _
    generalize 64 * mag.length / b = q at *
    omega
  · rw [hT]
    exact fun x hx => r2 x (trim_mem _ x hx)
  · rw [hw.2.1]
    cases hs : s
    · simp
    · have := g3 hs
      simp
      omega
theorem two_pow_lt (a c : Nat) (h : a < c) : 2 ^ a < 2 ^ c := Nat.pow_lt_pow_right (by decide) h
theorem row_small {b : Nat} {r : List Int} (hb2 : b ≤ 30) (hr : ∀ x, x ∈ r → -1073741824 ≤ x ∧ x ≤ 1073741824) (hb1 : 2 ≤ b) (K : Nat) (hK : 30 + 30 * r.length < 64 * K) : (Nt.dg 18446744073709551616 (sv ((2 ^ b : Nat) : Int) r).natAbs).length ≤ K := by
  refine Nt.dg_len _ (by decide) K _ ?_
  have hP : 2 ≤ 2 ^ b := Nat.le_trans (by decide) (Nat.pow_le_pow_right (show 0 < 2 by decide) (show 1 ≤ b by omega))
  have h := up_dn b r
  have h1 := Nt.sumP_le (2 ^ b) 1073741824 hP (Nt.pos false) r (fun x hx => by have := hr x hx; unfold Nt.pos; simp; omega)
  have h2 := Nt.sumP_le (2 ^ b) 1073741824 hP (Nt.pos true) r (fun x hx => by have := hr x hx; unfold Nt.pos; simp; omega)
  have h3 : 1073741824 * (2 ^ b) ^ r.length ≤ 2 ^ (30 + 30 * r.length) := by
    rw [Nat.pow_add, ← Nat.pow_mul]
    exact Nat.mul_le_mul (by decide) (Nat.pow_le_pow_right (by decide) (Nat.mul_le_mul_right _ hb2))
  have h4 : 2 ^ (30 + 30 * r.length) < 18446744073709551616 ^ K := by
    rw [show (18446744073709551616 : Nat) = 2 ^ 64 by decide, ← Nat.pow_mul]
    exact two_pow_lt _ _ hK
  unfold upN dnN at h
  generalize 18446744073709551616 ^ K = Q at *
  generalize 2 ^ (30 + 30 * r.length) = Q2 at *
  generalize 1073741824 * (2 ^ b) ^ r.length = Q3 at *
  omega
theorem back_two {r : List Int} {b : Nat} (hb1 : 2 ≤ b) (hb2 : b ≤ 30) (hlen : r.length ≤ 2000) (hbal : Bal ((2 ^ (b - 1) : Nat) : Int) r) :
    wE b r = 0 ∧ Nt.Dig 18446744073709551616 (wL b r) ∧ dE (wS b r) (wL b r) b = 0 ∧ dT (wS b r) (wL b r) b = trimZ r ∧ (wL b r).length ≤ 4096 := by
  obtain ⟨h, hh⟩ : ∃ h : Nat, h = 2 ^ (b - 1) := ⟨_, rfl⟩
  have hP : 2 ^ b = 2 * h := by rw [hh, ← Nat.pow_succ', show (b - 1).succ = b by omega]
  have h2 : 2 ≤ h := by rw [hh]; exact Nat.le_trans (by decide) (Nat.pow_le_pow_right (show 0 < 2 by decide) (show 1 ≤ b - 1 by omega))
  have h30 : h ≤ 1073741824 := by
    rw [hh]
    have : 2 ^ (b - 1) ≤ 2 ^ 30 := Nat.pow_le_pow_right (by decide) (by omega)
    have e : (2 : Nat) ^ 30 = 1073741824 := by decide
    omega
  have hs := row_small hb2 (fun x hx => by have := hbal x hx; rw [← hh] at this; omega) hb1 4096 (by omega)
  obtain ⟨V, hV⟩ : ∃ V, V = sv ((2 ^ b : Nat) : Int) r := ⟨_, rfl⟩
  rw [← hV] at hs
  obtain ⟨e1, e2, e3⟩ := whole_of hb1 hb2 hV.symm hs
  obtain ⟨L, hL⟩ : ∃ L, L = Nt.dg 18446744073709551616 V.natAbs := ⟨_, rfl⟩
  have hdig : Nt.Dig 18446744073709551616 L := by rw [hL]; exact Nt.dig_dg _ (by decide) _
  have hval : Nt.val 18446744073709551616 L = V.natAbs := by rw [hL]; exact Nt.val_dg _ (by decide) _
  rw [← hL] at e3 hs
  have hright : rightB (decide (V < 0)) L = true := by
    unfold rightB
    by_cases h0 : V = 0
    · subst h0
      have : L = [] := by rw [hL]; exact Nt.dg_zero _
      rw [this]; rfl
    · obtain ⟨t, m, k1, k2, k3, _⟩ := dg_top 18446744073709551616 (by decide) V.natAbs (by omega)
      rw [← hL] at k1 k2
      rw [if_neg (by omega), k1, Nat.add_sub_cancel, k2]
      simp only [Option.getD_some, Bool.and_eq_true, decide_eq_true_eq]
      refine ⟨by omega, ?_⟩
      simp
      omega
  rw [e2, e3]
  have hc : rightB (decide (V < 0)) L = true ∧ 2 ≤ (b : Int) ∧ (b : Int) ≤ 30 := ⟨hright, by omega, by omega⟩
  refine ⟨e1, hdig, by unfold dE; rw [if_pos hc], ?_, hs⟩
  have hT : dT (decide (V < 0)) L b = trimZ (rawD (2 ^ (b - 1) : Nat) (decide (V < 0)) (Nt.val 18446744073709551616 L) b L.length) := by
    unfold dT
    rw [if_pos hc, Int.toNat_natCast]
    rfl
  have hN : Nt.val 18446744073709551616 L < 2 ^ (64 * L.length) := by
    have := Nt.val_lt 18446744073709551616 (by decide) L hdig
    rw [Nat.pow_mul]
    exact this
  obtain ⟨r1, r2⟩ := raw_val (decide (V < 0)) _ b L.length hb1 hb2 hN
  rw [hT]
  refine trim_unique ((2 ^ b : Nat) : Int) ((2 ^ (b - 1) : Nat) : Int) (by rw [hP, ← hh]; simp) (by rw [← hh]; omega) _ _ r2 hbal ?_
  rw [r1, ← hV, hval]
  by_cases hneg : V < 0
  · simp [hneg]; omega
  · simp [hneg]; omega
/-- One more: the noughts on top begin anew, or all stays. -/
theorem trim_snoc : ∀ (l : List Int) (x : Int), trimZ (l ++ [x]) = if x = 0 then trimZ l else l ++ [x]
  | [], x => by
    by_cases h : x = 0
    · simp [trimZ, h]
    · simp [trimZ, h]
  | y :: l, x => by
    have ih := trim_snoc l x
    rw [List.cons_append, trimZ, ih]
    by_cases h : x = 0
    · rw [if_pos h, if_pos h, trimZ]
    · rw [if_neg h, if_neg h]
      cases l <;> rfl
end Go.Proofs.Ytclnmheplecknaa

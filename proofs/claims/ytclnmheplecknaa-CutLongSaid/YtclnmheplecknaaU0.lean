/-
  The row of CutLong: for every input the call answers true, and every argument reads behind it as before. No condition.
  Own rows of i64; the walk of CutLong.
  Walk: CutWholes.
-/
import Derived.Test.YtclnmheplecknaaW18
import Derived.Test.YtclnmheplecknaaRows
import Derived.WalkKit
import Derived.ProofKit
import Derived.OpenShut
import Derived.Laws.Cover2
set_option linter.unusedVariables false
set_option linter.unusedSimpArgs false
namespace Go.Proofs.Ytclnmheplecknaa
open Go.RowKit
theorem dg_len_le (b : Int) (l : List Int) : (wL b l).length ≤ 1000000000 := by
  unfold wL
  split
  · rename_i h
    unfold wE at h
    split at h
    · split at h
      · omega
      · cases h
    · cases h
  · exact Nat.zero_le _
set_option maxRecDepth 400000 in
set_option maxHeartbeats 4000000 in
theorem cutWholes_walk (w : World) (A : Option Addr) (n c : Nat) (l : List Int) (b : Int) (hs : UL w A n c l ∧ L64 l ∧ c ≤ 9223372036854775807) (wb : (Lit.int .i64 b).wf = true) : Calls Try.prog 4 #[.slice A n c, .int .i64 b] w fun e w' => e = .returned (.bool true) ∧ Below w.heap.size w w' := by
  have HA := Lib.hid (fun w => awake14_any w)
  have hnc := hs.1.2.1
  have hcm := hs.2.2
  by_cases h2000 : n ≤ 2000

  · have HU := Lib.hid (hs.1)
    have H64 : Hid (L64 l) := Lib.hid (hs.2.1)
    have HLL := Lib.hid (fun x (hb : Below w.heap.size w x) => lent_longs A n c l x (by omega) (HU.out.below hb))
    have HCW : Hid (∀ (x : World) g, LentL x g n l → Calls Try.prog 18 #[.slice (some ⟨g, 0, none⟩) n (n + 12), .int .i64 b] x (WPost b l x)) := Lib.hid (fun x g h => cwhole_any (some ⟨g, 0, none⟩) n (n + 12) b l x h.u H64.out (by omega))
    have HRW : Hid (∀ (x : World), Below w.heap.size w x → Calls Try.prog 19 #[.slice A n c, .int .i64 b] x (WPost b l x)) := Lib.hid (fun x h => rwhole_any A n c b l x (HU.out.below h) H64.out (by omega))
    have HKL : Hid (∀ (x : World) g, Below w.heap.size w x → LentL x g n l → Calls Try.prog 21 #[.slice (some ⟨g, 0, none⟩) n (n + 12), .slice A n c] x fun e w' => e = .returned (.bool true) ∧ Below x.heap.size x w') := Lib.hid (fun x g h hl => kept_longs A n c g l x (by omega) hl (HU.out.below h))
    have HK := Lib.hid (dg_len_le b l)
    unfold WPost at HCW HRW
    generalize wS b l = S at *
    generalize wE b l = E at *
    generalize wL b l = M at *
    obtain ⟨K, hK⟩ : ∃ K, K = M.length := ⟨_, rfl⟩
    rw [← hK] at HCW HRW HK
    have hE : (E == E) = true := by simp
    clear hs hK
    go_enter Try.func4, Try.ntmps4
    go_wp2_with fail
    refine (HA.out _).mono ?_
    rintro e w1 ⟨rfl, hb⟩
    have HB1 := Lib.hid hb
    clear hb
    go_wp2_with fail
    refine (HLL.out _ HB1.out).mono ?_
    rintro e w2 ⟨g, rfl, hl, hb⟩
    have HB2 := Lib.hid (HB1.out.trans (hb.mono HB1.out.size))
    have HL2 := Lib.hid hl
    clear hb hl
    go_wp2_with fail
    refine (HCW.out _ g HL2.out).mono ?_
    rintro e w3 ⟨A3, c3, rfl, hu3, hb⟩
    have HB3 := Lib.hid (HB2.out.trans (hb.mono HB2.out.size))
    have HL3 := Lib.hid (HL2.out.below hb)
    have HU3 := Lib.hid hu3
    clear hb hu3
    go_wp2_with fail
    have hba := (Below.refl w3.heap.size w3).alloc (Nat.le_refl _) (.cells #[.bool S, .slice A3 K c3] 24)
    have HBA := Lib.hid (HB3.out.trans (hba.mono HB3.out.size))
    have HBA3 := Lib.hid hba
    refine (HRW.out _ HBA.out).mono ?_
    rintro e w4 ⟨A4, c4, rfl, hu4, hb⟩
    have d0 : w4.cell? ⟨w3.heap.size, 0, none⟩ = some (.bool S) := (hb.cell (p := ⟨w3.heap.size, 0, none⟩) (by simp)).trans (by simp)
    have d1 : w4.cell? ⟨w3.heap.size, 1, none⟩ = some (.slice A3 K c3) := (hb.cell (p := ⟨w3.heap.size, 1, none⟩) (by simp)).trans (by simp)
    have HB34 := Lib.hid (HBA3.out.trans (hb.mono HBA3.out.size))
    have HB4 := Lib.hid (HB3.out.trans (HB34.out.mono HB3.out.size))
    have hlt34 : w3.heap.size < w4.heap.size := by have := hb.size; simp at this; omega
    have HU34 := Lib.hid (HU3.out.below HB34.out)
    have HL4 := Lib.hid (HL3.out.below HB34.out)
    have HU4 := Lib.hid hu4
    clear hb hu4 hba HBA3
    go_wp2_with fail
    have hba := (Below.refl w4.heap.size w4).alloc (Nat.le_refl _) (.cells #[.bool S, .slice A4 K c4] 24)
    refine (same_int S A3 K c3 A4 c4 M _ HK.out (HU34.out.below hba) (HU4.out.below hba)).mono ?_
    rintro e w5 ⟨rfl, hb⟩
    have HB45 := Lib.hid (hba.trans (hb.mono hba.size))
    have HB5 := Lib.hid (HB4.out.trans (HB45.out.mono HB4.out.size))
    have HL5 := Lib.hid (HL4.out.below HB45.out)
    clear hb hba
    go_wp2_with fail
    refine (HKL.out _ g HB5.out HL5.out).mono ?_
    rintro e w6 ⟨rfl, hb⟩
    have HB6 := Lib.hid (HB5.out.trans (hb.mono HB5.out.size))
    clear hb
    go_wp2
    go_ret
    exact ⟨rfl, HB6.out⟩
  · have HU := Lib.hid (hs.1.take 2000 (by omega))
    have H64 : Hid (L64 (l.take 2000)) := Lib.hid (fun x hx => hs.2.1 x (List.mem_of_mem_take hx))
    have HLL := Lib.hid (fun x (hb : Below w.heap.size w x) => lent_longs A 2000 c (l.take 2000) x (by omega) (HU.out.below hb))
    have HCW : Hid (∀ (x : World) g, LentL x g 2000 (l.take 2000) → Calls Try.prog 18 #[.slice (some ⟨g, 0, none⟩) 2000 (2000 + 12), .int .i64 b] x (WPost b (l.take 2000) x)) := Lib.hid (fun x g h => cwhole_any (some ⟨g, 0, none⟩) 2000 (2000 + 12) b (l.take 2000) x h.u H64.out (by omega))
    have HRW : Hid (∀ (x : World), Below w.heap.size w x → Calls Try.prog 19 #[.slice A 2000 c, .int .i64 b] x (WPost b (l.take 2000) x)) := Lib.hid (fun x h => rwhole_any A 2000 c b (l.take 2000) x (HU.out.below h) H64.out (by omega))
    have HKL : Hid (∀ (x : World) g, Below w.heap.size w x → LentL x g 2000 (l.take 2000) → Calls Try.prog 21 #[.slice (some ⟨g, 0, none⟩) 2000 (2000 + 12), .slice A 2000 c] x fun e w' => e = .returned (.bool true) ∧ Below x.heap.size x w') := Lib.hid (fun x g h hl => kept_longs A 2000 c g (l.take 2000) x (by omega) hl (HU.out.below h))
    have HK := Lib.hid (dg_len_le b (l.take 2000))
    unfold WPost at HCW HRW
    generalize wS b (l.take 2000) = S at *
    generalize wE b (l.take 2000) = E at *
    generalize wL b (l.take 2000) = M at *
    obtain ⟨K, hK⟩ : ∃ K, K = M.length := ⟨_, rfl⟩
    rw [← hK] at HCW HRW HK
    have hE : (E == E) = true := by simp
    clear hs hK
    go_enter Try.func4, Try.ntmps4
    go_wp2_with fail
    refine (HA.out _).mono ?_
    rintro e w1 ⟨rfl, hb⟩
    have HB1 := Lib.hid hb
    clear hb
    go_wp2_with fail
    refine (HLL.out _ HB1.out).mono ?_
    rintro e w2 ⟨g, rfl, hl, hb⟩
    have HB2 := Lib.hid (HB1.out.trans (hb.mono HB1.out.size))
    have HL2 := Lib.hid hl
    clear hb hl
    go_wp2_with fail
    refine (HCW.out _ g HL2.out).mono ?_
    rintro e w3 ⟨A3, c3, rfl, hu3, hb⟩
    have HB3 := Lib.hid (HB2.out.trans (hb.mono HB2.out.size))
    have HL3 := Lib.hid (HL2.out.below hb)
    have HU3 := Lib.hid hu3
    clear hb hu3
    go_wp2_with fail
    have hba := (Below.refl w3.heap.size w3).alloc (Nat.le_refl _) (.cells #[.bool S, .slice A3 K c3] 24)
    have HBA := Lib.hid (HB3.out.trans (hba.mono HB3.out.size))
    have HBA3 := Lib.hid hba
    refine (HRW.out _ HBA.out).mono ?_
    rintro e w4 ⟨A4, c4, rfl, hu4, hb⟩
    have d0 : w4.cell? ⟨w3.heap.size, 0, none⟩ = some (.bool S) := (hb.cell (p := ⟨w3.heap.size, 0, none⟩) (by simp)).trans (by simp)
    have d1 : w4.cell? ⟨w3.heap.size, 1, none⟩ = some (.slice A3 K c3) := (hb.cell (p := ⟨w3.heap.size, 1, none⟩) (by simp)).trans (by simp)
    have HB34 := Lib.hid (HBA3.out.trans (hb.mono HBA3.out.size))
    have HB4 := Lib.hid (HB3.out.trans (HB34.out.mono HB3.out.size))
    have hlt34 : w3.heap.size < w4.heap.size := by have := hb.size; simp at this; omega
    have HU34 := Lib.hid (HU3.out.below HB34.out)
    have HL4 := Lib.hid (HL3.out.below HB34.out)
    have HU4 := Lib.hid hu4
    clear hb hu4 hba HBA3
    go_wp2_with fail
    have hba := (Below.refl w4.heap.size w4).alloc (Nat.le_refl _) (.cells #[.bool S, .slice A4 K c4] 24)
    refine (same_int S A3 K c3 A4 c4 M _ HK.out (HU34.out.below hba) (HU4.out.below hba)).mono ?_
    rintro e w5 ⟨rfl, hb⟩
    have HB45 := Lib.hid (hba.trans (hb.mono hba.size))
    have HB5 := Lib.hid (HB4.out.trans (HB45.out.mono HB4.out.size))
    have HL5 := Lib.hid (HL4.out.below HB45.out)
    clear hb hba
    go_wp2_with fail
    refine (HKL.out _ g HB5.out HL5.out).mono ?_
    rintro e w6 ⟨rfl, hb⟩
    have HB6 := Lib.hid (HB5.out.trans (hb.mono HB5.out.size))
    clear hb
    go_wp2
    go_ret
    exact ⟨rfl, HB6.out⟩
end Go.Proofs.Ytclnmheplecknaa

namespace Go.Proofs.Ytclnmheplecknaa
open Go.RowKit
/-- An own row of i64. -/
def RowL (w : World) (base g n c : Nat) (o : List Int) : Prop := w.ownsRow base 2 1 (.slice (some ⟨g, 0, none⟩) n c) n (o.map (Value.int .i64))
theorem RowL.len {w : World} {base g n c : Nat} {o : List Int} (h : RowL w base g n c o) : o.length = n := by have := h.1; simpa using this
theorem RowL.room {w : World} {base g n c : Nat} {o : List Int} (h : RowL w base g n c o) : n ≤ c := by
  rcases h.2 with ⟨h', _⟩ | ⟨g', cap', cur, h', _, hg, hn, _⟩
  · simp at h'
  · injection h' with _ _ e; omega
theorem RowL.cell {w : World} {base g n c : Nat} {o : List Int} (h : RowL w base g n c o) (j : Nat) (u : Int) (hj : o[j]? = some u) : w.cell? ⟨g, j, none⟩ = some (.int .i64 u) := by
  have hl : j < n := by rw [← h.len]; exact (List.getElem?_eq_some_iff.1 hj).1
  rw [World.ownsRow.cellAt h j (by omega), List.getElem?_map, hj]; rfl
theorem RowL.free {w : World} {base g n c : Nat} {o : List Int} (h : RowL w base g n c o) (j : Nat) : w.frozen? ⟨g, j, none⟩ = false := World.ownsRow.frozenAt h j
theorem RowL.set {w : World} {base g n c : Nat} {o : List Int} (h : RowL w base g n c o) (j : Nat) (v : Int) : RowL (w.setCell ⟨g, j, none⟩ (.int .i64 v)) base g n c (o.set j v) := by
  have := (World.ownsRow.stored h j (.int .i64 v)).1
  rw [← List.map_set] at this
  exact this
theorem RowL.lt {w : World} {base g n c : Nat} {o : List Int} (h : RowL w base g n c o) : base ≤ g ∧ g < w.heap.size := World.ownsRow.lt h g rfl
theorem RowL.u {w : World} {base g n c : Nat} {o : List Int} (h : RowL w base g n c o) : UL w (some ⟨g, 0, none⟩) n c o :=
  ⟨h.len, h.room, (fun e => by cases e), fun k x hk => ⟨_, rfl, h.lt.2, World.ownsRow.cells h rfl k _ (by rw [List.getElem?_map, hk]; rfl)⟩⟩
theorem RowL.made {w : World} {base n m : Nat} (h : w.ownsRow base 2 1 (.slice (some ⟨m, 0, none⟩) n n) n (madeCells (Value.int .i64 0).cells (n * 1)).toList) : RowL w base m n n (List.replicate n 0) := by
  have e : (madeCells (Value.int .i64 0).cells (n * 1)).toList = (List.replicate n (0 : Int)).map (Value.int .i64) := by
    rw [show (Value.int .i64 0).cells = #[Value.int .i64 0] from rfl, toList_madeCells_one, Nat.mul_one, List.map_replicate]
  rw [e] at h; exact h
set_option maxRecDepth 400000 in
set_option maxHeartbeats 4000000 in
theorem cutLong_walk (d below b0 : Int) (wd : (Lit.int .i64 d).wf = true) (wbl : (Lit.int .i64 below).wf = true) (wb : (Lit.int .i64 b0).wf = true) (w : World) : Calls Try.prog 5 #[.int .i64 d, .int .i64 below, .int .i64 b0] w fun e w' => e = .returned (.bool true) ∧ Below w.heap.size w w' := by
  obtain ⟨i0, hi0, hz0, hz1, hz2⟩ := info_parts i64_info
  have hwf := wf_i64 wb
  have HA := Lib.hid (fun w => awake14_any w)
  have HP := Lib.hid (fun w => pick_any b0 29 w (by decide) (by decide) hwf.1 hwf.2)
  have HX : Hid (-64 < Int.tmod d 64 ∧ Int.tmod d 64 < 64) := Lib.hid ⟨Int.lt_tmod_of_pos d (by decide), Int.tmod_lt_of_pos d (by decide)⟩
  have HY : Hid (-2 < Int.tmod below 2 ∧ Int.tmod below 2 < 2) := Lib.hid ⟨Int.lt_tmod_of_pos below (by decide), Int.tmod_lt_of_pos below (by decide)⟩
  obtain ⟨X, hX⟩ : ∃ X, Int.tmod d 64 = X := ⟨_, rfl⟩
  obtain ⟨Y, hY⟩ : ∃ Y, Int.tmod below 2 = Y := ⟨_, rfl⟩
  rw [hX] at HX
  rw [hY] at HY
  clear hwf wb wd wbl
  go_enter Try.func5, Try.ntmps5
  go_wp2_with fail
  refine (HA.out _).mono ?_
  rintro e w1 ⟨rfl, hb⟩
  have HB1 := Lib.hid hb
  clear hb
  go_wp2_with fail
  refine (HP.out _).mono ?_
  rintro e w' ⟨k, rfl, hk, rfl⟩
  obtain ⟨b, hbk⟩ : ∃ b : Nat, b = 2 + k := ⟨_, rfl⟩
  have hbk2 : (2 : Int) + (k : Int) = (b : Int) := by omega
  have hb1 : 2 ≤ b := by omega
  have hb2 : b ≤ 30 := by omega
  obtain ⟨m, hm⟩ : ∃ m, m = 262144 / b := ⟨_, rfl⟩
  have hm1 : m ≤ 131072 := by rw [hm]; exact Nat.le_trans (Nat.div_le_div_left hb1 (by decide)) (by decide)
  have hm2 : 8738 ≤ m := by rw [hm]; exact Nat.le_trans (by decide) (Nat.div_le_div_left hb2 (by omega))
  have hmi : ((262144 : Int)).tdiv (b : Int) = (m : Int) := by rw [hm]; exact Int.ofNat_tdiv ..
  have hmi2 : (262144 : Int) / (b : Int) = (m : Int) := by rw [hm]; simp
  obtain ⟨n, hn⟩ : ∃ n, n = m + 1 := ⟨_, rfl⟩
  have hmn : (m : Int) + 1 = (n : Int) := by omega
  have hnb : n ≤ 131073 := by omega
  have hn0 : 0 < n := by omega
  have hnm : (n : Int) - 1 = (m : Int) := by omega
  have hmlt : m < n := by omega
  have hm0 : m ≠ 0 := by omega
  clear hbk hk hm hn hm1 hm2
  go_wp2_with (refine wpList_make_full _ rfl (.tmp 20) (.tmp 20) 27 rfl w1.heap.size 2 i0 _ 1 Try.underlying27 hi0 hz0 hz1 .i64 .i64 _ _ n rfl rfl rfl rfl (by rw [hz2]; omega) (by simp only [maxLen]; omega) (Nat.le_refl _) ?_; intro w2 hown hg; have hrow := RowL.made hown; have HB12 := Lib.hid ((Below.refl w1.heap.size w1).grown hg (Nat.le_refl _) (fun k hk => by cases hk)); have hc1 := hrow.cell m 0 (by rw [List.getElem?_replicate, if_pos hmlt]); have hf1 := hrow.free m; have HR1 := Lib.hid (hrow.set m X); have hc2 := HR1.out.cell 0 0 (by rw [List.getElem?_set_ne hm0, List.getElem?_replicate, if_pos hn0]); have hf2 := HR1.out.free 0; have HR := Lib.hid (HR1.out.set 0 Y); clear hown hg hrow)
  obtain ⟨g, hgg⟩ : ∃ g, g = w1.heap.size := ⟨_, rfl⟩
  have hb13 := (HB12.out.setCell (p := ⟨w1.heap.size, m, none⟩) (Nat.le_refl _) (.int .i64 X)).setCell (p := ⟨w1.heap.size, 0, none⟩) (Nat.le_refl _) (.int .i64 Y)
  have HB3 := Lib.hid (HB1.out.trans (hb13.mono HB1.out.size))
  clear hb13 hc1 hc2 hf1 hf2 HB12 HR1
  generalize (w2.setCell ⟨w1.heap.size, m, none⟩ (.int .i64 X)).setCell ⟨w1.heap.size, 0, none⟩ (.int .i64 Y) = w3 at *
  rw [← hgg] at HR ⊢
  clear hgg
  have H64 : Hid (L64 (((List.replicate n (0 : Int)).set m X).set 0 Y)) := Lib.hid (fun x hx => by
    have h1 := HX.out
    have h2 := HY.out
    rcases List.mem_or_eq_of_mem_set hx with h | rfl
    · rcases List.mem_or_eq_of_mem_set h with h | rfl
      · rw [(List.mem_replicate.1 h).2]; decide
      · omega
    · omega)
  have HK := Lib.hid (dg_len_le (b : Int) (((List.replicate n (0 : Int)).set m X).set 0 Y))
  have HCW : Hid (∀ x, Below w3.heap.size w3 x → Calls Try.prog 18 #[.slice (some ⟨g, 0, none⟩) n n, .int .i64 b] x (WPost b (((List.replicate n (0 : Int)).set m X).set 0 Y) x)) := Lib.hid (fun x h => cwhole_any _ n n b _ x (HR.out.u.below h) H64.out (by omega))
  have HRW : Hid (∀ x, Below w3.heap.size w3 x → Calls Try.prog 19 #[.slice (some ⟨g, 0, none⟩) n n, .int .i64 b] x (WPost b (((List.replicate n (0 : Int)).set m X).set 0 Y) x)) := Lib.hid (fun x h => rwhole_any _ n n b _ x (HR.out.u.below h) H64.out (by omega))
  unfold WPost at HCW HRW
  generalize wS (b : Int) (((List.replicate n (0 : Int)).set m X).set 0 Y) = S at *
  generalize wE (b : Int) (((List.replicate n (0 : Int)).set m X).set 0 Y) = E at *
  generalize wL (b : Int) (((List.replicate n (0 : Int)).set m X).set 0 Y) = M at *
  obtain ⟨K, hK⟩ : ∃ K, K = M.length := ⟨_, rfl⟩
  rw [← hK] at HCW HRW HK
  have hE : (E == E) = true := by simp
  clear hK H64 HR
  refine (HCW.out _ (Below.refl _ _)).mono ?_
  rintro e w4 ⟨A3, c3, rfl, hu3, hb⟩
  have HB34 := Lib.hid hb
  have HB4 := Lib.hid (HB3.out.trans (hb.mono HB3.out.size))
  have HU3 := Lib.hid hu3
  clear hb hu3
  go_wp2_with fail
  have hba := (Below.refl w4.heap.size w4).alloc (Nat.le_refl _) (.cells #[.bool S, .slice A3 K c3] 24)
  have HBA := Lib.hid (HB34.out.trans (hba.mono HB34.out.size))
  have HBA3 := Lib.hid hba
  refine (HRW.out _ HBA.out).mono ?_
  rintro e w5 ⟨A4, c4, rfl, hu4, hb⟩
  have d0 : w5.cell? ⟨w4.heap.size, 0, none⟩ = some (.bool S) := (hb.cell (p := ⟨w4.heap.size, 0, none⟩) (by simp)).trans (by simp)
  have d1 : w5.cell? ⟨w4.heap.size, 1, none⟩ = some (.slice A3 K c3) := (hb.cell (p := ⟨w4.heap.size, 1, none⟩) (by simp)).trans (by simp)
  have HB45 := Lib.hid (HBA3.out.trans (hb.mono HBA3.out.size))
  have HB5 := Lib.hid (HB4.out.trans (HB45.out.mono HB4.out.size))
  have hlt34 : w4.heap.size < w5.heap.size := by have := hb.size; simp at this; omega
  have HU34 := Lib.hid (HU3.out.below HB45.out)
  have HU4 := Lib.hid hu4
  clear hb hu4 hba HBA3
  go_wp2_with fail
  have hba := (Below.refl w5.heap.size w5).alloc (Nat.le_refl _) (.cells #[.bool S, .slice A4 K c4] 24)
  refine (same_int S A3 K c3 A4 c4 M _ HK.out (HU34.out.below hba) (HU4.out.below hba)).mono ?_
  rintro e w6 ⟨rfl, hb⟩
  have HB6 := Lib.hid (HB5.out.trans ((hba.trans (hb.mono hba.size)).mono HB5.out.size))
  clear hb hba
  go_wp2
  go_ret
  exact ⟨rfl, HB6.out⟩
end Go.Proofs.Ytclnmheplecknaa

namespace Go.Proofs.Ytclnmheplecknaa
open Go.ChangeShapes Go.WideShapes Go.ChangeAt Go.RowKit
namespace cutLong
theorem own : ownKnob Try.prog.godebug = none := by kernel_rfl
set_option maxRecDepth 100000 in
theorem lifted (os : Os) (started : os.Started) (H : Type) (enc : TypeId × Value → H) :
    ReturnsInHanded {} Try.checked os 5 .any (Rows.cutLongSpec.pre6 enc Try.prog Try.f5 Rows.cutLongRow.domain false) (Rows.cutLongSpec.post enc Try.prog Try.f5 false true false false) := by
  refine returnsInHanded_of_change (C := Try.checked) own started (by kernel_rfl) Try.func5
    (ChangeSpec.witness6 (enc := enc) (C := Try.checked) false ⟨#[], #[.int .i64 0, .int .i64 0, .int .i64 0], []⟩ 8 (by kernel_rfl) (by kernel_rfl) (by kernel_rfl) (by kernel_rfl)) ?_
  intro W base args ds gs before hval0 hW hcnd _
  have hval : ∀ (j : Nat) t v, Try.f5.params[j]? = some t → args[j]? = some v → Value.okWide Try.prog W .any base t v := hval0
  have hW' := hW
  obtain ⟨p, q, hA0, hV, rfl, hfz, hnd⟩ := hW
  have hA : DataW.TrodAll enc Try.prog W 0 (fun _ => true) true Try.f5.params.toList args.toList ds p := hA0
  rw [Try.params5] at hA hval
  obtain ⟨v0, vs0, d0, ds0, p0, q0, hargs, rfl, rfl, h0, r0⟩ := trodAll_cons hA
  obtain ⟨v1, vs1, d1, ds1, p1, q1, rfl, rfl, rfl, h1, r1⟩ := trodAll_cons r0
  obtain ⟨v2, vs2, d2, ds2, p2, q2, rfl, rfl, rfl, h2, r2⟩ := trodAll_cons r1
  obtain ⟨rfl, rfl, rfl⟩ := trodAll_nil r2
  obtain rfl : args = #[v0, v1, v2] := by cases args; simp_all
  obtain ⟨rfl, rfl⟩ := trodVars_none hV
  obtain ⟨a0, rfl, rfl, rfl, w0⟩ := open_int Try.underlying2 (hval 0 2 v0 rfl rfl) h0
  obtain ⟨a1, rfl, rfl, rfl, w1⟩ := open_int Try.underlying2 (hval 1 2 v1 rfl rfl) h1
  obtain ⟨a2, rfl, rfl, rfl, w2⟩ := open_int Try.underlying3 (hval 2 3 v2 rfl rfl) h2
  clear hA0 hval0
  simp only [List.append_nil] at hW'
  refine (cutLong_walk a0 a1 a2 w0 w1 w2 W).mono fun e W' ⟨he, hg⟩ => ?_
  subst he
  exact ⟨_, rfl, post_of_below (pa := []) (pv := []) hW' (fun _ _ _ => (trodAll_cons_mk (shut_bool Try.underlying4 _) trodAll_mk0)) (fun sp _ => (trodAll_cons_mk (shut_int Try.underlying2 w0) (trodAll_cons_mk (shut_int Try.underlying2 w1) (trodAll_cons_mk (shut_int Try.underlying3 w2) trodAll_mk0)))) (fun _ _ => rfl) rfl
    hg (ok_one (by kernel_rfl) rfl (okWide_bool_mk Try.underlying4 _))⟩
theorem over : Rows.cutLongRow.holds Try.pinned (OpenSpec.ofChange Rows.cutLongSpec) :=
  OpenClaim.holds_of_wide 5 Try.f5 rfl rfl rfl rfl rfl rfl rfl ⟨rfl, rfl, rfl, rfl, rfl⟩ rfl rfl rfl rfl rfl (by kernel_rfl) Try.func5 (by kernel_rfl)
    (of_decide_eq_true (by kernel_rfl)) (by unfold Func.isWrapper; first | (rw [if_pos (by decide +kernel)]; kernel_rfl) | (rw [if_neg (by decide +kernel)]; exact ⟨rfl, rfl⟩))
    (fun os started H enc _ => lifted os started H enc)
theorem proved : Rows.CutLongSaid :=
  over
end cutLong
theorem cutLong_holds : Rows.CutLongSaid := cutLong.proved
#print axioms cutLong_holds
end Go.Proofs.Ytclnmheplecknaa

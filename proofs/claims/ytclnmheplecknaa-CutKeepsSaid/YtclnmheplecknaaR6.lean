/-
  Walk: cut.Whole tells limbs of its own.
  Walks: rosettekit's bag: rows are put into it, and lie apart.
-/
import Derived.Test.YtclnmheplecknaaR5
set_option linter.unusedVariables false
set_option linter.unusedSimpArgs false
namespace Go.Proofs.Ytclnmheplecknaa
open Go.RowKit
theorem ownsRow_below {w w' : World} {base e size : Nat} {v : Value} {n : Nat} {xs : List Value} (h : w.ownsRow base e size v n xs) (hb : Below w.heap.size w w') : w'.ownsRow base e size v n xs := by
  refine ⟨h.1, ?_⟩
  rcases h.2 with h' | ⟨g', cap', cur, h', hb', hg, rest⟩
  · exact .inl h'
  · exact .inr ⟨g', cap', cur, h', hb', by rw [hb.block g' (Array.getElem?_eq_some_iff.1 hg).1]; exact hg, rest⟩
theorem Rw.own.below {e : TypeId} {K : IntKind} {r : Rw} {w w' : World} {l : List Int} (h : r.own e K w l) (hb : Below w.heap.size w w') : r.own e K w' l := ownsRow_below h hb
theorem KeptR.trans {R : List Rw} {w w1 w2 : World} (h : KeptR R w w1) (h2 : KeptR R w1 w2) : KeptR R w w2 :=
  ⟨h2.os.trans h.os, h2.tape.trans h.tape, h2.output.trans h.output, Nat.le_trans h.size h2.size, fun b hb hR => (h2.block b (Nat.lt_of_lt_of_le hb h.size) hR).trans (h.block b hb hR)⟩
theorem KeptR.of_below {w w1 : World} (R : List Rw) (h : Below w.heap.size w w1) : KeptR R w w1 := ⟨h.os, h.tape, h.output, h.size, fun b hb _ => h.block b hb⟩
theorem KeptR.all {w w1 : World} (h : KeptR [] w w1) : Below w.heap.size w w1 := ⟨h.os, h.tape, h.output, h.size, fun b hb => h.block b hb (fun r hr => by cases hr)⟩
theorem cell1V (w : World) (p : Value) (hp : p.oneCell' = true) (t : TypeId) : ([p] : List Value).length = 1 * 1 ∧ (∀ j u, ([p] : List Value)[j]? = some u → (w.alloc (.cells #[p] t)).cell? ((⟨w.heap.size, 0, none⟩ : Addr).add j) = some u) ∧ (∀ u ∈ ([p] : List Value), u.oneCell' = true) := by
  refine ⟨rfl, fun j u hu => ?_, fun u hu => ?_⟩
  · rw [cell_new]
    rcases j with _ | j
    · simpa using hu
    · simp at hu
  · simp at hu
    subst hu; exact hp
/-- A bag with rows in its f-th field. -/
def BagF (f : Nat) (es : TypeId) (w0 w : World) (g : Nat) (v : Value) (xs : List Value) : Prop :=
  KeptR [] w0 w ∧ w0.heap.size ≤ g ∧ g < w.heap.size ∧ w.cell? ⟨g, f, none⟩ = some v ∧ (∀ j, j < 14 → j ≠ f → w.cell? ⟨g, j, none⟩ = some (.slice none 0 0)) ∧ (∀ j, w.frozen? ⟨g, j, none⟩ = false) ∧
  w.ownsRow 0 es 1 v xs.length xs ∧ ∀ b, v.ownBlock = some b → w0.heap.size ≤ b ∧ b ≠ g
theorem BagF.alloc {f : Nat} {es : TypeId} {w0 w : World} {g : Nat} {v : Value} {xs : List Value} (h : BagF f es w0 w g v xs) (o : Obj) : BagF f es w0 (w.alloc o) g v xs := by
  obtain ⟨h1, h2, h3, h4, h5, h6, h7, h8⟩ := h
  have hb : Below w.heap.size w (w.alloc o) := (Below.refl _ _).alloc (Nat.le_refl _) _
  exact ⟨h1.alloc o, h2, Nat.lt_of_lt_of_le h3 hb.size, (hb.cell (p := ⟨g, f, none⟩) h3).trans h4, fun j hj hf => (hb.cell (p := ⟨g, j, none⟩) h3).trans (h5 j hj hf), fun j => (hb.frozen (p := ⟨g, j, none⟩) h3).trans (h6 j), h7.alloc _, h8⟩
/-- What is appended, and put back. -/
theorem BagF.grow {f : Nat} {es : TypeId} {w0 w w' : World} {g : Nat} {v v' u : Value} {xs : List Value} (h : BagF f es w0 w g v xs) (ho : w'.ownsRow 0 es 1 v' (xs.length + 1) (xs ++ [u])) (hg : w.grownBy w' v.ownBlock) (hl : v'.ownBlock = v.ownBlock ∨ ∀ k, v'.ownBlock = some k → w.heap.size ≤ k) :
    (w'.cell? ⟨g, f, none⟩ = some v ∧ w'.frozen? ⟨g, f, none⟩ = false) ∧ BagF f es w0 (w'.setCell ⟨g, f, none⟩ v') g v' (xs ++ [u]) := by
  obtain ⟨h1, h2, h3, h4, h5, h6, h7, h8⟩ := h
  have hbk : w'.heap[g]? = w.heap[g]? := hg.block g h3 (fun e => (h8 g e.symm).2 rfl)
  have hc : ∀ j, w'.cell? ⟨g, j, none⟩ = w.cell? ⟨g, j, none⟩ := fun j => World.cell?_of_block (a := ⟨g, j, none⟩) hbk
  have hz : ∀ j, w'.frozen? ⟨g, j, none⟩ = w.frozen? ⟨g, j, none⟩ := fun j => World.frozen?_of_block (a := ⟨g, j, none⟩) hbk
  have hset : w'.grownBy (w'.setCell ⟨g, f, none⟩ v') (some g) := grownBy_cell _ _ _ _
  have hv8 : ∀ b, v'.ownBlock = some b → w0.heap.size ≤ b ∧ b ≠ g := fun b hb => by
    rcases hl with h | h
    · exact h8 b (h.symm.trans hb)
    · have := h b hb
      have := h1.size
      omega
  refine ⟨⟨(hc f).trans h4, (hz f).trans (h6 f)⟩, (h1.grown hg (fun b hb => .inr (h8 b hb).1)).grown hset (fun b hb => .inr (by cases hb; exact h2)), h2, Nat.lt_of_lt_of_le h3 (Nat.le_trans hg.size hset.size), World.cell?_setCell_same _ _ _ ((hc f).trans h4), fun j hj hf => ?_, fun j => by simpa using (hz j).trans (h6 j), ?_, hv8⟩
  · rw [World.cell?_setCell_other _ _ _ _ (by intro e; injection e with _ e2; exact hf e2.symm)]
    exact (hc j).trans (h5 j hj hf)
  · rw [List.length_append]
    exact ho.kept hset (by
      cases hb : v'.ownBlock with
      | none => exact .inl rfl
      | some b => exact .inr (by simp [(hv8 b hb).2]))
/-- The cells of a bag while it is looked through. -/
def BagC (f g : Nat) (v : Value) (w : World) : Prop := g < w.heap.size ∧ w.cell? ⟨g, f, none⟩ = some v ∧ ∀ j, j < 14 → j ≠ f → w.cell? ⟨g, j, none⟩ = some (.slice none 0 0)
theorem BagC.kept {f g : Nat} {v : Value} {w w' : World} {R : List Rw} (h : BagC f g v w) (hk : KeptR R w w') (hR : ∀ r ∈ R, r.A ≠ some g) : BagC f g v w' :=
  ⟨Nat.lt_of_lt_of_le h.1 hk.size, (hk.cell (p := ⟨g, f, none⟩) h.1 hR).trans h.2.1, fun j hj hf => (hk.cell (p := ⟨g, j, none⟩) h.1 hR).trans (h.2.2 j hj hf)⟩
/-- The rows that are looked at. -/
def RowsC (e : TypeId) (K : IntKind) (R : List Rw) (h : Nat) (w : World) : Prop :=
  (∀ (j : Nat) (r : Rw), R[j]? = some r → ∃ xs, r.own e K w xs) ∧ (∀ (j : Nat) (r : Rw), R[j]? = some r → w.cell? ⟨h, j, none⟩ = some r.val) ∧ h < w.heap.size
theorem RowsC.below {e : TypeId} {K : IntKind} {R : List Rw} {h : Nat} {w w' : World} (H : RowsC e K R h w) (hb : Below w.heap.size w w') : RowsC e K R h w' :=
  ⟨fun j r hj => by
    obtain ⟨xs, hx⟩ := H.1 j r hj
    exact ⟨xs, hx.below hb⟩, fun j r hj => (hb.cell (p := ⟨h, j, none⟩) H.2.2).trans (H.2.1 j r hj), Nat.lt_of_lt_of_le H.2.2 hb.size⟩
set_option maxRecDepth 400000 in
set_option maxHeartbeats 4000000 in
theorem putLongs_any (w0 w : World) (g : Nat) (v : Value) (xs : List Value) (A : Option Addr) (n c : Nat) (hx : xs.length ≤ 1000) (hB : BagF 2 27 w0 w g v xs) :
    Calls Try.prog 53 #[.pointer (some ⟨g, 0, none⟩), .slice A n c] w fun e w' => e = .returned (.tuple #[]) ∧ ∃ v', BagF 2 27 w0 w' g v' (xs ++ [.slice A n c]) := by
  obtain ⟨j0, hj0, hy0, hy1, hy2⟩ := info_parts info_Longss
  have HB := Lib.hid hB
  obtain ⟨_, _, hlt, hc, _, hfz, _, _⟩ := hB
  have hfz2 := hfz 2
  have HOA := Lib.hid (HB.out.alloc (.cells #[.slice A n c] 27))
  have CELLS := Lib.hid (cell1V w (.slice A n c) rfl 27)
  have HX := Lib.hid hx
  clear hfz hx
  go_enter Try.func53, Try.ntmps53
  go_wp2_with (at_builtin; refine append_keep _ rfl (.tmp 8) (.tmp 10) 47 rfl 27 j0 _ 24 Try.underlying47 hj0 hy0 hy1 hy2 rfl v xs.length xs rfl HOA.out.2.2.2.2.2.2.1 ⟨w.heap.size, 0, none⟩ 1 1 [Value.slice A n c] rfl CELLS.out.1 CELLS.out.2.1 CELLS.out.2.2 (by have := HX.out; simp only [maxLen]; omega) (by have := HX.out; omega) ?_; intro v2 w2 ho hg hl hkp; have HN := Lib.hid (HOA.out.grow ho hg hl); clear ho hg hl hkp; obtain ⟨AV, nV, cV, hv2⟩ : ∃ AV nV cV, v2 = Value.slice AV nV cV := (by obtain ⟨r, h, _⟩ := Rw.of_own HN.out.2.2.2.2.2.2.2.1; exact ⟨_, _, _, h⟩); subst hv2; obtain ⟨hgc, hgf⟩ := HN.out.1)
  refine bodyPost_end (results_none Try.results53 _ _ _) rfl ?_
  exact ⟨rfl, _, HN.out.2⟩
set_option maxRecDepth 400000 in
set_option maxHeartbeats 4000000 in
theorem bagLongs_any (R : List Rw) (g h cm : Nat) (w : World) (hm1 : 0 < R.length) (hm2 : R.length ≤ 100) (hn : ∀ r ∈ R, r.n ≤ 1000000) (hA : Apart R) (hoff : ∀ r ∈ R, r.A ≠ some h) (hgR : ∀ r ∈ R, r.A ≠ some g) (HR : RowsC 2 .i64 R h w) (HC : BagC 2 g (.slice (some ⟨h, 0, none⟩) R.length cm) w) :
    Calls Try.prog 54 #[.pointer (some ⟨g, 0, none⟩)] w fun e w' => e = .returned (.bool true) ∧ KeptR R w w' := by
  have H0 : Hid (RowsC 2 .i64 R h w) := Lib.hid HR
  have B0 : Hid (BagC 2 g (.slice (some ⟨h, 0, none⟩) R.length cm) w) := Lib.hid HC
  have K0 : Hid (KeptR R w w) := Lib.hid (KeptR.refl _ _)
  have HF := Lib.hid (fun x (HR : RowsC 2 .i64 R h x) => flatLongs_own R h cm x hm1 hm2 hn HR.1 hA HR.2.1 HR.2.2 hoff)
  have HGR := Lib.hid hgR
  clear HR HC hm1 hm2 hn hA hoff hgR
  go_enter Try.func54, Try.ntmps54
  have c0 := B0.out.2.2 0 (by decide) (by decide)
  go_wp2_with fail
  refine (flatLimbs_nil w).mono ?_
  rintro e w1 ⟨rfl, hb⟩
  have hk := KeptR.of_below R hb
  have H1 := Lib.hid (H0.out.below hb)
  have B1 := Lib.hid (B0.out.kept hk HGR.out)
  have K1 := Lib.hid (K0.out.trans hk)
  clear hk c0 B0 K0 hb
  have c1 := B1.out.2.2 1 (by decide) (by decide)
  go_wp2_with fail
  refine (flatInts_nil w1).mono ?_
  rintro e w2 ⟨rfl, hb⟩
  have hk := KeptR.of_below R hb
  have H2 := Lib.hid (H1.out.below hb)
  have B2 := Lib.hid (B1.out.kept hk HGR.out)
  have K2 := Lib.hid (K1.out.trans hk)
  clear hk c1 B1 K1 hb
  have c2 := B2.out.2.1
  go_wp2_with fail
  refine (HF.out w2 H2.out).mono ?_
  rintro e w3 ⟨rfl, hk⟩
  have B3 := Lib.hid (B2.out.kept hk HGR.out)
  have K3 := Lib.hid (K2.out.trans hk)
  clear hk c2 B2 K2
  have c3 := B3.out.2.2 3 (by decide) (by decide)
  go_wp2_with fail
  refine (flatTexts_nil w3).mono ?_
  rintro e w4 ⟨rfl, hb⟩
  have hk := KeptR.of_below R hb
  have B4 := Lib.hid (B3.out.kept hk HGR.out)
  have K4 := Lib.hid (K3.out.trans hk)
  clear hk c3 B3 K3 hb
  have c4 := B4.out.2.2 4 (by decide) (by decide)
  go_wp2_with fail
  refine (flatBytes_nil w4).mono ?_
  rintro e w5 ⟨rfl, hb⟩
  have hk := KeptR.of_below R hb
  have B5 := Lib.hid (B4.out.kept hk HGR.out)
  have K5 := Lib.hid (K4.out.trans hk)
  clear hk c4 B4 K4 hb
  have c5 := B5.out.2.2 5 (by decide) (by decide)
  go_wp2_with fail
  refine (flatReals_nil w5).mono ?_
  rintro e w6 ⟨rfl, hb⟩
  have hk := KeptR.of_below R hb
  have B6 := Lib.hid (B5.out.kept hk HGR.out)
  have K6 := Lib.hid (K5.out.trans hk)
  clear hk c5 B5 K5 hb
  have c6 := B6.out.2.2 6 (by decide) (by decide)
  go_wp2_with fail
  refine (flatRows_nil w6).mono ?_
  rintro e w7 ⟨rfl, hb⟩
  have hk := KeptR.of_below R hb
  have B7 := Lib.hid (B6.out.kept hk HGR.out)
  have K7 := Lib.hid (K6.out.trans hk)
  clear hk c6 B6 K6 hb
  have c7 := B7.out.2.2 7 (by decide) (by decide)
  go_wp2_with fail
  refine (flatWholes_nil w7).mono ?_
  rintro e w8 ⟨rfl, hb⟩
  have hk := KeptR.of_below R hb
  have B8 := Lib.hid (B7.out.kept hk HGR.out)
  have K8 := Lib.hid (K7.out.trans hk)
  clear hk c7 B7 K7 hb
  have c8 := B8.out.2.2 8 (by decide) (by decide)
  go_wp2_with fail
  refine (flatDyads_nil w8).mono ?_
  rintro e w9 ⟨rfl, hb⟩
  have hk := KeptR.of_below R hb
  have B9 := Lib.hid (B8.out.kept hk HGR.out)
  have K9 := Lib.hid (K8.out.trans hk)
  clear hk c8 B8 K8 hb
  have c9 := B9.out.2.2 9 (by decide) (by decide)
  go_wp2_with fail
  refine (flatGaps_nil w9).mono ?_
  rintro e w10 ⟨rfl, hb⟩
  have hk := KeptR.of_below R hb
  have B10 := Lib.hid (B9.out.kept hk HGR.out)
  have K10 := Lib.hid (K9.out.trans hk)
  clear hk c9 B9 K9 hb
  have c10 := B10.out.2.2 10 (by decide) (by decide)
  go_wp2_with fail
  refine (flatBoxes_nil w10).mono ?_
  rintro e w11 ⟨rfl, hb⟩
  have hk := KeptR.of_below R hb
  have B11 := Lib.hid (B10.out.kept hk HGR.out)
  have K11 := Lib.hid (K10.out.trans hk)
  clear hk c10 B10 K10 hb
  have c11 := B11.out.2.2 11 (by decide) (by decide)
  go_wp2_with fail
  refine (flatCerts_nil w11).mono ?_
  rintro e w12 ⟨rfl, hb⟩
  have hk := KeptR.of_below R hb
  have B12 := Lib.hid (B11.out.kept hk HGR.out)
  have K12 := Lib.hid (K11.out.trans hk)
  clear hk c11 B11 K11 hb
  have c12 := B12.out.2.2 12 (by decide) (by decide)
  go_wp2_with fail
  refine (flatTerms_nil w12).mono ?_
  rintro e w13 ⟨rfl, hb⟩
  have hk := KeptR.of_below R hb
  have B13 := Lib.hid (B12.out.kept hk HGR.out)
  have K13 := Lib.hid (K12.out.trans hk)
  clear hk c12 B12 K12 hb
  have c13 := B13.out.2.2 13 (by decide) (by decide)
  go_wp2_with fail
  refine (flatHits_nil w13).mono ?_
  rintro e w14 ⟨rfl, hb⟩
  have hk := KeptR.of_below R hb
  have B14 := Lib.hid (B13.out.kept hk HGR.out)
  have K14 := Lib.hid (K13.out.trans hk)
  clear hk c13 B13 K13 hb
  go_wp2
  go_ret
  exact ⟨rfl, K14.out⟩
set_option maxRecDepth 400000 in
set_option maxHeartbeats 4000000 in
theorem apartLongs_any (R : List Rw) (h0 c0 : Nat) (w : World) (hm1 : 0 < R.length) (hm2 : R.length ≤ 100) (hn : ∀ r ∈ R, r.n ≤ 1000000) (hA : Apart R) (HR : RowsC 2 .i64 R h0 w) :
    Calls Try.prog 27 #[.slice (some ⟨h0, 0, none⟩) R.length c0] w fun e w' => e = .returned (.bool true) ∧ KeptR R w w' := by
  have H0 : Hid (RowsC 2 .i64 R h0 w) := Lib.hid HR
  obtain ⟨m, hm⟩ : ∃ m, m = R.length := ⟨_, rfl⟩
  have HM := Lib.hid hm
  have HRB : Hid (∀ r ∈ R, ∀ b, r.A = some b → b < w.heap.size) := Lib.hid (fun r hr b hb => by
    obtain ⟨j, hj⟩ := List.getElem?_of_mem hr
    obtain ⟨xs, hx⟩ := HR.1 j r hj
    exact hx.lt hb)
  have HF := Lib.hid (fun x g h cm hoff hgR (HR : RowsC 2 .i64 R h x) HC => bagLongs_any R g h cm x hm1 hm2 hn hA hoff hgR HR HC)
  have HSTART : Hid (BagF 2 27 w (w.alloc (.cells #[.slice none 0 0, .slice none 0 0, .slice none 0 0, .slice none 0 0, .slice none 0 0, .slice none 0 0, .slice none 0 0, .slice none 0 0, .slice none 0 0, .slice none 0 0, .slice none 0 0, .slice none 0 0, .slice none 0 0, .slice none 0 0] 89)) w.heap.size (.slice none 0 0) []) := Lib.hid (by
    have hcell : ∀ j, j < 14 → (w.alloc (.cells #[.slice none 0 0, .slice none 0 0, .slice none 0 0, .slice none 0 0, .slice none 0 0, .slice none 0 0, .slice none 0 0, .slice none 0 0, .slice none 0 0, .slice none 0 0, .slice none 0 0, .slice none 0 0, .slice none 0 0, .slice none 0 0] 89)).cell? ⟨w.heap.size, j, none⟩ = some (.slice none 0 0) := fun j hj => by
      have h := cell_new w #[Value.slice none 0 0, Value.slice none 0 0, Value.slice none 0 0, Value.slice none 0 0, Value.slice none 0 0, Value.slice none 0 0, Value.slice none 0 0, Value.slice none 0 0, Value.slice none 0 0, Value.slice none 0 0, Value.slice none 0 0, Value.slice none 0 0, Value.slice none 0 0, Value.slice none 0 0] 89 j
      have e : (⟨w.heap.size, 0, none⟩ : Addr).add j = ⟨w.heap.size, j, none⟩ := by unfold Addr.add; split <;> simp_all
      rw [e] at h
      rw [h]
      rcases j with _ | _ | _ | _ | _ | _ | _ | _ | _ | _ | _ | _ | _ | _ | j <;> first | rfl | omega
    exact ⟨(KeptR.refl _ _).alloc _, Nat.le_refl _, by simp, hcell 2 (by decide), fun j hj _ => hcell j hj, fun j => by simp, World.ownsRow_nil _ _ _ _, fun b hb => by simp [Value.ownBlock] at hb⟩)
  rw [← hm]
  have hm1' : 0 < m := by omega
  have hm2' : m ≤ 100 := by omega
  clear HR hm hm1 hm2 hn hA
  go_enter Try.func27, Try.ntmps27
  go_wp2_with fail
  go_loopw [4] (fun kv wr => ∃ (k : Nat) (v : Value), kv = .int .i64 k ∧ k ≤ m ∧ Hid (BagF 2 27 w wr w.heap.size v ((R.take k).map Rw.val))) (fun kv _ => m - (intOf kv).toNat)
  case atStart => exact ⟨0, _, rfl, Nat.zero_le _, HSTART⟩
  case round =>
    clear HSTART
    obtain ⟨k, v, rfl, hk, HB⟩ := hrel
    have HBW := Lib.hid HB.out.1.all
    by_cases hlt : k < m
    · obtain ⟨r, hr⟩ : ∃ r, R[k]? = some r := ⟨_, List.getElem?_eq_getElem (by rw [← HM.out]; exact hlt)⟩
      have hc := (H0.out.below HBW.out).2.1 k r hr
      unfold Rw.val at hc
      obtain ⟨AD, hAD⟩ : ∃ AD, AD = r.A.map (fun g => (⟨g, 0, none⟩ : Addr)) := ⟨_, rfl⟩
      obtain ⟨n, hnn⟩ : ∃ n, n = r.n := ⟨_, rfl⟩
      obtain ⟨c, hcc⟩ : ∃ c, c = r.c := ⟨_, rfl⟩
      have hrv : r.val = .slice AD n c := by unfold Rw.val; rw [← hAD, ← hnn, ← hcc]
      rw [← hAD, ← hnn, ← hcc] at hc
      have HNX : Hid ((R.take (k + 1)).map Rw.val = (R.take k).map Rw.val ++ [.slice AD n c]) := Lib.hid (by rw [List.take_add_one, hr, Option.toList_some, List.map_append, ← hrv]; rfl)
      have HPUT := Lib.hid (putLongs_any w wr w.heap.size v ((R.take k).map Rw.val) AD n c (by rw [List.length_map, List.length_take]; omega) HB.out)
      clear hr hAD hnn hcc hrv
      go_wp2_with (refine HPUT.out.mono ?_; rintro e w' ⟨rfl, HB2⟩; have HN := Lib.hid HB2; clear HB2)
      obtain ⟨v', hB'⟩ := HN.out
      exact ⟨⟨k + 1, v', by go_num, hlt, Lib.hid (by rw [HNX.out]; exact hB')⟩, by simp [intOf]; omega⟩
    · obtain rfl : m = k := by omega
      have hb := HB.out
      rw [List.take_of_length_le (by rw [← HM.out]; exact Nat.le_refl _)] at hb
      obtain ⟨b1, b2, b3, b4, b5, b6, b7, b8⟩ := hb
      rw [List.length_map] at b7
      obtain ⟨h, cm, hv, hhl⟩ : ∃ h cm, v = .slice (some ⟨h, 0, none⟩) R.length cm ∧ h < wr.heap.size := by
        rcases b7.2 with ⟨_, h0⟩ | ⟨h, cap, cur, hv, _⟩
        · rw [← HM.out] at h0; omega
        · exact ⟨h, cap, hv, (World.ownsRow.lt b7 h (by rw [hv]; rfl)).2⟩
      subst hv
      have hb8 := b8 h rfl
      have HRC : RowsC 2 .i64 R h wr := ⟨(H0.out.below HBW.out).1, fun j r hj => by
        have hjl := (List.getElem?_eq_some_iff.1 hj).1
        rw [World.ownsRow.cellAt b7 j (by omega), List.getElem?_map, hj]; rfl, hhl⟩
      have HBC : BagC 2 w.heap.size (.slice (some ⟨h, 0, none⟩) R.length cm) wr := ⟨b3, b4, b5⟩
      have HAP := Lib.hid (HF.out wr w.heap.size h cm (fun r hr e1 => by have := HRB.out r hr h e1; omega) (fun r hr e1 => by have := HRB.out r hr _ e1; omega) HRC HBC)
      have HKP := Lib.hid (KeptR.of_below R HBW.out)
      clear b1 b2 b3 b4 b5 b6 b7 b8 hb8 HRC HBC hhl
      go_wp2_with fail
      refine HAP.out.mono ?_
      rintro e w5 ⟨rfl, hk5⟩
      have HK5 := Lib.hid (HKP.out.trans hk5)
      clear hk5
      go_wp2
      go_ret
      exact ⟨rfl, HK5.out⟩
set_option maxRecDepth 400000 in
set_option maxHeartbeats 4000000 in
theorem putLimbs_any (w0 w : World) (g : Nat) (v : Value) (xs : List Value) (A : Option Addr) (n c : Nat) (hx : xs.length ≤ 1000) (hB : BagF 0 22 w0 w g v xs) :
    Calls Try.prog 55 #[.pointer (some ⟨g, 0, none⟩), .slice A n c] w fun e w' => e = .returned (.tuple #[]) ∧ ∃ v', BagF 0 22 w0 w' g v' (xs ++ [.slice A n c]) := by
  obtain ⟨j0, hj0, hy0, hy1, hy2⟩ := info_parts info_Limbss
  have HB := Lib.hid hB
  obtain ⟨_, _, hlt, hc, _, hfz, _, _⟩ := hB
  have hfz2 := hfz 0
  have HOA := Lib.hid (HB.out.alloc (.cells #[.slice A n c] 22))
  have CELLS := Lib.hid (cell1V w (.slice A n c) rfl 22)
  have HX := Lib.hid hx
  clear hfz hx
  go_enter Try.func55, Try.ntmps55
  go_wp2_with (at_builtin; refine append_keep _ rfl (.tmp 8) (.tmp 10) 49 rfl 22 j0 _ 24 Try.underlying49 hj0 hy0 hy1 hy2 rfl v xs.length xs rfl HOA.out.2.2.2.2.2.2.1 ⟨w.heap.size, 0, none⟩ 1 1 [Value.slice A n c] rfl CELLS.out.1 CELLS.out.2.1 CELLS.out.2.2 (by have := HX.out; simp only [maxLen]; omega) (by have := HX.out; omega) ?_; intro v2 w2 ho hg hl hkp; have HN := Lib.hid (HOA.out.grow ho hg hl); clear ho hg hl hkp; obtain ⟨AV, nV, cV, hv2⟩ : ∃ AV nV cV, v2 = Value.slice AV nV cV := (by obtain ⟨r, h, _⟩ := Rw.of_own HN.out.2.2.2.2.2.2.2.1; exact ⟨_, _, _, h⟩); subst hv2; obtain ⟨hgc, hgf⟩ := HN.out.1)
  refine bodyPost_end (results_none Try.results55 _ _ _) rfl ?_
  exact ⟨rfl, _, HN.out.2⟩
set_option maxRecDepth 400000 in
set_option maxHeartbeats 4000000 in
theorem bagLimbs_any (R : List Rw) (g h cm : Nat) (w : World) (hm1 : 0 < R.length) (hm2 : R.length ≤ 100) (hn : ∀ r ∈ R, r.n ≤ 1000000) (hA : Apart R) (hoff : ∀ r ∈ R, r.A ≠ some h) (hgR : ∀ r ∈ R, r.A ≠ some g) (HR : RowsC 55 .u64 R h w) (HC : BagC 0 g (.slice (some ⟨h, 0, none⟩) R.length cm) w) :
    Calls Try.prog 54 #[.pointer (some ⟨g, 0, none⟩)] w fun e w' => e = .returned (.bool true) ∧ KeptR R w w' := by
  have H0 : Hid (RowsC 55 .u64 R h w) := Lib.hid HR
  have B0 : Hid (BagC 0 g (.slice (some ⟨h, 0, none⟩) R.length cm) w) := Lib.hid HC
  have K0 : Hid (KeptR R w w) := Lib.hid (KeptR.refl _ _)
  have HF := Lib.hid (fun x (HR : RowsC 55 .u64 R h x) => flatLimbs_own R h cm x hm1 hm2 hn HR.1 hA HR.2.1 HR.2.2 hoff)
  have HGR := Lib.hid hgR
  clear HR HC hm1 hm2 hn hA hoff hgR
  go_enter Try.func54, Try.ntmps54
  have c0 := B0.out.2.1
  go_wp2_with fail
  refine (HF.out w H0.out).mono ?_
  rintro e w1 ⟨rfl, hk⟩
  have B1 := Lib.hid (B0.out.kept hk HGR.out)
  have K1 := Lib.hid (K0.out.trans hk)
  clear hk c0 B0 K0
  have c1 := B1.out.2.2 1 (by decide) (by decide)
  go_wp2_with fail
  refine (flatInts_nil w1).mono ?_
  rintro e w2 ⟨rfl, hb⟩
  have hk := KeptR.of_below R hb
  have B2 := Lib.hid (B1.out.kept hk HGR.out)
  have K2 := Lib.hid (K1.out.trans hk)
  clear hk c1 B1 K1 hb
  have c2 := B2.out.2.2 2 (by decide) (by decide)
  go_wp2_with fail
  refine (flatLongs_nil w2).mono ?_
  rintro e w3 ⟨rfl, hb⟩
  have hk := KeptR.of_below R hb
  have B3 := Lib.hid (B2.out.kept hk HGR.out)
  have K3 := Lib.hid (K2.out.trans hk)
  clear hk c2 B2 K2 hb
  have c3 := B3.out.2.2 3 (by decide) (by decide)
  go_wp2_with fail
  refine (flatTexts_nil w3).mono ?_
  rintro e w4 ⟨rfl, hb⟩
  have hk := KeptR.of_below R hb
  have B4 := Lib.hid (B3.out.kept hk HGR.out)
  have K4 := Lib.hid (K3.out.trans hk)
  clear hk c3 B3 K3 hb
  have c4 := B4.out.2.2 4 (by decide) (by decide)
  go_wp2_with fail
  refine (flatBytes_nil w4).mono ?_
  rintro e w5 ⟨rfl, hb⟩
  have hk := KeptR.of_below R hb
  have B5 := Lib.hid (B4.out.kept hk HGR.out)
  have K5 := Lib.hid (K4.out.trans hk)
  clear hk c4 B4 K4 hb
  have c5 := B5.out.2.2 5 (by decide) (by decide)
  go_wp2_with fail
  refine (flatReals_nil w5).mono ?_
  rintro e w6 ⟨rfl, hb⟩
  have hk := KeptR.of_below R hb
  have B6 := Lib.hid (B5.out.kept hk HGR.out)
  have K6 := Lib.hid (K5.out.trans hk)
  clear hk c5 B5 K5 hb
  have c6 := B6.out.2.2 6 (by decide) (by decide)
  go_wp2_with fail
  refine (flatRows_nil w6).mono ?_
  rintro e w7 ⟨rfl, hb⟩
  have hk := KeptR.of_below R hb
  have B7 := Lib.hid (B6.out.kept hk HGR.out)
  have K7 := Lib.hid (K6.out.trans hk)
  clear hk c6 B6 K6 hb
  have c7 := B7.out.2.2 7 (by decide) (by decide)
  go_wp2_with fail
  refine (flatWholes_nil w7).mono ?_
  rintro e w8 ⟨rfl, hb⟩
  have hk := KeptR.of_below R hb
  have B8 := Lib.hid (B7.out.kept hk HGR.out)
  have K8 := Lib.hid (K7.out.trans hk)
  clear hk c7 B7 K7 hb
  have c8 := B8.out.2.2 8 (by decide) (by decide)
  go_wp2_with fail
  refine (flatDyads_nil w8).mono ?_
  rintro e w9 ⟨rfl, hb⟩
  have hk := KeptR.of_below R hb
  have B9 := Lib.hid (B8.out.kept hk HGR.out)
  have K9 := Lib.hid (K8.out.trans hk)
  clear hk c8 B8 K8 hb
  have c9 := B9.out.2.2 9 (by decide) (by decide)
  go_wp2_with fail
  refine (flatGaps_nil w9).mono ?_
  rintro e w10 ⟨rfl, hb⟩
  have hk := KeptR.of_below R hb
  have B10 := Lib.hid (B9.out.kept hk HGR.out)
  have K10 := Lib.hid (K9.out.trans hk)
  clear hk c9 B9 K9 hb
  have c10 := B10.out.2.2 10 (by decide) (by decide)
  go_wp2_with fail
  refine (flatBoxes_nil w10).mono ?_
  rintro e w11 ⟨rfl, hb⟩
  have hk := KeptR.of_below R hb
  have B11 := Lib.hid (B10.out.kept hk HGR.out)
  have K11 := Lib.hid (K10.out.trans hk)
  clear hk c10 B10 K10 hb
  have c11 := B11.out.2.2 11 (by decide) (by decide)
  go_wp2_with fail
  refine (flatCerts_nil w11).mono ?_
  rintro e w12 ⟨rfl, hb⟩
  have hk := KeptR.of_below R hb
  have B12 := Lib.hid (B11.out.kept hk HGR.out)
  have K12 := Lib.hid (K11.out.trans hk)
  clear hk c11 B11 K11 hb
  have c12 := B12.out.2.2 12 (by decide) (by decide)
  go_wp2_with fail
  refine (flatTerms_nil w12).mono ?_
  rintro e w13 ⟨rfl, hb⟩
  have hk := KeptR.of_below R hb
  have B13 := Lib.hid (B12.out.kept hk HGR.out)
  have K13 := Lib.hid (K12.out.trans hk)
  clear hk c12 B12 K12 hb
  have c13 := B13.out.2.2 13 (by decide) (by decide)
  go_wp2_with fail
  refine (flatHits_nil w13).mono ?_
  rintro e w14 ⟨rfl, hb⟩
  have hk := KeptR.of_below R hb
  have B14 := Lib.hid (B13.out.kept hk HGR.out)
  have K14 := Lib.hid (K13.out.trans hk)
  clear hk c13 B13 K13 hb
  go_wp2
  go_ret
  exact ⟨rfl, K14.out⟩
set_option maxRecDepth 400000 in
set_option maxHeartbeats 4000000 in
theorem apartLimbs_any (R : List Rw) (h0 c0 : Nat) (w : World) (hm1 : 0 < R.length) (hm2 : R.length ≤ 100) (hn : ∀ r ∈ R, r.n ≤ 1000000) (hA : Apart R) (HR : RowsC 55 .u64 R h0 w) :
    Calls Try.prog 28 #[.slice (some ⟨h0, 0, none⟩) R.length c0] w fun e w' => e = .returned (.bool true) ∧ KeptR R w w' := by
  have H0 : Hid (RowsC 55 .u64 R h0 w) := Lib.hid HR
  obtain ⟨m, hm⟩ : ∃ m, m = R.length := ⟨_, rfl⟩
  have HM := Lib.hid hm
  have HRB : Hid (∀ r ∈ R, ∀ b, r.A = some b → b < w.heap.size) := Lib.hid (fun r hr b hb => by
    obtain ⟨j, hj⟩ := List.getElem?_of_mem hr
    obtain ⟨xs, hx⟩ := HR.1 j r hj
    exact hx.lt hb)
  have HF := Lib.hid (fun x g h cm hoff hgR (HR : RowsC 55 .u64 R h x) HC => bagLimbs_any R g h cm x hm1 hm2 hn hA hoff hgR HR HC)
  have HSTART : Hid (BagF 0 22 w (w.alloc (.cells #[.slice none 0 0, .slice none 0 0, .slice none 0 0, .slice none 0 0, .slice none 0 0, .slice none 0 0, .slice none 0 0, .slice none 0 0, .slice none 0 0, .slice none 0 0, .slice none 0 0, .slice none 0 0, .slice none 0 0, .slice none 0 0] 89)) w.heap.size (.slice none 0 0) []) := Lib.hid (by
    have hcell : ∀ j, j < 14 → (w.alloc (.cells #[.slice none 0 0, .slice none 0 0, .slice none 0 0, .slice none 0 0, .slice none 0 0, .slice none 0 0, .slice none 0 0, .slice none 0 0, .slice none 0 0, .slice none 0 0, .slice none 0 0, .slice none 0 0, .slice none 0 0, .slice none 0 0] 89)).cell? ⟨w.heap.size, j, none⟩ = some (.slice none 0 0) := fun j hj => by
      have h := cell_new w #[Value.slice none 0 0, Value.slice none 0 0, Value.slice none 0 0, Value.slice none 0 0, Value.slice none 0 0, Value.slice none 0 0, Value.slice none 0 0, Value.slice none 0 0, Value.slice none 0 0, Value.slice none 0 0, Value.slice none 0 0, Value.slice none 0 0, Value.slice none 0 0, Value.slice none 0 0] 89 j
      have e : (⟨w.heap.size, 0, none⟩ : Addr).add j = ⟨w.heap.size, j, none⟩ := by unfold Addr.add; split <;> simp_all
      rw [e] at h
      rw [h]
      rcases j with _ | _ | _ | _ | _ | _ | _ | _ | _ | _ | _ | _ | _ | _ | j <;> first | rfl | omega
    exact ⟨(KeptR.refl _ _).alloc _, Nat.le_refl _, by simp, hcell 0 (by decide), fun j hj _ => hcell j hj, fun j => by simp, World.ownsRow_nil _ _ _ _, fun b hb => by simp [Value.ownBlock] at hb⟩)
  rw [← hm]
  have hm1' : 0 < m := by omega
  have hm2' : m ≤ 100 := by omega
  clear HR hm hm1 hm2 hn hA
  go_enter Try.func28, Try.ntmps28
  go_wp2_with fail
  go_loopw [4] (fun kv wr => ∃ (k : Nat) (v : Value), kv = .int .i64 k ∧ k ≤ m ∧ Hid (BagF 0 22 w wr w.heap.size v ((R.take k).map Rw.val))) (fun kv _ => m - (intOf kv).toNat)
  case atStart => exact ⟨0, _, rfl, Nat.zero_le _, HSTART⟩
  case round =>
    clear HSTART
    obtain ⟨k, v, rfl, hk, HB⟩ := hrel
    have HBW := Lib.hid HB.out.1.all
    by_cases hlt : k < m
    · obtain ⟨r, hr⟩ : ∃ r, R[k]? = some r := ⟨_, List.getElem?_eq_getElem (by rw [← HM.out]; exact hlt)⟩
      have hc := (H0.out.below HBW.out).2.1 k r hr
      unfold Rw.val at hc
      obtain ⟨AD, hAD⟩ : ∃ AD, AD = r.A.map (fun g => (⟨g, 0, none⟩ : Addr)) := ⟨_, rfl⟩
      obtain ⟨n, hnn⟩ : ∃ n, n = r.n := ⟨_, rfl⟩
      obtain ⟨c, hcc⟩ : ∃ c, c = r.c := ⟨_, rfl⟩
      have hrv : r.val = .slice AD n c := by unfold Rw.val; rw [← hAD, ← hnn, ← hcc]
      rw [← hAD, ← hnn, ← hcc] at hc
      have HNX : Hid ((R.take (k + 1)).map Rw.val = (R.take k).map Rw.val ++ [.slice AD n c]) := Lib.hid (by rw [List.take_add_one, hr, Option.toList_some, List.map_append, ← hrv]; rfl)
      have HPUT := Lib.hid (putLimbs_any w wr w.heap.size v ((R.take k).map Rw.val) AD n c (by rw [List.length_map, List.length_take]; omega) HB.out)
      clear hr hAD hnn hcc hrv
      go_wp2_with (refine HPUT.out.mono ?_; rintro e w' ⟨rfl, HB2⟩; have HN := Lib.hid HB2; clear HB2)
      obtain ⟨v', hB'⟩ := HN.out
      exact ⟨⟨k + 1, v', by go_num, hlt, Lib.hid (by rw [HNX.out]; exact hB')⟩, by simp [intOf]; omega⟩
    · obtain rfl : m = k := by omega
      have hb := HB.out
      rw [List.take_of_length_le (by rw [← HM.out]; exact Nat.le_refl _)] at hb
      obtain ⟨b1, b2, b3, b4, b5, b6, b7, b8⟩ := hb
      rw [List.length_map] at b7
      obtain ⟨h, cm, hv, hhl⟩ : ∃ h cm, v = .slice (some ⟨h, 0, none⟩) R.length cm ∧ h < wr.heap.size := by
        rcases b7.2 with ⟨_, h0⟩ | ⟨h, cap, cur, hv, _⟩
        · rw [← HM.out] at h0; omega
        · exact ⟨h, cap, hv, (World.ownsRow.lt b7 h (by rw [hv]; rfl)).2⟩
      subst hv
      have hb8 := b8 h rfl
      have HRC : RowsC 55 .u64 R h wr := ⟨(H0.out.below HBW.out).1, fun j r hj => by
        have hjl := (List.getElem?_eq_some_iff.1 hj).1
        rw [World.ownsRow.cellAt b7 j (by omega), List.getElem?_map, hj]; rfl, hhl⟩
      have HBC : BagC 0 w.heap.size (.slice (some ⟨h, 0, none⟩) R.length cm) wr := ⟨b3, b4, b5⟩
      have HAP := Lib.hid (HF.out wr w.heap.size h cm (fun r hr e1 => by have := HRB.out r hr h e1; omega) (fun r hr e1 => by have := HRB.out r hr _ e1; omega) HRC HBC)
      have HKP := Lib.hid (KeptR.of_below R HBW.out)
      clear b1 b2 b3 b4 b5 b6 b7 b8 hb8 HRC HBC hhl
      go_wp2_with fail
      refine HAP.out.mono ?_
      rintro e w5 ⟨rfl, hk5⟩
      have HK5 := Lib.hid (HKP.out.trans hk5)
      clear hk5
      go_wp2
      go_ret
      exact ⟨rfl, HK5.out⟩
end Go.Proofs.Ytclnmheplecknaa

namespace Go.Proofs.Ytclnmheplecknaa
open Go.RowKit
def IntO (w w' : World) (v : Value) (s : Bool) (N : Nat) : Prop := ∃ A c, v = .agg #[.bool s, .slice A (Nt.dg 18446744073709551616 N).length c] ∧ w'.ownsRow w.heap.size 55 1 (.slice A (Nt.dg 18446744073709551616 N).length c) (Nt.dg 18446744073709551616 N).length ((Nt.dg 18446744073709551616 N).map (Value.int .u64))
def WholeOwn (b : Nat) (l : List Int) (w : World) (e : Ending) (w' : World) : Prop :=
  ∃ v E, e = .returned (.tuple #[v, .int .i64 E]) ∧ Below w.heap.size w w' ∧
    ((E = 0 ∧ IntO w w' v (decide (upN b l < dnN b l)) (max (upN b l) (dnN b l) - min (upN b l) (dnN b l)) ∧ (Nt.dg 18446744073709551616 (max (upN b l) (dnN b l) - min (upN b l) (dnN b l))).length ≤ 4096) ∨
     (E = 3 ∧ v = .agg #[.bool false, .slice none 0 0] ∧ 4096 < (Nt.dg 18446744073709551616 (max (upN b l) (dnN b l) - min (upN b l) (dnN b l))).length))
set_option maxRecDepth 400000 in
set_option maxHeartbeats 4000000 in
theorem cwhole_ownyes (A : Option Addr) (len c b : Nat) (l : List Int) (w : World) (hu : UL w A len c l) (hl : L64 l) (hlen : len ≤ 1000000) (hb1 : 2 ≤ b) (hb2 : b ≤ 30) :
    Calls Try.prog 18 #[.slice A len c, .int .i64 b] w (WholeOwn b l w) := by
  have HS1 := Lib.hid (fun w (h : UL w A len c l) => spread_any A len c b l false w h hl hlen hb1 hb2)
  have HS2 := Lib.hid (fun w (h : UL w A len c l) => spread_any A len c b l true w h hl hlen hb1 hb2)
  have HU := Lib.hid hu
  have hm := fun w => cmay_any (b : Int) w
  rw [decide_eq_true (by omega)] at hm
  have HM := Lib.hid hm
  have hn : (len * b + 63) / 64 + 2 ≤ 500000 := by have := Nat.mul_le_mul hlen hb2; omega
  obtain ⟨n, hn'⟩ : ∃ n, n = (len * b + 63) / 64 + 2 := ⟨_, rfl⟩
  rw [← hn'] at HS1 HS2 hn
  obtain ⟨X, hX⟩ : ∃ X, X = upN b l := ⟨_, rfl⟩
  obtain ⟨Y, hY⟩ : ∃ Y, Y = dnN b l := ⟨_, rfl⟩
  have HWP : Hid (WholeOwn b l w = fun e w' => ∃ v E, e = .returned (.tuple #[v, .int .i64 E]) ∧ Below w.heap.size w w' ∧
    ((E = 0 ∧ IntO w w' v (decide (X < Y)) (max X Y - min X Y) ∧ (Nt.dg 18446744073709551616 (max X Y - min X Y)).length ≤ 4096) ∨
     (E = 3 ∧ v = .agg #[.bool false, .slice none 0 0] ∧ 4096 < (Nt.dg 18446744073709551616 (max X Y - min X Y)).length))) := Lib.hid (by rw [hX, hY]; rfl)
  unfold upN at hX
  unfold dnN at hY
  rw [← hX] at HS1
  rw [← hY] at HS2
  clear hu hl hm hn' hX hY
  go_enter Try.func18, Try.ntmps18
  go_wp2_with fail
  refine (HM.out _).mono ?_
  rintro e w' ⟨rfl, rfl⟩
  have hb0 := ((Below.refl w.heap.size w).alloc (Nat.le_refl _) (.cells #[.bool false, .slice none 0 0] 24))
  have hc0 := Cell2.new w 24
  generalize w.alloc (.cells #[.bool false, .slice none 0 0] 24) = W0 at hb0 hc0 ⊢
  have HB0 := Lib.hid hb0
  have HC0 := Lib.hid hc0
  clear hb0 hc0
  go_wp2_with fail
  refine (HS1.out _ (HU.out.below HB0.out)).mono ?_
  rintro e w1 ⟨o1, rfl, hr1, hd1, hv1, hb1⟩
  have HB1 := Lib.hid (HB0.out.trans (hb1.mono HB0.out.size))
  have HC1 := Lib.hid (HC0.out.below hb1)
  have hs1 : W0.heap.size < w1.heap.size := (RowC.of hr1).lt.2
  have ht := fun w2 (h : RowC w2 W0.heap.size W0.heap.size n n o1) => ctrim_any W0.heap.size W0.heap.size n n o1 w2 h (by omega) hd1
  rw [hv1] at ht
  have HT1 := Lib.hid (ht w1 hr1)
  have HG0 : Hid (w.heap.size < W0.heap.size) := Lib.hid HC0.out.2.2.2
  clear ht hd1 hv1 hr1 hb1
  go_wp2_with fail
  refine HT1.out.mono ?_
  rintro e w' ⟨rfl, hr1, rfl⟩
  have HR1 := Lib.hid hr1
  clear hr1 HT1
  go_wp2_with fail
  refine (HS2.out _ (HU.out.below HB1.out)).mono ?_
  rintro e w3 ⟨o2, rfl, hr2, hd2, hv2, hb2⟩
  have HB3 := Lib.hid (HB1.out.trans (hb2.mono HB1.out.size))
  have HC3 := Lib.hid (HC1.out.below hb2)
  have HR1' := Lib.hid (HR1.out.below hb2)
  have hs3 : w1.heap.size < w3.heap.size := (RowC.of hr2).lt.2
  have ht := fun w2 (h : RowC w2 w1.heap.size w1.heap.size n n o2) => ctrim_any w1.heap.size w1.heap.size n n o2 w2 h (by omega) hd2
  rw [hv2] at ht
  have HT2 := Lib.hid (ht w3 hr2)
  clear ht hd2 hv2 hr2 hb2
  go_wp2_with fail
  refine HT2.out.mono ?_
  rintro e w' ⟨rfl, hr2, rfl⟩
  have HR2 := Lib.hid hr2
  clear hr2 HT2 HR1 HB1 HC1 HS1 HS2 HM HB0 HC0 HU
  obtain ⟨x, hx⟩ : ∃ x, x = Nt.dg 18446744073709551616 X := ⟨_, rfl⟩
  obtain ⟨y, hy⟩ : ∃ y, y = Nt.dg 18446744073709551616 Y := ⟨_, rfl⟩
  have HH : Hid ((x.length < y.length → X < Y) ∧ (y.length < x.length → Y < X) ∧ (∀ (i : Nat) (p r : Int), x[i]? = some p → y[i]? = some r → x.drop (i + 1) = y.drop (i + 1) → p < r → X < Y) ∧ (∀ (i : Nat) (p r : Int), y[i]? = some p → x[i]? = some r → y.drop (i + 1) = x.drop (i + 1) → p < r → Y < X) ∧ (x = y → X = Y)) := Lib.hid (by
    have hdN := Nt.dig_dg 18446744073709551616 (by decide) X
    have hdM := Nt.dig_dg 18446744073709551616 (by decide) Y
    have vN := Nt.val_dg 18446744073709551616 (by decide) X
    have vM := Nt.val_dg 18446744073709551616 (by decide) Y
    have cmp1 := Nt.val_lt_of 18446744073709551616 (by decide) _ _ hdN hdM
    have cmp2 := Nt.val_lt_of 18446744073709551616 (by decide) _ _ hdM hdN
    rw [vN, vM] at cmp1
    rw [vN, vM] at cmp2
    rw [hx, hy]
    exact ⟨Nt.len_lt _ (by decide) X Y, Nt.len_lt _ (by decide) Y X, cmp1, cmp2, fun e => by rw [← vN, e, vM]⟩)
  rw [← hx] at HR1' ⊢
  rw [← hy] at HR2 ⊢
  have hxn : x.length ≤ n := HR1'.out.room
  have hyn : y.length ≤ n := HR2.out.room
  have HX := Lib.hid hx
  have HY := Lib.hid hy
  obtain ⟨k, hk⟩ : ∃ k, x.length = k := ⟨_, rfl⟩
  obtain ⟨q, hq⟩ : ∃ q, y.length = q := ⟨_, rfl⟩
  rw [hk] at HH hxn HR1' ⊢
  rw [hq] at HH hyn HR2 ⊢
  have HK := Lib.hid hk
  have HQ := Lib.hid hq
  clear hx hy hk hq
  go_upto_block 0 with fail
  go_cut [8, 29] (fun s8 s29 wx => s8 = .bool (decide (X < Y)) ∧ Dr w3 wx)
  case first =>
    have hw : wrap64 ((k : Int) - 1) = (k : Int) - 1 := by unfold wrap64; omega
    rcases Nat.lt_trichotomy k q with h0 | h0 | h0
    · have hne : ¬ k = q := by omega
      have HE := Lib.hid (HH.out.1 h0)
      go_wp2_with fail
      go_loopw [8, 9] (fun v8 v wr => v8 = .bool true ∧ ∃ i : Nat, i ≤ k ∧ v = .int .i64 ((i : Int) - 1) ∧ Dr w3 wr) (fun _ v _ => (intOf v + 1).toNat)
      case atStart => exact ⟨by simp [h0], k, Nat.le_refl _, rfl, Dr.refl _⟩
      case round =>
        obtain ⟨rfl, i, hi, rfl, hdr⟩ := hrel
        have HDW := Lib.hid hdr
        clear hdr
        rcases i with _ | i
        · go_wp2_with fail
          go_meet
          exact ⟨by rw [decide_eq_true HE.out], HDW.out⟩
        · go_wp2_with fail
          go_meet
          exact ⟨by rw [decide_eq_true HE.out], HDW.out⟩
    · have HKQ := Lib.hid h0
      have hkk : decide (k < q) = false := decide_eq_false (by omega)
      have hkq : (k == q) = true := by simpa using h0
      have hkq2 : ((k : Int) == (q : Int)) = true := by simp; omega
      clear h0
      rw [hkk]
      go_wp2_with fail
      go_loopw [8, 9] (fun v8 v wr => v8 = .bool false ∧ ∃ i : Nat, i ≤ k ∧ v = .int .i64 ((i : Int) - 1) ∧ Hid (x.drop i = y.drop i) ∧ Dr w3 wr) (fun _ v _ => (intOf v + 1).toNat)
      case atStart => exact ⟨by first | rfl | simp, k, Nat.le_refl _, rfl, Lib.hid (by rw [List.drop_eq_nil_of_le (Nat.le_of_eq HK.out), List.drop_eq_nil_of_le (by have := HQ.out; have := HKQ.out; omega)]), Dr.refl _⟩
      case round =>
        obtain ⟨rfl, i, hi, rfl, HDR, hdr⟩ := hrel
        have HDW := Lib.hid hdr
        clear hdr
        rcases i with _ | i
        · have HE : Hid (X = Y) := Lib.hid (HH.out.2.2.2.2 (by have := HDR.out; rwa [List.drop_zero, List.drop_zero] at this))
          go_wp2_with fail
          go_meet
          exact ⟨by rw [decide_eq_false (by have := HE.out; omega)], HDW.out⟩
        · obtain ⟨p, hp⟩ : ∃ p, x[i]? = some p := ⟨_, List.getElem?_eq_getElem (by have := HK.out; omega)⟩
          obtain ⟨r, hr⟩ : ∃ r, y[i]? = some r := ⟨_, List.getElem?_eq_getElem (by have := HQ.out; have := HKQ.out; omega)⟩
          have g1 := (HR1'.out.below (HDW.out.below3 _)).cell i p hp
          have g2 := (HR2.out.below (HDW.out.below3 _)).cell i r hr
          have HP := Lib.hid hp
          have HR := Lib.hid hr
          clear hp hr
          have hwi : wrap64 ((i : Int) - 1) = (i : Int) - 1 := by unfold wrap64; omega
          have hik : i < k := by omega
          have hiq : i < q := by have := HKQ.out; omega
          rcases Int.lt_trichotomy p r with hpr | hpr | hpr
          · have e : X < Y := HH.out.2.2.1 i p r HP.out HR.out HDR.out hpr
            have HE := Lib.hid e
            have hpe : (p == r) = false := by simp; omega
            clear e
            go_wp2_with fail
            go_region
            go_wp2_with fail
            go_region
            go_wp2_with fail
            all_goals
              go_meet
              exact ⟨by rw [decide_eq_true HE.out], (HDW.out.trans (Dr.drew _)).trans (Dr.drew _)⟩
          · subst hpr
            have hpp : ¬ p < p := Int.lt_irrefl p
            go_wp2_with fail
            go_region
            go_wp2_with fail
            go_roundw
            case rel =>
              have h1 := (List.getElem?_eq_some_iff.1 HP.out)
              have h2 := (List.getElem?_eq_some_iff.1 HR.out)
              have HDR2 : Hid (x.drop i = y.drop i) := Lib.hid (by rw [List.drop_eq_getElem_cons h1.1, List.drop_eq_getElem_cons h2.1, h1.2, h2.2, HDR.out])
              skip
              exact ⟨rfl, i, by omega, by go_num, HDR2, HDW.out.trans (Dr.drew _)⟩
            case measure => simp [intOf]
          · have e : Y < X := HH.out.2.2.2.1 i r p HR.out HP.out HDR.out.symm hpr
            have HE := Lib.hid e
            have hpe : (p == r) = false := by simp; omega
            have hpl : decide (p < r) = false := decide_eq_false (by omega)
            clear e
            go_wp2_with fail
            go_region
            go_wp2_with fail
            go_region
            go_wp2_with fail
            all_goals
              go_meet
              exact ⟨by rw [decide_eq_false (by have := HE.out; omega)], (HDW.out.trans (Dr.drew _)).trans (Dr.drew _)⟩
    · have hne : ¬ k = q := by omega
      have hnl : ¬ k < q := by omega
      have HE := Lib.hid (HH.out.2.1 h0)
      go_wp2_with fail
      go_loopw [8, 9] (fun v8 v wr => v8 = .bool false ∧ ∃ i : Nat, i ≤ k ∧ v = .int .i64 ((i : Int) - 1) ∧ Dr w3 wr) (fun _ v _ => (intOf v + 1).toNat)
      case atStart => exact ⟨by simp [hnl], k, Nat.le_refl _, rfl, Dr.refl _⟩
      case round =>
        obtain ⟨rfl, i, hi, rfl, hdr⟩ := hrel
        have HDW := Lib.hid hdr
        clear hdr
        rcases i with _ | i
        · go_wp2_with fail
          go_meet
          exact ⟨by rw [decide_eq_false (by have := HE.out; omega)], HDW.out⟩
        · go_wp2_with fail
          go_meet
          exact ⟨by rw [decide_eq_false (by have := HE.out; omega)], HDW.out⟩
  case rest =>
    obtain ⟨rfl, hdr⟩ := hcut
    have HBc := Lib.hid (HB3.out.trans (hdr.below3 _))
    have HCc := Lib.hid (HC3.out.below (hdr.below3 _))
    have HRx := Lib.hid (((HR1'.out.below (hdr.below3 _))).base (base' := w.heap.size) (Nat.le_of_lt HG0.out))
    have HRy := Lib.hid (((HR2.out.below (hdr.below3 _))).base (base' := w.heap.size) (by have := HG0.out; omega))
    have HG1 : Hid (W0.heap.size ≠ w1.heap.size ∧ w.heap.size < w1.heap.size) := Lib.hid (by have := HG0.out; omega)
    clear hdr HR1' HR2 HB3 HC3
    obtain ⟨T, hT⟩ : ∃ T, T = decide (X < Y) := ⟨_, rfl⟩
    rw [← hT]
    have HT := Lib.hid hT
    clear hT
    go_upto_if 62 with fail
    go_cut [6, 7, 62, 63, 64] (fun s6 s7 _ _ _ wx => wx = wc ∧ ∃ gp gr kp kr, s6 = .slice (some ⟨gp, 0, none⟩) kp n ∧ s7 = .slice (some ⟨gr, 0, none⟩) kr n ∧ gp ≠ gr ∧ w.heap.size < gp ∧ kp ≤ n ∧ kr ≤ n ∧ Hid (RowC wc w.heap.size gp kp n (Nt.dg 18446744073709551616 (max X Y))) ∧ Hid (CellsU wc gr (Nt.dg 18446744073709551616 (min X Y))) ∧ Hid ((Nt.dg 18446744073709551616 (min X Y)).length = kr))
    case first =>
      cases T
      · have hle : ¬ X < Y := by have := HT.out; simpa using this.symm
        have HM1 : Hid (max X Y = X) := Lib.hid (Nat.max_eq_left (by omega))
        have HM2 : Hid (min X Y = Y) := Lib.hid (Nat.min_eq_right (by omega))
        clear hle
        go_wp2_with fail
        go_meet
        exact ⟨rfl, _, _, _, _, rfl, rfl, HG1.out.1, HG0.out, hxn, hyn, Lib.hid (by rw [HM1.out, ← HX.out]; exact HRx.out), Lib.hid (by rw [HM2.out, ← HY.out]; exact CellsU.of HRy.out), Lib.hid (by rw [HM2.out, ← HY.out]; exact HQ.out)⟩
      · have hle : X < Y := by have := HT.out; simpa using this.symm
        have HM1 : Hid (max X Y = Y) := Lib.hid (Nat.max_eq_right (by omega))
        have HM2 : Hid (min X Y = X) := Lib.hid (Nat.min_eq_left (by omega))
        clear hle
        go_wp2_with fail
        go_meet
        exact ⟨rfl, _, _, _, _, rfl, rfl, HG1.out.1.symm, HG1.out.2, hyn, hxn, Lib.hid (by rw [HM1.out, ← HY.out]; exact HRy.out), Lib.hid (by rw [HM2.out, ← HX.out]; exact CellsU.of HRx.out), Lib.hid (by rw [HM2.out, ← HX.out]; exact HK.out)⟩
    case rest =>
      obtain ⟨hw, gp, gr, kp, kr, rfl, rfl, hne, hgp, hkp, hkr, HRP, HCR, HKR⟩ := hcut
      subst hw
      obtain ⟨p, hp⟩ : ∃ p, p = Nt.dg 18446744073709551616 (max X Y) := ⟨_, rfl⟩
      obtain ⟨r, hr⟩ : ∃ r, r = Nt.dg 18446744073709551616 (min X Y) := ⟨_, rfl⟩
      have HDP : Hid (Nt.Dig 18446744073709551616 p) := Lib.hid (by rw [hp]; exact Nt.dig_dg _ (by decide) _)
      have HDR : Hid (Nt.Dig 18446744073709551616 r) := Lib.hid (by rw [hr]; exact Nt.dig_dg _ (by decide) _)
      rw [← hp] at HRP
      rw [← hr] at HCR HKR
      have HPL : Hid (p.length = kp) := Lib.hid HRP.out.len
      have HEND : Hid (∀ (bw : Nat) (o : List Int), o.length = kp → Nt.Dig 18446744073709551616 o → bw ≤ 1 → Nt.val 18446744073709551616 (o.take kp) + Nt.val 18446744073709551616 (r.take kp) = Nt.val 18446744073709551616 (p.take kp) + 18446744073709551616 ^ kp * bw → Nt.val 18446744073709551616 o = max X Y - min X Y) := Lib.hid (fun bw o h1 h2 h3 h4 => Nt.less_end (max X Y) (min X Y) bw kp o (by rw [← hp]; exact HPL.out) h1 h2 (by omega) h3 (by rw [← hp, ← hr]; exact h4))
      clear hp hr
      go_wp2_with fail
      go_loopw [10, 67] (fun bv iv wr => ∃ (i bw : Nat) (o : List Int), iv = .int .i64 i ∧ bv = .int .u64 bw ∧ i ≤ kp ∧ bw ≤ 1 ∧ Hid (RowC wr w.heap.size gp kp n o) ∧ Hid (Nt.Dig 18446744073709551616 o) ∧ Hid (Nt.val 18446744073709551616 (o.take i) + Nt.val 18446744073709551616 (r.take i) = Nt.val 18446744073709551616 (p.take i) + 18446744073709551616 ^ i * bw) ∧ Hid (o.drop i = p.drop i) ∧ Hid (CellsU wr gr r) ∧ Hid (Cell2 w.heap.size wr) ∧ Hid (Below w.heap.size w wr)) (fun _ iv _ => kp - (intOf iv).toNat)
      case atStart => exact ⟨0, 0, p, rfl, rfl, Nat.zero_le _, by omega, HRP, HDP, Lib.hid (by simp [Nt.val]), Lib.hid rfl, HCR, HCc, HBc⟩
      case round =>
        clear HRP HCR HCc HBc HRx HRy
        obtain ⟨i, bw, o, rfl, rfl, hi, hbw, HR, HD, HV, HDR2, HC, HC2, HB⟩ := hrel
        by_cases hlt : i < kp
        · obtain ⟨u, hu⟩ : ∃ u, p[i]? = some u := ⟨_, List.getElem?_eq_getElem (by have := HPL.out; omega)⟩
          have hol := HR.out.len
          have hou : o[i]? = some u := by
            have h1 := HDR2.out
            have h2 : (o.drop i)[0]? = (p.drop i)[0]? := by rw [h1]
            rw [List.getElem?_drop, List.getElem?_drop, Nat.add_zero] at h2
            rw [h2, hu]
          have hcu := HR.out.cell i u hou
          have hfr := HR.out.free i
          have HUB := Lib.hid (HDP.out u (List.mem_of_getElem? hu))
          have HGO : Hid (∀ (z : Int) (bw' : Nat), 0 ≤ z → z < 18446744073709551616 → z + r[i]?.getD 0 + bw = u + 18446744073709551616 * bw' → ∀ wr', wr' = wr.setCell ⟨gp, i, none⟩ (.int .u64 z) →
              Hid (RowC wr' w.heap.size gp kp n (o.set i z)) ∧ Hid (Nt.Dig 18446744073709551616 (o.set i z)) ∧ Hid (Nt.val 18446744073709551616 ((o.set i z).take (i + 1)) + Nt.val 18446744073709551616 (r.take (i + 1)) = Nt.val 18446744073709551616 (p.take (i + 1)) + 18446744073709551616 ^ (i + 1) * bw') ∧ Hid ((o.set i z).drop (i + 1) = p.drop (i + 1)) ∧ Hid (CellsU wr' gr r) ∧ Hid (Cell2 w.heap.size wr') ∧ Hid (Below w.heap.size w wr')) := Lib.hid (by
            intro z bw' hz0 hz1 hst wr' hwr'
            subst hwr'
            refine ⟨Lib.hid (HR.out.set i z), Lib.hid (HD.out.set i z hz0 hz1), Lib.hid (Nt.less_step p r o i bw bw' u z hu (by rw [hol, HPL.out]) HDP.out HDR.out hz0 hst HV.out), Lib.hid ?_, Lib.hid (HC.out.store hne _), Lib.hid (HC2.out.store (by omega) _), Lib.hid (HB.out.setCell (p := ⟨gp, i, none⟩) (Nat.le_of_lt hgp) _)⟩
            rw [List.drop_set_of_lt (by omega)]
            have h1 := HDR2.out
            rw [Nt.drop_one o i, Nt.drop_one p i, h1])
          have HSAME : Hid (∀ (bw' : Nat), u + r[i]?.getD 0 + bw = u + 18446744073709551616 * bw' → Hid (Nt.val 18446744073709551616 (o.take (i + 1)) + Nt.val 18446744073709551616 (r.take (i + 1)) = Nt.val 18446744073709551616 (p.take (i + 1)) + 18446744073709551616 ^ (i + 1) * bw') ∧ Hid (o.drop (i + 1) = p.drop (i + 1))) := Lib.hid (by
            intro bw' hst
            have h0 := Nt.less_step p r o i bw bw' u u hu (by rw [hol, HPL.out]) HDP.out HDR.out HUB.out.1 hst HV.out
            have e : o.set i u = o := by
              obtain ⟨h3, h4⟩ := List.getElem?_eq_some_iff.1 hou
              subst h4; simp
            rw [e] at h0
            refine ⟨Lib.hid h0, Lib.hid ?_⟩
            have h1 := HDR2.out
            rw [Nt.drop_one o i, Nt.drop_one p i, h1])
          clear hu hou hol
          by_cases hir : i < kr
          · obtain ⟨y1, hy1⟩ : ∃ y1, r[i]? = some y1 := ⟨_, List.getElem?_eq_getElem (by have := HKR.out; omega)⟩
            have hcy := HC.out i y1 hy1
            have HYB := Lib.hid (HDR.out y1 (List.mem_of_getElem? hy1))
            rw [hy1, Option.getD_some] at HGO HSAME
            clear hy1
            by_cases hfull : y1 + bw < 18446744073709551616
            · obtain ⟨S, hS⟩ : ∃ S : Int, S = bw + y1 := ⟨_, rfl⟩
              have hw1 : IntKind.u64.wrap ((bw : Int) + y1) = S := by have := HYB.out; rw [IntKind.wrap_u64]; omega
              have hge : ¬ S < y1 := by omega
              have HSB : Hid (0 ≤ S ∧ S < 18446744073709551616) := Lib.hid (by have := HYB.out; omega)
              have HSE := Lib.hid hS
              clear hfull hS
              by_cases hus : u < S
              · obtain ⟨z, hz⟩ : ∃ z : Int, z = u - S + 18446744073709551616 := ⟨_, rfl⟩
                have hw2 : IntKind.u64.wrap (u - S) = z := by have := HUB.out; have := HSB.out; rw [IntKind.wrap_u64]; omega
                have HZ := Lib.hid (HGO.out z 1 (by have := HUB.out; have := HSB.out; omega) (by omega) (by have := HSE.out; omega) _ rfl)
                clear hz
                go_wp2_with fail
                obtain ⟨z1, z2, z3, z4, z5, z6, z7⟩ := HZ.out
                refine ⟨⟨i + 1, 1, _, by go_num, rfl, by omega, by omega, z1, z2, z3, z4, z5, z6, z7⟩, by simp [intOf]; omega⟩
              · obtain ⟨z, hz⟩ : ∃ z : Int, z = u - S := ⟨_, rfl⟩
                have hw2 : IntKind.u64.wrap (u - S) = z := by have := HUB.out; have := HSB.out; rw [IntKind.wrap_u64]; omega
                have HZ := Lib.hid (HGO.out z 0 (by omega) (by have := HUB.out; have := HSB.out; omega) (by have := HSE.out; omega) _ rfl)
                clear hz
                go_wp2_with fail
                obtain ⟨z1, z2, z3, z4, z5, z6, z7⟩ := HZ.out
                refine ⟨⟨i + 1, 0, _, by go_num, rfl, by omega, by omega, z1, z2, z3, z4, z5, z6, z7⟩, by simp [intOf]; omega⟩
            · have hbw1 : bw = 1 := by have := HYB.out; omega
              have hw1 : IntKind.u64.wrap (1 + y1) = 0 := by have := HYB.out; rw [IntKind.wrap_u64]; omega
              have hpos : 0 < y1 := by omega
              have HZ := Lib.hid (HSAME.out 1 (by have := HYB.out; omega))
              clear hfull
              subst hbw1
              go_wp2_with fail
              refine ⟨⟨i + 1, 1, o, by go_num, rfl, by omega, by omega, HR, HD, HZ.out.1, HZ.out.2, HC, HC2, HB⟩, by simp [intOf]; omega⟩
          · have hnone : r[i]? = none := List.getElem?_eq_none (by have := HKR.out; omega)
            rw [hnone, Option.getD_none] at HGO
            clear hnone HSAME
            by_cases hus : u < (bw : Int)
            · obtain ⟨z, hz⟩ : ∃ z : Int, z = u - bw + 18446744073709551616 := ⟨_, rfl⟩
              have hw2 : IntKind.u64.wrap (u - bw) = z := by have := HUB.out; rw [IntKind.wrap_u64]; omega
              have HZ := Lib.hid (HGO.out z 1 (by have := HUB.out; omega) (by omega) (by omega) _ rfl)
              clear hz
              go_wp2_with fail
              obtain ⟨z1, z2, z3, z4, z5, z6, z7⟩ := HZ.out
              refine ⟨⟨i + 1, 1, _, by go_num, rfl, by omega, by omega, z1, z2, z3, z4, z5, z6, z7⟩, by simp [intOf]; omega⟩
            · obtain ⟨z, hz⟩ : ∃ z : Int, z = u - bw := ⟨_, rfl⟩
              have hw2 : IntKind.u64.wrap (u - bw) = z := by have := HUB.out; rw [IntKind.wrap_u64]; omega
              have HZ := Lib.hid (HGO.out z 0 (by omega) (by have := HUB.out; omega) (by omega) _ rfl)
              clear hz
              go_wp2_with fail
              obtain ⟨z1, z2, z3, z4, z5, z6, z7⟩ := HZ.out
              refine ⟨⟨i + 1, 0, _, by go_num, rfl, by omega, by omega, z1, z2, z3, z4, z5, z6, z7⟩, by simp [intOf]; omega⟩
        · obtain rfl : i = kp := by omega
          have HVF : Hid (Nt.val 18446744073709551616 o = max X Y - min X Y) := Lib.hid (HEND.out bw o HR.out.len HD.out hbw HV.out)
          have ht := fun (h : RowC wr w.heap.size gp i n o) => ctrim_any w.heap.size gp i n o wr h (by omega) HD.out
          rw [HVF.out] at ht
          have HT3 := Lib.hid (ht HR.out)
          clear ht
          obtain ⟨D, hD⟩ : ∃ D, D = max X Y - min X Y := ⟨_, rfl⟩
          rw [← hD] at HT3
          have HDD := Lib.hid hD
          clear hD
          obtain ⟨m, hm⟩ : ∃ m, m = (Nt.dg 18446744073709551616 D).length := ⟨_, rfl⟩
          rw [← hm] at HT3
          go_wp2_with fail
          refine HT3.out.mono ?_
          rintro e w' ⟨rfl, hr4, rfl⟩
          have hmn : m ≤ n := hr4.room
          have HU4 := Lib.hid hr4
          have HM := Lib.hid hm
          obtain ⟨l4, hl4⟩ : ∃ l4, l4 = Nt.dg 18446744073709551616 D := ⟨_, rfl⟩
          rw [← hl4] at HU4
          have HL4 := Lib.hid hl4
          obtain ⟨k0, k1, k2, k3⟩ := HC2.out
          have k20 := k2 0
          have k21 := k2 1
          clear hr4 hm hl4 HT3 HR HD HV HDR2 HC HEND HPL HDP HDR HKR
          by_cases h4 : 4096 < m
          · have OUT := Lib.hid (int_store (w1 := wr) k0 k1 (.bool false) (.slice none 0 0))
            have H4 := Lib.hid h4
            go_wp2
            refine bodyPost_ret (v := .tuple #[.agg #[.bool false, .slice none 0 0], .int .i64 3]) (by simp [results, Try.results18, go_sem, OUT.out.2.2.1, OUT.out.2.2.2]) rfl ?_
            rw [HWP.out]
            exact ⟨_, 3, rfl, OUT.out.2.1 _ _ (Nat.le_refl _) HB.out, .inr ⟨rfl, rfl, by rw [← HDD.out, ← HM.out]; exact H4.out⟩⟩
          · have OUT := Lib.hid (int_store (w1 := wr) k0 k1 (.bool T) (.slice (some ⟨gp, 0, none⟩) m n))
            have H4 := Lib.hid h4
            go_wp2
            refine bodyPost_ret (v := .tuple #[.agg #[.bool T, .slice (some ⟨gp, 0, none⟩) m n], .int .i64 0]) (by simp [results, Try.results18, go_sem, OUT.out.2.2.1, OUT.out.2.2.2]) rfl ?_
            rw [HWP.out]
            refine ⟨_, 0, rfl, OUT.out.2.1 _ _ (Nat.le_refl _) HB.out, .inl ⟨rfl, ⟨some ⟨gp, 0, none⟩, n, ?_, ?_⟩, by rw [← HDD.out, ← HM.out]; have := H4.out; omega⟩⟩
            · rw [← HDD.out, ← HT.out, ← HM.out]
            · rw [← HDD.out, ← HM.out, ← HL4.out]; exact World.ownsRow.kept (World.ownsRow.kept HU4.out (grownBy_cell _ _ _ _) (.inr (by simp [Value.ownBlock]; omega))) (grownBy_cell _ _ _ _) (.inr (by simp [Value.ownBlock]; omega))
theorem cwhole_own {b : Nat} {l : List Int} (hb1 : 2 ≤ b) (hb2 : b ≤ 30) (hl : L64 l) (hE : wE (b : Int) l = 0) (A : Option Addr) (len c : Nat) (w : World) (hu : UL w A len c l) (hlen : len ≤ 1000000) :
    Calls Try.prog 18 #[.slice A len c, .int .i64 b] w fun e w' => ∃ A' c', e = .returned (.tuple #[.agg #[.bool (wS (b : Int) l), .slice A' (wL (b : Int) l).length c'], .int .i64 0]) ∧ w'.ownsRow w.heap.size 55 1 (.slice A' (wL (b : Int) l).length c') (wL (b : Int) l).length ((wL (b : Int) l).map (Value.int .u64)) ∧ Below w.heap.size w w' := by
  refine (cwhole_ownyes A len c b l w hu hl hlen hb1 hb2).mono ?_
  rintro e w' ⟨v, E, rfl, hb, h⟩
  have hif : wE (b : Int) l = if (mgL b l).length ≤ 4096 then 0 else 3 := by
    unfold wE
    rw [if_pos (by omega), Int.toNat_natCast]
  rcases h with ⟨rfl, ⟨A, c, rfl, hu⟩, hlen'⟩ | ⟨rfl, rfl, hlen'⟩
  · have hs : wS (b : Int) l = decide (upN b l < dnN b l) := by unfold wS; rw [if_pos hE, Int.toNat_natCast]
    have hL : wL (b : Int) l = mgL b l := by unfold wL; rw [if_pos hE, Int.toNat_natCast]
    rw [hs, hL]
    exact ⟨A, c, rfl, hu, hb⟩
  · have h2 : ¬ (mgL b l).length ≤ 4096 := Nat.not_le.2 hlen'
    rw [if_neg h2, hE] at hif
    cases hif
end Go.Proofs.Ytclnmheplecknaa

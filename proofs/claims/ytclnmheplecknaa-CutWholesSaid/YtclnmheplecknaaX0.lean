/-
  The row of CutWholes: for every input the call answers true, and every argument reads behind it as before. No condition.
  How slices of integers and whole numbers by value come in.
  Walk: CutWholes.
-/
import Derived.Test.YtclnmheplecknaaW18
import Derived.ProofKit
import Derived.OpenShut
import Derived.Laws.Cover2
import Derived.Deep.Slices
import Derived.Lib.SmallJoins
import Derived.Test.YtclnmheplecknaaRows
import Derived.WalkKit
set_option linter.unusedVariables false
set_option linter.unusedSimpArgs false
namespace Go.Proofs.Ytclnmheplecknaa
open Go.RowKit
theorem dg_len_le (b : Int) (l : List Int) : (wL b l).length ≤ 1000000000 := by
  unfold wL
  split
  · rename_i h
    unfold wE at h
    split at h
    · split at h
      · omega
      · cases h
    · cases h
  · exact Nat.zero_le _
set_option maxRecDepth 400000 in
set_option maxHeartbeats 4000000 in
theorem cutWholes_walk (w : World) (A : Option Addr) (n c : Nat) (l : List Int) (b : Int) (hs : UL w A n c l ∧ L64 l ∧ c ≤ 9223372036854775807) (wb : (Lit.int .i64 b).wf = true) : Calls Try.prog 4 #[.slice A n c, .int .i64 b] w fun e w' => e = .returned (.bool true) ∧ Below w.heap.size w w' := by
  have HA := Lib.hid (fun w => awake14_any w)
  have hnc := hs.1.2.1
  have hcm := hs.2.2
  by_cases h2000 : n ≤ 2000

  · have HU := Lib.hid (hs.1)
    have H64 : Hid (L64 l) := Lib.hid (hs.2.1)
    have HLL := Lib.hid (fun x (hb : Below w.heap.size w x) => lent_longs A n c l x (by omega) (HU.out.below hb))
    have HCW : Hid (∀ (x : World) g, LentL x g n l → Calls Try.prog 18 #[.slice (some ⟨g, 0, none⟩) n (n + 12), .int .i64 b] x (WPost b l x)) := Lib.hid (fun x g h => cwhole_any (some ⟨g, 0, none⟩) n (n + 12) b l x h.u H64.out (by omega))
    have HRW : Hid (∀ (x : World), Below w.heap.size w x → Calls Try.prog 19 #[.slice A n c, .int .i64 b] x (WPost b l x)) := Lib.hid (fun x h => rwhole_any A n c b l x (HU.out.below h) H64.out (by omega))
    have HKL : Hid (∀ (x : World) g, Below w.heap.size w x → LentL x g n l → Calls Try.prog 21 #[.slice (some ⟨g, 0, none⟩) n (n + 12), .slice A n c] x fun e w' => e = .returned (.bool true) ∧ Below x.heap.size x w') := Lib.hid (fun x g h hl => kept_longs A n c g l x (by omega) hl (HU.out.below h))
    have HK := Lib.hid (dg_len_le b l)
    unfold WPost at HCW HRW
    generalize wS b l = S at *
    generalize wE b l = E at *
    generalize wL b l = M at *
    obtain ⟨K, hK⟩ : ∃ K, K = M.length := ⟨_, rfl⟩
    rw [← hK] at HCW HRW HK
    have hE : (E == E) = true := by simp
    clear hs hK
    go_enter Try.func4, Try.ntmps4
    go_wp2_with fail
    refine (HA.out _).mono ?_
    rintro e w1 ⟨rfl, hb⟩
    have HB1 := Lib.hid hb
    clear hb
    go_wp2_with fail
    refine (HLL.out _ HB1.out).mono ?_
    rintro e w2 ⟨g, rfl, hl, hb⟩
    have HB2 := Lib.hid (HB1.out.trans (hb.mono HB1.out.size))
    have HL2 := Lib.hid hl
    clear hb hl
    go_wp2_with fail
    refine (HCW.out _ g HL2.out).mono ?_
    rintro e w3 ⟨A3, c3, rfl, hu3, hb⟩
    have HB3 := Lib.hid (HB2.out.trans (hb.mono HB2.out.size))
    have HL3 := Lib.hid (HL2.out.below hb)
    have HU3 := Lib.hid hu3
    clear hb hu3
    go_wp2_with fail
    have hba := (Below.refl w3.heap.size w3).alloc (Nat.le_refl _) (.cells #[.bool S, .slice A3 K c3] 24)
    have HBA := Lib.hid (HB3.out.trans (hba.mono HB3.out.size))
    have HBA3 := Lib.hid hba
    refine (HRW.out _ HBA.out).mono ?_
    rintro e w4 ⟨A4, c4, rfl, hu4, hb⟩
    have d0 : w4.cell? ⟨w3.heap.size, 0, none⟩ = some (.bool S) := (hb.cell (p := ⟨w3.heap.size, 0, none⟩) (by simp)).trans (by simp)
    have d1 : w4.cell? ⟨w3.heap.size, 1, none⟩ = some (.slice A3 K c3) := (hb.cell (p := ⟨w3.heap.size, 1, none⟩) (by simp)).trans (by simp)
    have HB34 := Lib.hid (HBA3.out.trans (hb.mono HBA3.out.size))
    have HB4 := Lib.hid (HB3.out.trans (HB34.out.mono HB3.out.size))
    have hlt34 : w3.heap.size < w4.heap.size := by have := hb.size; simp at this; omega
    have HU34 := Lib.hid (HU3.out.below HB34.out)
    have HL4 := Lib.hid (HL3.out.below HB34.out)
    have HU4 := Lib.hid hu4
    clear hb hu4 hba HBA3
    go_wp2_with fail
    have hba := (Below.refl w4.heap.size w4).alloc (Nat.le_refl _) (.cells #[.bool S, .slice A4 K c4] 24)
    refine (same_int S A3 K c3 A4 c4 M _ HK.out (HU34.out.below hba) (HU4.out.below hba)).mono ?_
    rintro e w5 ⟨rfl, hb⟩
    have HB45 := Lib.hid (hba.trans (hb.mono hba.size))
    have HB5 := Lib.hid (HB4.out.trans (HB45.out.mono HB4.out.size))
    have HL5 := Lib.hid (HL4.out.below HB45.out)
    clear hb hba
    go_wp2_with fail
    refine (HKL.out _ g HB5.out HL5.out).mono ?_
    rintro e w6 ⟨rfl, hb⟩
    have HB6 := Lib.hid (HB5.out.trans (hb.mono HB5.out.size))
    clear hb
    go_wp2
    go_ret
    exact ⟨rfl, HB6.out⟩
  · have HU := Lib.hid (hs.1.take 2000 (by omega))
    have H64 : Hid (L64 (l.take 2000)) := Lib.hid (fun x hx => hs.2.1 x (List.mem_of_mem_take hx))
    have HLL := Lib.hid (fun x (hb : Below w.heap.size w x) => lent_longs A 2000 c (l.take 2000) x (by omega) (HU.out.below hb))
    have HCW : Hid (∀ (x : World) g, LentL x g 2000 (l.take 2000) → Calls Try.prog 18 #[.slice (some ⟨g, 0, none⟩) 2000 (2000 + 12), .int .i64 b] x (WPost b (l.take 2000) x)) := Lib.hid (fun x g h => cwhole_any (some ⟨g, 0, none⟩) 2000 (2000 + 12) b (l.take 2000) x h.u H64.out (by omega))
    have HRW : Hid (∀ (x : World), Below w.heap.size w x → Calls Try.prog 19 #[.slice A 2000 c, .int .i64 b] x (WPost b (l.take 2000) x)) := Lib.hid (fun x h => rwhole_any A 2000 c b (l.take 2000) x (HU.out.below h) H64.out (by omega))
    have HKL : Hid (∀ (x : World) g, Below w.heap.size w x → LentL x g 2000 (l.take 2000) → Calls Try.prog 21 #[.slice (some ⟨g, 0, none⟩) 2000 (2000 + 12), .slice A 2000 c] x fun e w' => e = .returned (.bool true) ∧ Below x.heap.size x w') := Lib.hid (fun x g h hl => kept_longs A 2000 c g (l.take 2000) x (by omega) hl (HU.out.below h))
    have HK := Lib.hid (dg_len_le b (l.take 2000))
    unfold WPost at HCW HRW
    generalize wS b (l.take 2000) = S at *
    generalize wE b (l.take 2000) = E at *
    generalize wL b (l.take 2000) = M at *
    obtain ⟨K, hK⟩ : ∃ K, K = M.length := ⟨_, rfl⟩
    rw [← hK] at HCW HRW HK
    have hE : (E == E) = true := by simp
    clear hs hK
    go_enter Try.func4, Try.ntmps4
    go_wp2_with fail
    refine (HA.out _).mono ?_
    rintro e w1 ⟨rfl, hb⟩
    have HB1 := Lib.hid hb
    clear hb
    go_wp2_with fail
    refine (HLL.out _ HB1.out).mono ?_
    rintro e w2 ⟨g, rfl, hl, hb⟩
    have HB2 := Lib.hid (HB1.out.trans (hb.mono HB1.out.size))
    have HL2 := Lib.hid hl
    clear hb hl
    go_wp2_with fail
    refine (HCW.out _ g HL2.out).mono ?_
    rintro e w3 ⟨A3, c3, rfl, hu3, hb⟩
    have HB3 := Lib.hid (HB2.out.trans (hb.mono HB2.out.size))
    have HL3 := Lib.hid (HL2.out.below hb)
    have HU3 := Lib.hid hu3
    clear hb hu3
    go_wp2_with fail
    have hba := (Below.refl w3.heap.size w3).alloc (Nat.le_refl _) (.cells #[.bool S, .slice A3 K c3] 24)
    have HBA := Lib.hid (HB3.out.trans (hba.mono HB3.out.size))
    have HBA3 := Lib.hid hba
    refine (HRW.out _ HBA.out).mono ?_
    rintro e w4 ⟨A4, c4, rfl, hu4, hb⟩
    have d0 : w4.cell? ⟨w3.heap.size, 0, none⟩ = some (.bool S) := (hb.cell (p := ⟨w3.heap.size, 0, none⟩) (by simp)).trans (by simp)
    have d1 : w4.cell? ⟨w3.heap.size, 1, none⟩ = some (.slice A3 K c3) := (hb.cell (p := ⟨w3.heap.size, 1, none⟩) (by simp)).trans (by simp)
    have HB34 := Lib.hid (HBA3.out.trans (hb.mono HBA3.out.size))
    have HB4 := Lib.hid (HB3.out.trans (HB34.out.mono HB3.out.size))
    have hlt34 : w3.heap.size < w4.heap.size := by have := hb.size; simp at this; omega
    have HU34 := Lib.hid (HU3.out.below HB34.out)
    have HL4 := Lib.hid (HL3.out.below HB34.out)
    have HU4 := Lib.hid hu4
    clear hb hu4 hba HBA3
    go_wp2_with fail
    have hba := (Below.refl w4.heap.size w4).alloc (Nat.le_refl _) (.cells #[.bool S, .slice A4 K c4] 24)
    refine (same_int S A3 K c3 A4 c4 M _ HK.out (HU34.out.below hba) (HU4.out.below hba)).mono ?_
    rintro e w5 ⟨rfl, hb⟩
    have HB45 := Lib.hid (hba.trans (hb.mono hba.size))
    have HB5 := Lib.hid (HB4.out.trans (HB45.out.mono HB4.out.size))
    have HL5 := Lib.hid (HL4.out.below HB45.out)
    clear hb hba
    go_wp2_with fail
    refine (HKL.out _ g HB5.out HL5.out).mono ?_
    rintro e w6 ⟨rfl, hb⟩
    have HB6 := Lib.hid (HB5.out.trans (hb.mono HB5.out.size))
    clear hb
    go_wp2
    go_ret
    exact ⟨rfl, HB6.out⟩
end Go.Proofs.Ytclnmheplecknaa

namespace Go.Proofs.Ytclnmheplecknaa
open Go.ChangeShapes Go.WideShapes Go.ChangeAt Go.RowKit Go.Deep
theorem int_cell {H : Type} {enc : TypeId × Value → H} {P : Program} {w : World} {base : Nat} {spare : Nat → Bool} {held : Bool} {n : Nat} {e : TypeId} {k : IntKind} {v : Value} {x : DataW H × List MemPlace} (he : P.underlying e = some (.int k)) (h : DataW.trod enc P w base spare held n e [v] = some x) : ∃ b, v = .int k b ∧ (Lit.int k b).wf = true := by
  obtain ⟨b, hc, _, hw⟩ := DataW.trod_int he h
  cases v <;> simp [Value.cells] at hc
  obtain ⟨rfl, rfl⟩ := hc
  exact ⟨_, rfl, hw⟩
theorem in_ints {H : Type} {enc : TypeId × Value → H} {P : Program} {w : World} {t e : TypeId} {k : IntKind} {v : Value} {fuel : Nat} {x : DataW H × List MemPlace} (ht : P.underlying t = some (.slice e)) (he : P.underlying e = some (.int k)) (hc : P.cellsOf e = 1)
    (hd : DataW.trod enc P w 0 (fun _ => true) true fuel t [v] = some x) : ∃ (A : Option Addr) (n c : Nat) (l : List Int), v = .slice A n c ∧ (l.length = n ∧ n ≤ c ∧ (A = none → c = 0) ∧ ∀ j x, l[j]? = some x → ∃ ad, A = some ad ∧ ad.block < w.heap.size ∧ w.cell? (ad.add j) = some (.int k x)) ∧ (∀ x, x ∈ l → (Lit.int k x).wf = true) ∧ c ≤ 9223372036854775807 := by
  rcases open_slice1 ht hc hd with ⟨hcs, _⟩ | ⟨a, len, cap, m, q, V, D, Pl, hcs, _, hl, hm, hmm, _, hx⟩
  · obtain rfl : v = .slice none 0 0 := by simpa using hcs
    exact ⟨none, 0, 0, [], rfl, ⟨rfl, Nat.le_refl _, fun _ => rfl, fun j x hj => by simp at hj⟩, fun x hx => by simp at hx, by decide⟩
  · obtain rfl : v = .slice (some a) len cap := by simpa using hcs
    have hmc : m = cap := by rw [hmm]; simp
    have key : ∀ j : Nat, ∃ b : Int, j < len → V j = .int k b ∧ (Lit.int k b).wf = true := fun j => by
      by_cases hj : j < len
      · obtain ⟨h1, h2⟩ := hx j (by omega)
        obtain ⟨b, hb⟩ := int_cell he h2
        exact ⟨b, fun _ => hb⟩
      · exact ⟨0, fun h => absurd h hj⟩
    refine ⟨some a, len, cap, (List.range len).map fun j => Classical.choose (key j), rfl, ⟨by simp, hl, (fun h => by cases h), fun j x hj => ?_⟩, fun x hx' => ?_, by unfold maxLen at hm; omega⟩
    · have hjl : j < len := by have := (List.getElem?_eq_some_iff.1 hj).1; simpa using this
      rw [List.getElem?_map, List.getElem?_range hjl] at hj
      obtain rfl := Option.some.inj hj
      have hcell := (hx j (by omega)).1
      rw [(Classical.choose_spec (key j) hjl).1] at hcell
      refine ⟨a, rfl, ?_, hcell⟩
      have := World.block_lt_of_cell? w _ hcell
      rwa [add_block] at this
    · obtain ⟨j, hj, rfl⟩ := List.mem_map.1 hx'
      exact (Classical.choose_spec (key j) (List.mem_range.1 hj)).2
theorem in_longs {H : Type} {enc : TypeId × Value → H} {P : Program} {w : World} {r : Reach} {b0 : Nat} {t e : TypeId} {v : Value} {d : DataW H} {ps : List MemPlace} (ht : P.underlying t = some (.slice e)) (he : P.underlying e = some (.int .i64)) (hc : P.cellsOf e = 1)
    (hval : Value.okWide P w r b0 t v) (hd : DataW.Trod enc P w 0 (fun _ => true) true t v d ps) : ∃ (A : Option Addr) (n c : Nat) (l : List Int), v = .slice A n c ∧ (UL w A n c l ∧ L64 l ∧ c ≤ 9223372036854775807) := by
  obtain ⟨fuel, hf⟩ := hd
  obtain ⟨A0, n0, c0, rfl⟩ := okWide_slice ht hval
  obtain ⟨A, n, c, l, hv, hu, hw, hm⟩ := in_ints ht he hc hf
  refine ⟨A, n, c, l, hv, hu, fun x hx => ?_, hm⟩
  have := hw x hx
  simp [Lit.wf, IntKind.min, IntKind.max, IntKind.signed, IntKind.bits] at this
  omega
/-- A whole number by value. -/
theorem in_bigint {H : Type} {enc : TypeId × Value → H} {P : Program} {w : World} {r : Reach} {b0 : Nat} {t : TypeId} {f0 f1 : Field} {e : TypeId} {v : Value} {d : DataW H} {ps : List MemPlace} (hs : P.underlying t = some (.struct #[f0, f1])) (hone : oneCellFields P #[f0, f1] = true) (hC : P.cellsOf t = 2)
    (hb : P.underlying f0.type = some .bool) (ht : P.underlying f1.type = some (.slice e)) (he : P.underlying e = some (.int .u64)) (hc : P.cellsOf e = 1)
    (hval : Value.okWide P w r b0 t v) (hd : DataW.Trod enc P w 0 (fun _ => true) true t v d ps) : ∃ (s : Bool) (A : Option Addr) (n c : Nat) (l : List Int), v = .agg #[.bool s, .slice A n c] ∧ (U w A n c l ∧ Nt.Dig 18446744073709551616 l ∧ c ≤ 9223372036854775807) := by
  obtain ⟨v0, v1, y0, y1, m, rfl, _, _, h0, h1⟩ := Go.Joins.open_agg2 hs hone hC hval hd
  obtain ⟨s, hc0, _⟩ := DataW.trod_bool hb h0
  obtain rfl : v0 = .bool s := by simpa using hc0
  obtain ⟨A, n, c, l, rfl, hu, hw, hm⟩ := in_ints ht he hc h1
  refine ⟨s, A, n, c, l, rfl, hu, fun x hx => ?_, hm⟩
  have := hw x hx
  simp [Lit.wf, IntKind.min, IntKind.max, IntKind.signed, IntKind.bits] at this
  omega
end Go.Proofs.Ytclnmheplecknaa

namespace Go.Proofs.Ytclnmheplecknaa
open Go.ChangeShapes Go.WideShapes Go.ChangeAt Go.RowKit
namespace cutWholes
theorem own : ownKnob Try.prog.godebug = none := by kernel_rfl
set_option maxRecDepth 100000 in
theorem lifted (os : Os) (started : os.Started) (H : Type) (enc : TypeId × Value → H) :
    ReturnsInHanded {} Try.checked os 4 .any (Rows.cutWholesSpec.pre6 enc Try.prog Try.f4 Rows.cutWholesRow.domain false) (Rows.cutWholesSpec.post enc Try.prog Try.f4 false true false false) := by
  refine returnsInHanded_of_change (C := Try.checked) own started (by kernel_rfl) Try.func4
    (ChangeSpec.witness6 (enc := enc) (C := Try.checked) false ⟨#[], #[.slice none 0 0, .int .i64 0], []⟩ 8 (by kernel_rfl) (by kernel_rfl) (by kernel_rfl) (by kernel_rfl)) ?_
  intro W base args ds gs before hval0 hW hcnd _
  have hval : ∀ (j : Nat) t v, Try.f4.params[j]? = some t → args[j]? = some v → Value.okWide Try.prog W .any base t v := hval0
  have hW' := hW
  obtain ⟨p, q, hA0, hV, rfl, hfz, hnd⟩ := hW
  have hA : DataW.TrodAll enc Try.prog W 0 (fun _ => true) true Try.f4.params.toList args.toList ds p := hA0
  rw [Try.params4] at hA hval
  obtain ⟨v0, vs0, d0, ds0, p0, q0, hargs, rfl, rfl, h0, r0⟩ := trodAll_cons hA
  obtain ⟨v1, vs1, d1, ds1, p1, q1, rfl, rfl, rfl, h1, r1⟩ := trodAll_cons r0
  obtain ⟨rfl, rfl, rfl⟩ := trodAll_nil r1
  obtain rfl : args = #[v0, v1] := by cases args; simp_all
  obtain ⟨rfl, rfl⟩ := trodVars_none hV
  obtain ⟨a1, rfl, rfl, rfl, w1⟩ := open_int Try.underlying3 (hval 1 3 v1 rfl rfl) h1
  obtain ⟨a0, n0, c0, z0, rfl, w0⟩ := in_longs Try.underlying27 Try.underlying2 (by kernel_rfl) (hval 0 27 v0 rfl rfl) h0
  clear hA0 hval0
  simp only [List.append_nil, List.nil_append] at hW'
  refine (cutWholes_walk W a0 n0 c0 z0 a1 w0 w1).mono fun e W' ⟨he, hg⟩ => ?_
  subst he
  exact ⟨_, rfl, post_of_below (pv := []) hW' (fun _ _ _ => (trodAll_cons_mk (shut_bool Try.underlying4 _) trodAll_mk0)) (fun sp hsp => (trodAll_cons_mk (WideElems.Trod_stays (by kernel_rfl) (by kernel_rfl) (of_decide_eq_true (by kernel_rfl)) h0 (fun x hx => hg.same (hW'.lt x (by simp [hx]))) (fun x hx => hsp x (by simp [hx]))) (trodAll_cons_mk (shut_int Try.underlying3 w1) trodAll_mk0))) (fun _ _ => rfl) (by simp)
    hg (ok_one (by kernel_rfl) rfl (okWide_bool_mk Try.underlying4 _))⟩
theorem over : Rows.cutWholesRow.holds Try.pinned (OpenSpec.ofChange Rows.cutWholesSpec) :=
  OpenClaim.holds_of_wide 4 Try.f4 rfl rfl rfl rfl rfl rfl rfl ⟨rfl, rfl, rfl, rfl, rfl⟩ rfl rfl rfl rfl rfl (by kernel_rfl) Try.func4 (by kernel_rfl)
    (of_decide_eq_true (by kernel_rfl)) (by unfold Func.isWrapper; first | (rw [if_pos (by decide +kernel)]; kernel_rfl) | (rw [if_neg (by decide +kernel)]; exact ⟨rfl, rfl⟩))
    (fun os started H enc _ => lifted os started H enc)
theorem proved : Rows.CutWholesSaid :=
  over
end cutWholes
theorem cutWholes_holds : Rows.CutWholesSaid := cutWholes.proved
#print axioms cutWholes_holds
end Go.Proofs.Ytclnmheplecknaa

/-
  The card of RingPlain: for every input the call answers true, and every argument reads behind it as before. Conditions: the three tables that the transforms read hold what the program lays into them (tied by the card).
  Walk: RingPlain.
  Walk: rosetteref11.Plainly; long.
  Walk: rosetteref11.small.
  Walk: rosetteref11.At.
  A region that draws its order, walked once in an order of one's own: what only reads first, then the calls.
-/
import Derived.Test.YtfpopdneokekiaaGreatDoorP0
import Derived.Test.YtfpopdneokekiaaGreatDoorP31
import Derived.Test.YtfpopdneokekiaaGreatDoorCards
import Derived.Test.YtfpopdneokekiaaGreatDoorTie
import Derived.WalkKit
import Derived.ProofKit
import Derived.OpenShut
import Derived.Laws.Cover2
import Derived.Deep.DeepHandedRow
import Derived.Lib.LaidTab
set_option linter.unusedVariables false
set_option linter.unusedSimpArgs false
namespace Go.Proofs.YtfpopdneokekiaaGreatDoor
open Go.RowKit
section
variable {P : Program} {md : Region.Mode} {ops ops' : Array Oper} {Q : Exit → Act → World → Prop} {S : World → Prop}
/-- The walk in the order of a list of places: 'true': the operation yields its value in every world that meets S; 'false': a call, and nothing else may come up. -/
def wpHP (P : Program) (ops : Array Oper) (Q : Exit → Act → World → Prop) (S : World → Prop) : List (Bool × Nat) → Act → World → Prop
  | (true, k) :: ts, a, w => ∃ o v, ops[k]? = some o ∧ YieldsIf P ops S o v a ∧ wpHP P ops Q S ts (a.put o.dst v) w
  | (false, k) :: ts, a, w => ∃ o, ops[k]? = some o ∧ Region.wanted o (yielded ops a.tmps) = true ∧ o.wp P a w (fun a w => S w ∧ wpHP P ops Q S ts a w) Q
  | [], a, w => Q .normal a w
def chkHP (md : Region.Mode) (ops : Array Oper) : List (Bool × Nat) → Array Bool → Bool
  | [], listed => Region.ready md ops listed == []
  | (true, k) :: ts, listed => (Region.free md ops listed k && (Region.ready md ops listed).contains k) && chkHP md ops ts (listed.setIfInBounds k true)
  | (false, k) :: ts, listed => (Region.ready md ops listed == [k]) && chkHP md ops ts (listed.setIfInBounds k true)
theorem wpHP_sound (hQ : ∀ c d v a w, Q (.panic c) (a.put d v) w → Q (.panic c) a w) (hsel : Region.noSelect ops = true) : ∀ (ts : List (Bool × Nat)) (listed : Array Bool) (a : Act) (w : World),
    chkHP md ops ts listed = true → S w → wpHP P ops Q S ts a w → wpAnyH P md ops Q S ts.length listed a w := by
  intro ts
  induction ts with
  | nil =>
    intro listed a w hc hS h
    have hr : Region.ready md ops listed = [] := by simpa [chkHP] using hc
    exact ⟨hr, h⟩
  | cons t ts ih =>
    obtain ⟨b, k⟩ := t
    intro listed a w hc hS h
    cases b with
    | true =>
      simp only [chkHP, Bool.and_eq_true] at hc
      obtain ⟨o, v, ho, hy, h2⟩ := h
      exact wpAnyH_take ho hsel hc.1.1 hc.1.2 (fun c a w => hQ c _ _ a w) hy hS (ih _ _ _ hc.2 hS h2)
    | false =>
      simp only [chkHP, Bool.and_eq_true, beq_iff_eq] at hc
      obtain ⟨o, ho, h1, h2⟩ := h
      refine wpAnyH_all hc.1 (by simp) (fun i hi => ?_)
      rw [List.mem_singleton] at hi
      subst hi
      unfold wpOp
      rw [ho]
      simp only [h1, if_true]
      exact .inl (Oper.wp_mono (fun a w hK => ⟨hK.1, ih _ _ _ hc.2 hK.1 hK.2⟩) h2)
theorem wp_region_perm {id : Nat} {a : Act} {w : World} {l : List Oper} (S : World → Prop) (ts : List (Bool × Nat)) (n : Nat) (hm : P.follows .mixedOrders = true)
    (hB : (decide (n < l.length) && decide (ts.length = n) && Region.sinkB .any l.toArray n && Region.chainB .any l.toArray n && backB l.toArray && guardB l.toArray n && Region.seqB .any l.toArray (l.drop n).length n (headAll n (l.drop n).length) && Region.noSelect (l.take n).toArray && chkHP .any (l.take n).toArray ts (Array.replicate n false)) = true)
    (hQ : ∀ c t v a w, Q (.panic c) (a.put (some t) v) w → Q (.panic c) a w) (hS : S w.drew)
    (h : wpHP P (l.take n).toArray (QT P l.toArray (l.drop n) Q) S ts a w.drew) : (Code.region id l.toArray true).wp P Q a w := by
  simp only [Bool.and_eq_true, decide_eq_true_eq] at hB
  obtain ⟨⟨⟨⟨⟨⟨⟨⟨hn, ht⟩, hs⟩, hc⟩, hb⟩, hg⟩, hq⟩, hsel⟩, hk⟩ := hB
  have hdl : (l.drop n).length = l.length - n := List.length_drop
  have F : Fst l.toArray (l.take n).toArray n := ⟨by simp; omega, by simp; omega, fun j hj => by simp [hj]⟩
  refine wp_region_any hm ?_
  have h2 := wpHP_sound (md := .any) (QT_panic (panic_some hQ)) hsel ts (Array.replicate n false) a w.drew hk hS h
  rw [ht] at h2
  have h3 := wpAny_split F (by simp; omega) (by omega) (fun j => by simp [List.getElem?_drop]) hs hc hb hg hq n (Array.replicate l.toArray.size false) (Array.replicate n false) a w.drew ⟨⟨by simp, fun j oj _ hl => (by rw [getD_replicate_false] at hl; cases hl), fun t _ ht => getD_in (by simpa using ht) (getD_replicate_false _ _)⟩, by simp, fun j _ => by rw [getD_replicate_false, getD_replicate_false]⟩ h2
  rw [show (l.drop n).length + n = l.toArray.size by simp; omega] at h3
  exact h3
/-- The whole region, in an order of one's own. -/
theorem wp_region_hp {id : Nat} {a : Act} {w : World} {l : List Oper} (S : World → Prop) (ts : List (Bool × Nat)) (hm : P.follows .mixedOrders = true)
    (hB : (decide (ts.length = l.length) && Region.noSelect l.toArray && chkHP .any l.toArray ts (Array.replicate l.length false)) = true)
    (hQ : ∀ c t v a w, Q (.panic c) (a.put (some t) v) w → Q (.panic c) a w) (hS : S w.drew)
    (h : wpHP P l.toArray Q S ts a w.drew) : (Code.region id l.toArray true).wp P Q a w := by
  simp only [Bool.and_eq_true, decide_eq_true_eq] at hB
  obtain ⟨⟨ht, hsel⟩, hk⟩ := hB
  have h2 := wpHP_sound (md := .any) (panic_some hQ) hsel ts (Array.replicate l.length false) a w.drew hk hS h
  refine wp_region_held (S := S) hm ?_
  have e : ts.length = l.toArray.size := by simpa using ht
  rw [← e]
  have e2 : (Array.replicate l.length false) = Array.replicate ts.length false := by rw [ht]
  rw [e2] at h2
  exact h2
theorem wpHP_take {ts : List (Bool × Nat)} {k : Nat} {o : Oper} {a : Act} {w : World} (v : Value) (ho : ops'[k]? = some o) (hw : Region.wanted o (yielded ops' a.tmps) = true) (hv : ∀ w, S w → (execOp a.eval o).run P w = .ok (.value v) w) (h : wpHP P ops' Q S ts (a.put o.dst v) w) : wpHP P ops' Q S ((true, k) :: ts) a w :=
  ⟨o, v, ho, .inl ⟨hw, hv⟩, h⟩
theorem wpHP_skip {ts : List (Bool × Nat)} {k : Nat} {o : Oper} {a : Act} {w : World} (ho : ops'[k]? = some o) (hw : Region.wanted o (yielded ops' a.tmps) = false) (h : wpHP P ops' Q S ts (a.put o.dst undef) w) : wpHP P ops' Q S ((true, k) :: ts) a w :=
  ⟨o, undef, ho, .inr ⟨hw, rfl⟩, h⟩
theorem wpHP_call {ts : List (Bool × Nat)} {k : Nat} {o : Oper} {a : Act} {w : World} (ho : ops'[k]? = some o) (hw : Region.wanted o (yielded ops' a.tmps) = true) (h : ∀ K : Act → World → Prop, (∀ a w, S w → wpHP P ops' Q S ts a w → K a w) → o.wp P a w K Q) : wpHP P ops' Q S ((false, k) :: ts) a w :=
  ⟨o, ho, hw, h _ (fun a w h1 h2 => ⟨h1, h2⟩)⟩
theorem wpHP_nil {a : Act} {w : World} (h : Q .normal a w) : wpHP P ops' Q S [] a w := h
end
end Go.Proofs.YtfpopdneokekiaaGreatDoor

namespace Go.Proofs.YtfpopdneokekiaaGreatDoor
open Go.RowKit Nt
theorem plusN_zero (s : Bool) (N : Nat) (s' : Bool) (M : Nat) : (plusN s N 0 s' M 0).2.2 = 0 ∧ sz (plusN s N 0 s' M 0).1 (plusN s N 0 s' M 0).2.1 = sz s N + sz s' M := by
  have h := plusN_val s N 0 s' M 0 0 (by omega) (by omega)
  have e : (plusN s N 0 s' M 0).2.2 = 0 := by
    unfold plusN plusC
    repeat' split
    all_goals rfl
  refine ⟨e, ?_⟩
  have h2 := h.2
  rw [e] at h2
  unfold nv at h2
  simpa using h2
theorem sz_abs (s : Bool) (N : Nat) : (sz s N).natAbs = N := by unfold sz; cases s <;> simp
theorem sz_int (x : Int) : sz (decide (x < 0)) x.natAbs = x := by
  unfold sz
  by_cases h : x < 0
  · simp [h]; omega
  · simp [h]; omega
/-- A number in a box. -/
def NBox (w : World) (g : Nat) (V : Int) : Prop := ∃ s N A c, Cells3 w g s A (Nt.dg 18446744073709551616 N).length c 0 ∧ U w A (Nt.dg 18446744073709551616 N).length c (Nt.dg 18446744073709551616 N) ∧ sz s N = V
theorem allS_le (x y : Nat → Int) (i : Nat) (hx : ∀ m < i, -9223372036854775808 ≤ x m ∧ x m < 9223372036854775808) (hy : ∀ m < i, -9223372036854775808 ≤ y m ∧ y m < 9223372036854775808) : (allS x y i).natAbs ≤ i * (9223372036854775808 * 9223372036854775808) := by
  induction i with
  | zero => simp [allS]
  | succ i ih =>
    have h1 := ih (fun m hm => hx m (by omega)) (fun m hm => hy m (by omega))
    have h2 := hy i (by omega)
    have h4 := hx i (by omega)
    have h3 : (x i * y i).natAbs ≤ 9223372036854775808 * 9223372036854775808 := by
      rw [Int.natAbs_mul]
      exact Nat.mul_le_mul (by omega) (by omega)
    simp only [allS]
    have := Int.natAbs_add_le (allS x y i) (x i * y i)
    omega
theorem len_small (N : Nat) (h : N ≤ 16384 * (9223372036854775808 * 9223372036854775808)) : (Nt.dg 18446744073709551616 N).length ≤ 4 := by
  have := len_of_lt N 150 (Nat.lt_of_le_of_lt h (by decide))
  omega
set_option maxRecDepth 100000 in
set_option maxHeartbeats 4000000 in
theorem at_any2 (A B : Option Addr) (n c c' j : Nat) (a b : List Int) (w : World) (hn1 : 1 ≤ n) (hn2 : n ≤ 16384) (hj : j < n) (ha : UL w A n c a) (hb : UL w B n c' b) (ra : L64b a) (rb : L64b b) :
    Calls Tryz.prog 34 #[.slice A n c, .slice B n c', .int .i64 j] w fun e w' => ∃ v s N, e = .returned v ∧ NumV w' v s N 0 ∧ sz s N = cvI a b n j ∧ Below w.heap.size w w' := by
  have HA := Lib.hid ha
  have HB := Lib.hid hb
  obtain ⟨x, hx⟩ : ∃ x : Nat → Int, x = fun m => a.getD m 0 := ⟨_, rfl⟩
  obtain ⟨y, hy⟩ : ∃ y : Nat → Int, y = fun m => b.getD ((j + n - m) % n) 0 := ⟨_, rfl⟩
  have hm : ∀ m, (j + n - m) % n < n := fun m => Nat.mod_lt _ (by omega)
  have HX : Hid (∀ m < n, a[m]? = some (x m)) := Lib.hid (fun m hm => by rw [hx]; exact get_of ha.1 hm)
  have HY : Hid (∀ m < n, b[(j + n - m) % n]? = some (y m)) := Lib.hid (fun m _ => by rw [hy]; exact get_of hb.1 (hm m))
  have HXR : Hid (∀ m < n, -9223372036854775808 ≤ x m ∧ x m < 9223372036854775808) := Lib.hid (fun m h => ra _ (List.mem_of_getElem? (HX.out m h)))
  have HYR : Hid (∀ m < n, -9223372036854775808 ≤ y m ∧ y m < 9223372036854775808) := Lib.hid (fun m h => rb _ (List.mem_of_getElem? (HY.out m h)))
  have HCV : Hid (cvI a b n j = allS x y n) := Lib.hid (by rw [hx, hy]; rfl)
  rw [HCV.out]
  clear ha hb ra rb hx hy hm HCV
  obtain ⟨k0, k1, k2, hb1⟩ := new_cells w _ (.bool false) (.slice none 0 0) (.int .i64 0) 52 (Below.refl _ (w.alloc (.cells #[.bool false, .slice none 0 0, .int .i64 0] 52)))
  have hs6 : Shape (w.alloc (.cells #[.bool false, .slice none 0 0, .int .i64 0] 52)) w.heap.size := ⟨alloc_lt w _, fun j => by simp, _, _, _, _, _, k0, k1, k2⟩
  have hb2 := (Below.refl _ (w.alloc (.cells #[.bool false, .slice none 0 0, .int .i64 0] 52))).alloc (Nat.le_refl _) (.cells #[.bool false, .slice none 0 0, .int .i64 0] 52)
  obtain ⟨k3, k4, k5, _⟩ := new_cells (w.alloc (.cells #[.bool false, .slice none 0 0, .int .i64 0] 52)) _ (.bool false) (.slice none 0 0) (.int .i64 0) 52 (Below.refl _ ((w.alloc (.cells #[.bool false, .slice none 0 0, .int .i64 0] 52)).alloc (.cells #[.bool false, .slice none 0 0, .int .i64 0] 52)))
  have hs7 : Shape ((w.alloc (.cells #[.bool false, .slice none 0 0, .int .i64 0] 52)).alloc (.cells #[.bool false, .slice none 0 0, .int .i64 0] 52)) (w.alloc (.cells #[.bool false, .slice none 0 0, .int .i64 0] 52)).heap.size := ⟨alloc_lt _ _, fun j => by simp, _, _, _, _, _, k3, k4, k5⟩
  have hsz : (w.alloc (.cells #[.bool false, .slice none 0 0, .int .i64 0] 52)).heap.size = w.heap.size + 1 := by simp
  have HS6 := Lib.hid (hs6.below hb2)
  have HN7 : Hid (NBox ((w.alloc (.cells #[.bool false, .slice none 0 0, .int .i64 0] 52)).alloc (.cells #[.bool false, .slice none 0 0, .int .i64 0] 52)) (w.heap.size + 1) 0) := Lib.hid ⟨false, 0, none, 0, by rw [Nt.dg_zero]; rw [← hsz]; exact ⟨k3, k4, k5⟩, by rw [Nt.dg_zero]; exact ⟨rfl, Nat.le_refl _, fun _ => rfl, fun k x hk => by simp at hk⟩, rfl⟩
  have HS7 := Lib.hid (hsz ▸ hs7)
  have HBW := Lib.hid (hb1.trans (hb2.mono hb1.size))
  clear k0 k1 k2 k3 k4 k5 hb1 hb2 hs6 hs7 hsz
  go_enter Tryz.func34, Tryz.ntmps34
  go_wp2_with fail
  generalize (w.alloc (.cells #[.bool false, .slice none 0 0, .int .i64 0] 52)).alloc (.cells #[.bool false, .slice none 0 0, .int .i64 0] 52) = W at *
  obtain ⟨g6, hg6⟩ : ∃ g6, g6 = w.heap.size := ⟨_, rfl⟩
  obtain ⟨g7, hg7⟩ : ∃ g7, g7 = w.heap.size + 1 := ⟨_, rfl⟩
  have HS6' : Hid (Shape W g6) := Lib.hid (by rw [hg6]; exact HS6.out)
  have HS7' : Hid (Shape W g7) := Lib.hid (by rw [hg7]; exact HS7.out)
  have HN7' : Hid (NBox W g7 0) := Lib.hid (by rw [hg7]; exact HN7.out)
  rw [← hg7, ← hg6]
  have h6b : w.heap.size ≤ g6 := by omega
  have h7b : w.heap.size ≤ g7 := by omega
  have hne : g7 ≠ g6 := by omega
  clear HS6 HS7 HN7 hg6 hg7
  go_loopw [8] (fun iv wr => ∃ (i : Nat), iv = .int .i64 i ∧ i ≤ n ∧ Hid (NBox wr g7 (allS x y i)) ∧ Hid (Shape wr g6) ∧ Hid (Shape wr g7) ∧ Hid (Below w.heap.size w wr)) (fun iv _ => n - (intOf iv).toNat)
  case atStart => exact ⟨0, rfl, Nat.zero_le _, HN7', HS6', HS7', HBW⟩
  case round =>
    clear HN7' HS6' HS7' HBW
    obtain ⟨i, rfl, hi, HN, HS6, HS7, HBW⟩ := hrel
    by_cases hlt : i < n
    · obtain ⟨ad, rfl, hab, d1⟩ := (HA.out.below HBW.out).2.2.2 i _ (HX.out i hlt)
      obtain ⟨bd, rfl, hbb, d2⟩ := (HB.out.below HBW.out).2.2.2 _ _ (HY.out i hlt)
      obtain ⟨r, hr⟩ : ∃ r, r = (j + n - i) % n := ⟨_, rfl⟩
      rw [← hr] at d2
      have hrn : r < n := by rw [hr]; exact Nat.mod_lt _ (by omega)
      have u1 : IntKind.i64.wrap ((j : Int) - (i : Int)) = (j : Int) - (i : Int) := by rw [IntKind.wrap_i64]; omega
      have u2 : IntKind.i64.wrap ((j : Int) - (i : Int) + (n : Int)) = (j : Int) - (i : Int) + (n : Int) := by rw [IntKind.wrap_i64]; omega
      have e0 : ((j : Int) - (i : Int) + (n : Int)) = ((j + n - i : Nat) : Int) := by omega
      have u3 : Int.tmod ((j : Int) - (i : Int) + (n : Int)) (n : Int) = (r : Int) := by
        rw [e0, Int.tmod_eq_emod_of_nonneg (by omega), hr, Int.natCast_emod]
      have u3' : ((j : Int) - (i : Int) + (n : Int)) % (n : Int) = (r : Int) := by
        rw [e0, hr, Int.natCast_emod]
      have n0 : ((n : Int) == 0) = false := by simp; omega
      have nz : ¬ n = 0 := by omega
      have b1 : (r : Int) < (n : Int) := by omega
      have hxi := HXR.out i hlt
      have hyi := HYR.out i hlt
      have HL1 : Hid (allS x y (i + 1) = allS x y i + x i * y i) := Lib.hid rfl
      have HVB : Hid ((allS x y i).natAbs ≤ 16384 * (9223372036854775808 * 9223372036854775808)) := Lib.hid (Nat.le_trans (allS_le x y i (fun m hm => HXR.out m (by omega)) (fun m hm => HYR.out m (by omega))) (Nat.mul_le_mul_right _ (by omega)))
      obtain ⟨X, hX⟩ : ∃ X, X = x i := ⟨_, rfl⟩
      obtain ⟨Y, hY⟩ : ∃ Y, Y = y i := ⟨_, rfl⟩
      obtain ⟨V, hV⟩ : ∃ V, V = allS x y i := ⟨_, rfl⟩
      rw [← hX, ← hY, ← hV] at HL1
      rw [← hX] at d1 hxi
      rw [← hY] at d2 hyi
      rw [← hV] at HN HVB
      have HC1 := Lib.hid (fun u => numWhole_any X u (by omega) (by omega))
      have HC2 := Lib.hid (fun u => numWhole_any Y u (by omega) (by omega))
      have HXB : Hid (X.natAbs ≤ 9223372036854775808 ∧ Y.natAbs ≤ 9223372036854775808) := Lib.hid (by omega)
      obtain ⟨s, N, A7, c7, hc7, hu7, hsz⟩ := HN.out
      have HU7 := Lib.hid hu7
      have HSZ := Lib.hid hsz
      have HNB : Hid (N ≤ 16384 * (9223372036854775808 * 9223372036854775808)) := Lib.hid (by rw [← sz_abs s N, hsz]; exact HVB.out)
      obtain ⟨k, hk⟩ : ∃ k, k = (Nt.dg 18446744073709551616 N).length := ⟨_, rfl⟩
      rw [← hk] at hc7
      have HK := Lib.hid hk
      have KS : Hid (∀ v, Below wr.heap.size wr v → (Cells3 v g7 s A7 k c7 0 ∧ (v.cell? (ad.add i) = some (.int .i64 X) ∧ v.cell? (bd.add r) = some (.int .i64 Y)) ∧ Below wr.heap.size wr v)) := Lib.hid (fun v hb =>
        ⟨Cells3.below hc7 HS7.out.1 hb, ⟨(hb.cell (p := ad.add i) (by rw [add_block]; exact hab)).trans d1, (hb.cell (p := bd.add r) (by rw [add_block]; exact hbb)).trans d2⟩, hb⟩)
      clear hr e0 hX hY hV hxi hyi hc7 hu7 hsz HN HVB d1 d2 hk hab hbb
      go_wp2_with fail
      refine wp_region_perm (fun v => Cells3 v g7 s A7 k c7 0 ∧ (v.cell? (ad.add i) = some (.int .i64 X) ∧ v.cell? (bd.add r) = some (.int .i64 Y)) ∧ Below wr.heap.size wr v) [(true, 0), (true, 1), (true, 2), (true, 3), (true, 4), (true, 6), (true, 7), (true, 8), (true, 9), (true, 10), (true, 11), (true, 12), (true, 13), (true, 14), (true, 15), (true, 16), (true, 17), (false, 5), (false, 18), (false, 19), (false, 20)] 21 (by kernel_rfl) (by kernel_rfl) (fun _ _ _ _ _ h => h) ?_ ?_
      · exact KS.out _ (below_drew (Below.refl _ _))
      simp only [List.take_succ_cons, List.take_zero]
      iterate 17
        refine wpHP_take ?_ rfl (by rfl) ?_ ?_
        rotate_left
        · rintro v ⟨⟨_, _, _⟩, ⟨_, _⟩, _⟩; go_simp; try (first | with_reducible rfl | (rw [if_neg nz]))
        simp only [Act.put, List.setIfInBounds_toArray, List.set_cons_zero, List.set_cons_succ]
      refine wpHP_call rfl (by rfl) (fun K hK => ?_)
      have HK1 := Lib.hid hK
      clear hK
      go_simp
      refine (HC1.out _).mono ?_
      rintro e w2 ⟨v1, rfl, hv1, hb2⟩
      have HB2 := Lib.hid ((below_drew (Below.refl wr.heap.size wr)).trans (hb2.mono (below_drew (Below.refl wr.heap.size wr)).size))
      have HV1 := Lib.hid hv1
      clear hb2 hv1 HC1
      refine HK1.out _ _ (KS.out _ HB2.out) ?_
      clear HK1
      try simp only [Act.put, List.setIfInBounds_toArray, List.set_cons_zero, List.set_cons_succ]
      refine wpHP_call rfl (by rfl) (fun K hK => ?_)
      have HK1 := Lib.hid hK
      clear hK
      go_simp
      refine (HC2.out _).mono ?_
      rintro e w3 ⟨v2, rfl, hv2, hb3⟩
      have HB3 := Lib.hid (HB2.out.trans (hb3.mono HB2.out.size))
      have HV1' := Lib.hid (HV1.out.below hb3)
      have HV2 := Lib.hid hv2
      clear hb3 hv2 HC2 HV1 HB2
      refine HK1.out _ _ (KS.out _ HB3.out) ?_
      clear HK1
      try simp only [Act.put, List.setIfInBounds_toArray, List.set_cons_zero, List.set_cons_succ]
      refine wpHP_call rfl (by rfl) (fun K hK => ?_)
      have HK1 := Lib.hid hK
      clear hK
      go_simp
      refine (times_any _ _ _ _ _ _ _ _ _ HV1'.out HV2.out (by have := len_small X.natAbs (by have := HXB.out; omega); omega) (by have := len_small Y.natAbs (by have := HXB.out; omega); omega) (by omega) (by omega) (by omega) (by omega)).mono ?_
      rintro e w4 ⟨v3, rfl, hv3, hb4⟩
      have HB4 := Lib.hid (HB3.out.trans (hb4.mono HB3.out.size))
      have HV3 := Lib.hid hv3
      clear hb4 hv3 HV1' HV2 HB3
      refine HK1.out _ _ (KS.out _ HB4.out) ?_
      clear HK1
      try simp only [Act.put, List.setIfInBounds_toArray, List.set_cons_zero, List.set_cons_succ]
      refine wpHP_call rfl (by rfl) (fun K hK => ?_)
      have HK1 := Lib.hid hK
      clear hK
      go_simp
      have hxy : X.natAbs * Y.natAbs ≤ 16384 * (9223372036854775808 * 9223372036854775808) := Nat.le_trans (Nat.mul_le_mul HXB.out.1 HXB.out.2) (by decide)
      have hnum : NumV w4 (.agg #[.bool s, .slice A7 k c7, .int .i64 0]) s N 0 := ⟨A7, c7, by rw [HK.out], HU7.out.below HB4.out⟩
      refine (plus_any _ s N 0 v3 _ _ _ w4 hnum HV3.out (by have := len_small N HNB.out; omega) (by have := len_small _ hxy; omega) (by omega) (by omega) (by omega) (by omega)).mono ?_
      rintro e w5 ⟨v5, rfl, hv5, hb5⟩
      have hpz := plusN_zero s N (decide (X < 0) != decide (Y < 0)) (X.natAbs * Y.natAbs)
      rw [Int.add_zero] at hv5
      obtain ⟨t, ht⟩ : ∃ t, t = plusN s N 0 (decide (X < 0) != decide (Y < 0)) (X.natAbs * Y.natAbs) 0 := ⟨_, rfl⟩
      rw [← ht] at hv5 hpz
      have HSUM : Hid (sz t.1 t.2.1 = allS x y (i + 1)) := Lib.hid (by rw [hpz.2, HL1.out, HSZ.out, ← sz_mul, sz_int, sz_int])
      rw [hpz.1] at hv5
      obtain ⟨A8, c8, rfl, hu8⟩ := hv5
      have HB5 := Lib.hid (HB4.out.trans (hb5.mono HB4.out.size))
      have HU8 := Lib.hid hu8
      clear hb5 hu8 HV3 HB4 hnum hxy hpz ht
      refine HK1.out _ _ (KS.out _ HB5.out) (wpHP_nil ?_)
      clear HK1
      simp only [QT, List.drop_succ_cons, List.drop_zero, Act.put, List.setIfInBounds_toArray, List.set_cons_zero, List.set_cons_succ]
      obtain ⟨⟨q0, q1, q2⟩, _, _⟩ := KS.out _ HB5.out
      obtain ⟨r1, r2, r3, r4, r5⟩ := num_store q0 q1 q2 HU8.out (Value.bool t.1) (.slice A8 (Nt.dg 18446744073709551616 t.2.1).length c8) (.int .i64 0)
      have HS7' := HS7.out.below HB5.out
      have HS6' := HS6.out.below HB5.out
      have f0 := HS7'.2.1 0
      have f1 := HS7'.2.1 1
      have f2 := HS7'.2.1 2
      have FIN : Hid (NBox (((w5.setCell ⟨g7, 0, none⟩ (.bool t.1)).setCell ⟨g7, 1, none⟩ (.slice A8 (Nt.dg 18446744073709551616 t.2.1).length c8)).setCell ⟨g7, 2, none⟩ (.int .i64 0)) g7 (allS x y (i + 1)) ∧
          Shape (((w5.setCell ⟨g7, 0, none⟩ (.bool t.1)).setCell ⟨g7, 1, none⟩ (.slice A8 (Nt.dg 18446744073709551616 t.2.1).length c8)).setCell ⟨g7, 2, none⟩ (.int .i64 0)) g6 ∧
          Shape (((w5.setCell ⟨g7, 0, none⟩ (.bool t.1)).setCell ⟨g7, 1, none⟩ (.slice A8 (Nt.dg 18446744073709551616 t.2.1).length c8)).setCell ⟨g7, 2, none⟩ (.int .i64 0)) g7 ∧
          Below w.heap.size w (((w5.setCell ⟨g7, 0, none⟩ (.bool t.1)).setCell ⟨g7, 1, none⟩ (.slice A8 (Nt.dg 18446744073709551616 t.2.1).length c8)).setCell ⟨g7, 2, none⟩ (.int .i64 0))) := Lib.hid (by
        obtain ⟨y1, y2, s6, A6, n6, c6, e6, y3⟩ := HS6'
        refine ⟨⟨_, _, _, _, ⟨r3, r4, r5⟩, r1, HSUM.out⟩, ⟨by rw [size_setCell, size_setCell, size_setCell]; exact y1, fun j => by rw [World.frozen?_setCell, World.frozen?_setCell, World.frozen?_setCell]; exact y2 j, _, _, _, _, _, Cells3.store y3 hne _ _ _⟩, ⟨by rw [size_setCell, size_setCell, size_setCell]; exact HS7'.1, fun j => by rw [World.frozen?_setCell, World.frozen?_setCell, World.frozen?_setCell]; exact HS7'.2.1 j, _, _, _, _, _, ⟨r3, r4, r5⟩⟩, r2 _ _ h7b (HBW.out.trans (HB5.out.mono HBW.out.size))⟩)
      clear r1 r2 r3 r4 r5 HS7' HS6' HSUM HU8
      generalize (Nt.dg 18446744073709551616 t.2.1).length = k8 at *
      go_wp2_with fail
      exact ⟨⟨i + 1, by go_num, hlt, Lib.hid FIN.out.1, Lib.hid FIN.out.2.1, Lib.hid FIN.out.2.2.1, Lib.hid FIN.out.2.2.2⟩, by simp [intOf]; omega⟩
    · obtain rfl : n = i := by omega
      obtain ⟨s, N, A7, c7, hc7, hu7, hsz⟩ := HN.out
      obtain ⟨k0, k1, k2⟩ := hc7
      obtain ⟨y1, y2, s6, A6, n6, c6, e6, q0, q1, q2⟩ := HS6.out
      have f0 := y2 0
      have f1 := y2 1
      have f2 := y2 2
      obtain ⟨r1, r2, r3, r4, r5⟩ := num_store q0 q1 q2 hu7 (Value.bool s) (.slice A7 (Nt.dg 18446744073709551616 N).length c7) (.int .i64 0)
      have R1 := Lib.hid r1
      have R2 := Lib.hid (r2 _ _ h6b HBW.out)
      have R3 := Lib.hid (And.intro r3 (And.intro r4 r5))
      have HSZ := Lib.hid hsz
      clear r1 r2 r3 r4 r5 y2 hu7 hsz
      go_wp2
      refine bodyPost_ret (v := .agg #[.bool s, .slice A7 (Nt.dg 18446744073709551616 N).length c7, .int .i64 0]) (by simp [results, Tryz.results34, go_sem, R3.out.1, R3.out.2.1, R3.out.2.2]) rfl ⟨_, s, N, rfl, ⟨A7, c7, rfl, R1.out⟩, HSZ.out, R2.out⟩
end Go.Proofs.YtfpopdneokekiaaGreatDoor

namespace Go.Proofs.YtfpopdneokekiaaGreatDoor
open Go.RowKit Nt
theorem cmp_sz (s : Bool) (N : Nat) (s' : Bool) (M : Nat) : cmpN s N 0 s' M 0 = ordI (sz s N) (sz s' M) := by
  have h := cmpN_val s N 0 s' M 0 0 (by omega) (by omega)
  unfold nv at h
  simpa using h
theorem plus_len (s : Bool) (N : Nat) (s' : Bool) (M : Nat) (hN : N < 2 ^ 150) (hM : M < 2 ^ 150) : (Nt.dg 18446744073709551616 (plusN s N 0 s' M 0).2.1).length ≤ 4 := by
  have h := plusN_lt s N 0 s' M 0 150 0 hN hM (by omega) (by omega)
  have := len_of_lt _ (150 + 0 + 1) h
  omega
theorem dg_single (N : Nat) (h0 : N ≠ 0) (h : N < 18446744073709551616) : Nt.dg 18446744073709551616 N = [(N : Int)] := by
  rw [Nt.dg_pos _ _ (by decide) h0, Nat.mod_eq_of_lt h, Nat.div_eq_of_lt h, Nt.dg_zero]
set_option maxRecDepth 100000 in
set_option maxHeartbeats 4000000 in
theorem rsmall_any (v : Value) (s : Bool) (N : Nat) (w : World) (hv : NumV w v s N 0) (hN : N ≤ 16384 * (9223372036854775808 * 9223372036854775808)) :
    Calls Tryz.prog 33 #[v] w fun e w' => e = .returned (.tuple #[.int .i64 (sumS (sz s N)), .bool (sumB (sz s N))]) ∧ Below w.heap.size w w' := by
  obtain ⟨A, c, rfl, hu⟩ := hv
  have hb0 := (Below.refl w.heap.size w).alloc (Nat.le_refl _) (.cells #[.bool s, .slice A (Nt.dg 18446744073709551616 N).length c, .int .i64 0] 52)
  have HN := Lib.hid hN
  have HU := Lib.hid (hu.below hb0)
  have HB0 := Lib.hid hb0
  have HNV : Hid (∀ u, Below w.heap.size w u → NumV u (.agg #[.bool s, .slice A (Nt.dg 18446744073709551616 N).length c, .int .i64 0]) s N 0) := Lib.hid (fun u hb => ⟨A, c, rfl, hu.below hb⟩)
  obtain ⟨k0, k1, k2, _⟩ := new_cells w _ (.bool s) (.slice A (Nt.dg 18446744073709551616 N).length c) (.int .i64 0) 52 (Below.refl _ (w.alloc (.cells #[.bool s, .slice A (Nt.dg 18446744073709551616 N).length c, .int .i64 0] 52)))
  have hgl := alloc_lt w (.cells #[.bool s, .slice A (Nt.dg 18446744073709551616 N).length c, .int .i64 0] 52)
  have HZ := Lib.hid (fun u (hb : Below w.heap.size w u) => zero_any _ s N 0 u (HNV.out u hb) (by have := len_small N HN.out; omega))
  obtain ⟨x, hx⟩ : ∃ x, x = sz s N := ⟨_, rfl⟩
  have HXS := Lib.hid hx
  rw [← hx]
  clear hu hb0 hN hx
  go_enter Tryz.func33, Tryz.ntmps33
  go_wp2_with fail
  refine (HZ.out _ HB0.out).mono ?_
  rintro e w1 ⟨rfl, hb1⟩
  have HB1 := Lib.hid (HB0.out.trans (hb1.mono (Nat.le_of_lt hgl)))
  obtain ⟨g, hg⟩ : ∃ g, g = w.heap.size := ⟨_, rfl⟩
  have hc : Cells3 w1 g s A (Nt.dg 18446744073709551616 N).length c 0 := Cells3.below (by rw [hg]; exact ⟨k0, k1, k2⟩) (by rw [hg]; exact hgl) hb1
  have hg1 : g < w1.heap.size := Nat.lt_of_lt_of_le (by rw [hg]; exact hgl) hb1.size
  have HU1 := Lib.hid (HU.out.below hb1)
  rw [← hg]
  have KS : Hid (∀ v, Below w1.heap.size w1 v → Cells3 v g s A (Nt.dg 18446744073709551616 N).length c 0 ∧ Below w1.heap.size w1 v) := Lib.hid (fun v hb => ⟨Cells3.below hc hg1 hb, hb⟩)
  clear k0 k1 k2 hgl hg hb1 HZ HU HB0 hc hg1
  by_cases h0 : N = 0
  · have hd : decide (N = 0) = true := decide_eq_true h0
    have E1 : Hid (sumS x = 0 ∧ sumB x = true) := Lib.hid (by rw [HXS.out, h0, sz_zero]; exact ⟨by decide, by decide⟩)
    rw [hd]
    clear h0 hd
    go_wp2_with fail
    go_ret2
    exact ⟨by rw [E1.out.1, E1.out.2]; rfl, HB1.out⟩
  · have hd : decide (N = 0) = false := decide_eq_false h0
    rw [hd]
    have HN0 := Lib.hid h0
    have HW1 := Lib.hid (fun u => numWhole_any (-9223372036854775808) u (by omega) (by omega))
    have HW2 := Lib.hid (fun u => numWhole_any 9223372036854775807 u (by omega) (by omega))
    have hNp : N < 2 ^ 150 := Nat.lt_of_le_of_lt HN.out (by decide)
    have HC1 : Hid (∀ u v2, Below w.heap.size w u → NumV u v2 (decide ((-9223372036854775808 : Int) < 0)) (-9223372036854775808 : Int).natAbs 0 → Calls Tryz.prog 51 #[.agg #[.bool s, .slice A (Nt.dg 18446744073709551616 N).length c, .int .i64 0], v2] u fun r w' => r = .returned (.int .i64 (ordI (sz s N) (-9223372036854775808))) ∧ Below u.heap.size u w') := Lib.hid (fun u v2 hb hv2 => by
      have h := compare_any _ s N 0 v2 _ _ 0 u (HNV.out u hb) hv2 (by have := len_small N HN.out; omega) (by have := len_small (-9223372036854775808 : Int).natAbs (by decide); omega) (by have := plus_len s N (!decide ((-9223372036854775808 : Int) < 0)) (-9223372036854775808 : Int).natAbs hNp (by decide); omega) (by omega) (by omega) (by omega) (by omega)
      rw [cmp_sz, sz_int] at h
      exact h)
    have HC2 : Hid (∀ u v2, Below w.heap.size w u → NumV u v2 (decide ((9223372036854775807 : Int) < 0)) (9223372036854775807 : Int).natAbs 0 → Calls Tryz.prog 51 #[.agg #[.bool s, .slice A (Nt.dg 18446744073709551616 N).length c, .int .i64 0], v2] u fun r w' => r = .returned (.int .i64 (ordI (sz s N) 9223372036854775807)) ∧ Below u.heap.size u w') := Lib.hid (fun u v2 hb hv2 => by
      have h := compare_any _ s N 0 v2 _ _ 0 u (HNV.out u hb) hv2 (by have := len_small N HN.out; omega) (by have := len_small (9223372036854775807 : Int).natAbs (by decide); omega) (by have := plus_len s N (!decide ((9223372036854775807 : Int) < 0)) (9223372036854775807 : Int).natAbs hNp (by decide); omega) (by omega) (by omega) (by omega) (by omega)
      rw [cmp_sz, sz_int] at h
      exact h)
    have HUP : Hid (∀ u, Below w1.heap.size w1 u → Calls Tryz.prog 53 #[.slice A (Nt.dg 18446744073709551616 N).length c, .int .i64 0] u (NatPost N u)) := Lib.hid (fun u hb => by
      have h := natUp_any A _ c _ 0 u (HU1.out.below hb) (by have := len_small N HN.out; omega) (Nt.dig_dg 18446744073709551616 (by decide) N) (by omega)
      rw [Nt.val_dg _ (by decide), Nat.pow_zero, Nat.mul_one] at h
      exact h)
    have HSZA : Hid (x.natAbs = N) := Lib.hid (by rw [HXS.out]; exact sz_abs s N)
    have HSZD : Hid (x = if s = true then -(N : Int) else (N : Int)) := Lib.hid HXS.out
    rw [← HXS.out] at HC1 HC2
    have HDG : Hid (N < 18446744073709551616 → Nt.dg 18446744073709551616 N = [(N : Int)]) := Lib.hid (fun h => dg_single N h0 h)
    generalize (Nt.dg 18446744073709551616 N).length = k at *
    clear h0 hd hNp HNV HU1 HXS
    go_wp2_with fail
    by_cases c1 : x < -9223372036854775808
    · have o1 : ordI x (-9223372036854775808) = -1 := by unfold ordI; rw [if_pos c1]
      have E1 : Hid (sumS x = 0 ∧ sumB x = false) := Lib.hid ⟨by unfold sumS; rw [if_neg (by omega)], by unfold sumB; exact decide_eq_false (by omega)⟩
      rw [o1] at HC1
      clear o1 c1
      refine wp_region_hp (fun v => Cells3 v g s A k c 0 ∧ Below w1.heap.size w1 v) [(true, 0), (false, 1), (false, 2), (true, 3), (true, 4), (true, 5), (true, 6), (true, 7), (true, 8), (true, 9)] (by kernel_rfl) (by kernel_rfl) (fun _ _ _ _ _ h => h) ?_ ?_
      · exact KS.out _ (below_drew (Below.refl _ _))
      iterate 1
        refine wpHP_take ?_ rfl (by rfl) ?_ ?_
        rotate_left
        · rintro v ⟨⟨_, _, _⟩, _⟩; go_simp; try with_reducible rfl
        simp only [Act.put, List.setIfInBounds_toArray, List.set_cons_zero, List.set_cons_succ]
      refine wpHP_call rfl (by rfl) (fun K hK => ?_)
      have HK1 := Lib.hid hK
      clear hK
      go_simp
      refine (HW1.out _).mono ?_
      rintro e w2 ⟨v1, rfl, hv1, hb2⟩
      have HB2 := Lib.hid ((below_drew (Below.refl w1.heap.size w1)).trans (hb2.mono (below_drew (Below.refl w1.heap.size w1)).size))
      have HV1 := Lib.hid hv1
      clear hb2 hv1 HW1
      refine HK1.out _ _ (KS.out _ HB2.out) ?_
      clear HK1
      try simp only [Act.put, List.setIfInBounds_toArray, List.set_cons_zero, List.set_cons_succ]
      refine wpHP_call rfl (by rfl) (fun K hK => ?_)
      have HK1 := Lib.hid hK
      clear hK
      go_simp
      refine (HC1.out _ _ (HB1.out.trans (HB2.out.mono HB1.out.size)) HV1.out).mono ?_
      rintro e w3 ⟨rfl, hb3⟩
      have HB3 := Lib.hid (HB2.out.trans (hb3.mono HB2.out.size))
      clear hb3 HC1 HV1 HB2
      refine HK1.out _ _ (KS.out _ HB3.out) ?_
      clear HK1
      try simp only [Act.put, List.setIfInBounds_toArray, List.set_cons_zero, List.set_cons_succ]
      iterate 2
        refine wpHP_take ?_ rfl (by rfl) ?_ ?_
        rotate_left
        · rintro v ⟨⟨_, _, _⟩, _⟩; go_simp; try with_reducible rfl
        simp only [Act.put, List.setIfInBounds_toArray, List.set_cons_zero, List.set_cons_succ]
      iterate 4
        refine wpHP_skip rfl (by rfl) ?_
        simp only [Act.put, List.setIfInBounds_toArray, List.set_cons_zero, List.set_cons_succ]
      iterate 1
        refine wpHP_take ?_ rfl (by rfl) ?_ ?_
        rotate_left
        · rintro v ⟨⟨_, _, _⟩, _⟩; go_simp; try with_reducible rfl
        simp only [Act.put, List.setIfInBounds_toArray, List.set_cons_zero, List.set_cons_succ]
      refine wpHP_nil ?_
      have HBF := Lib.hid (HB1.out.trans (HB3.out.mono HB1.out.size))
      go_wp2_with fail
      go_ret2
      exact ⟨by rw [E1.out.1, E1.out.2]; rfl, HBF.out⟩
    · have o1 : ordI x (-9223372036854775808) = 0 ∨ ordI x (-9223372036854775808) = 1 := by
        unfold ordI; rw [if_neg c1]; split
        · exact .inl rfl
        · exact .inr rfl
      obtain ⟨q1, hq1⟩ : ∃ q1, q1 = ordI x (-9223372036854775808) := ⟨_, rfl⟩
      rw [← hq1] at o1 HC1
      clear hq1
      have hq : (decide (q1 < 0)) = false := decide_eq_false (by omega)
      by_cases c2 : 9223372036854775807 < x
      · have o2 : ordI x 9223372036854775807 = 1 := by unfold ordI; rw [if_neg (by omega), if_neg (by omega)]
        have E1 : Hid (sumS x = 0 ∧ sumB x = false) := Lib.hid ⟨by unfold sumS; rw [if_neg (by omega)], by unfold sumB; exact decide_eq_false (by omega)⟩
        rw [o2] at HC2
        clear o1 o2 c1 c2
        refine wp_region_hp (fun v => Cells3 v g s A k c 0 ∧ Below w1.heap.size w1 v) [(true, 0), (false, 1), (false, 2), (true, 3), (true, 4), (true, 5), (false, 6), (false, 7), (true, 8), (true, 9)] (by kernel_rfl) (by kernel_rfl) (fun _ _ _ _ _ h => h) ?_ ?_
        · exact KS.out _ (below_drew (Below.refl _ _))
        iterate 1
          refine wpHP_take ?_ rfl (by rfl) ?_ ?_
          rotate_left
          · rintro v ⟨⟨_, _, _⟩, _⟩; go_simp; try with_reducible rfl
          simp only [Act.put, List.setIfInBounds_toArray, List.set_cons_zero, List.set_cons_succ]
        refine wpHP_call rfl (by rfl) (fun K hK => ?_)
        have HK1 := Lib.hid hK
        clear hK
        go_simp
        refine (HW1.out _).mono ?_
        rintro e w2 ⟨v1, rfl, hv1, hb2⟩
        have HB2 := Lib.hid ((below_drew (Below.refl w1.heap.size w1)).trans (hb2.mono (below_drew (Below.refl w1.heap.size w1)).size))
        have HV1 := Lib.hid hv1
        clear hb2 hv1 HW1
        refine HK1.out _ _ (KS.out _ HB2.out) ?_
        clear HK1
        try simp only [Act.put, List.setIfInBounds_toArray, List.set_cons_zero, List.set_cons_succ]
        refine wpHP_call rfl (by rfl) (fun K hK => ?_)
        have HK1 := Lib.hid hK
        clear hK
        go_simp
        refine (HC1.out _ _ (HB1.out.trans (HB2.out.mono HB1.out.size)) HV1.out).mono ?_
        rintro e w3 ⟨rfl, hb3⟩
        have HB3 := Lib.hid (HB2.out.trans (hb3.mono HB2.out.size))
        clear hb3 HC1 HV1 HB2
        refine HK1.out _ _ (KS.out _ HB3.out) ?_
        clear HK1
        try simp only [Act.put, List.setIfInBounds_toArray, List.set_cons_zero, List.set_cons_succ]
        iterate 2
          refine wpHP_take ?_ rfl (by rfl) ?_ ?_
          rotate_left
          · rintro v ⟨⟨_, _, _⟩, _⟩; go_simp; try with_reducible rfl
          simp only [Act.put, List.setIfInBounds_toArray, List.set_cons_zero, List.set_cons_succ]
        iterate 1
          refine wpHP_take ?_ rfl (by rfl) ?_ ?_
          rotate_left
          · rintro v ⟨⟨_, _, _⟩, _⟩; go_simp; try with_reducible rfl
          simp only [Act.put, List.setIfInBounds_toArray, List.set_cons_zero, List.set_cons_succ]
        refine wpHP_call rfl (by rfl) (fun K hK => ?_)
        have HK1 := Lib.hid hK
        clear hK
        go_simp
        refine (HW2.out _).mono ?_
        rintro e w4 ⟨v2, rfl, hv2, hb4⟩
        have HB4 := Lib.hid (HB3.out.trans (hb4.mono HB3.out.size))
        have HV2 := Lib.hid hv2
        clear hb4 hv2 HW2 HB3
        refine HK1.out _ _ (KS.out _ HB4.out) ?_
        clear HK1
        try simp only [Act.put, List.setIfInBounds_toArray, List.set_cons_zero, List.set_cons_succ]
        refine wpHP_call rfl (by rfl) (fun K hK => ?_)
        have HK1 := Lib.hid hK
        clear hK
        go_simp
        refine (HC2.out _ _ (HB1.out.trans (HB4.out.mono HB1.out.size)) HV2.out).mono ?_
        rintro e w5 ⟨rfl, hb5⟩
        have HB5 := Lib.hid (HB4.out.trans (hb5.mono HB4.out.size))
        clear hb5 HC2 HV2 HB4
        refine HK1.out _ _ (KS.out _ HB5.out) ?_
        clear HK1
        try simp only [Act.put, List.setIfInBounds_toArray, List.set_cons_zero, List.set_cons_succ]
        iterate 2
          refine wpHP_take ?_ rfl (by rfl) ?_ ?_
          rotate_left
          · rintro v ⟨⟨_, _, _⟩, _⟩; go_simp; try with_reducible rfl
          simp only [Act.put, List.setIfInBounds_toArray, List.set_cons_zero, List.set_cons_succ]
        refine wpHP_nil ?_
        have HBF := Lib.hid (HB1.out.trans (HB5.out.mono HB1.out.size))
        go_wp2_with fail
        go_ret2
        exact ⟨by rw [E1.out.1, E1.out.2]; rfl, HBF.out⟩
      · have o2 : ordI x 9223372036854775807 = 0 ∨ ordI x 9223372036854775807 = -1 := by
          unfold ordI
          by_cases h : x < 9223372036854775807
          · rw [if_pos h]; exact .inr rfl
          · rw [if_neg h, if_pos (by omega)]; exact .inl rfl
        obtain ⟨q2, hq2⟩ : ∃ q2, q2 = ordI x 9223372036854775807 := ⟨_, rfl⟩
        rw [← hq2] at o2 HC2
        clear hq2
        have hq2 : (decide (0 < q2)) = false := decide_eq_false (by omega)
        have E1 : Hid (sumS x = x ∧ sumB x = true) := Lib.hid ⟨by unfold sumS; rw [if_pos (by omega)], by unfold sumB; exact decide_eq_true (by omega)⟩
        have HNS : Hid (N ≤ 9223372036854775808) := Lib.hid (by have := HSZA.out; omega)
        have HNF : Hid (s = false → N < 9223372036854775808) := Lib.hid (fun h => by have h1 := HSZD.out; rw [h] at h1; simp at h1; omega)
        have HDG2 : Hid (Nt.dg 18446744073709551616 N = [(N : Int)]) := Lib.hid (HDG.out (by have := HNS.out; omega))
        clear o1 o2 c1 c2
        refine wp_region_hp (fun v => Cells3 v g s A k c 0 ∧ Below w1.heap.size w1 v) [(true, 0), (false, 1), (false, 2), (true, 3), (true, 4), (true, 5), (false, 6), (false, 7), (true, 8), (true, 9)] (by kernel_rfl) (by kernel_rfl) (fun _ _ _ _ _ h => h) ?_ ?_
        · exact KS.out _ (below_drew (Below.refl _ _))
        iterate 1
          refine wpHP_take ?_ rfl (by rfl) ?_ ?_
          rotate_left
          · rintro v ⟨⟨_, _, _⟩, _⟩; go_simp; try with_reducible rfl
          simp only [Act.put, List.setIfInBounds_toArray, List.set_cons_zero, List.set_cons_succ]
        refine wpHP_call rfl (by rfl) (fun K hK => ?_)
        have HK1 := Lib.hid hK
        clear hK
        go_simp
        refine (HW1.out _).mono ?_
        rintro e w2 ⟨v1, rfl, hv1, hb2⟩
        have HB2 := Lib.hid ((below_drew (Below.refl w1.heap.size w1)).trans (hb2.mono (below_drew (Below.refl w1.heap.size w1)).size))
        have HV1 := Lib.hid hv1
        clear hb2 hv1 HW1
        refine HK1.out _ _ (KS.out _ HB2.out) ?_
        clear HK1
        try simp only [Act.put, List.setIfInBounds_toArray, List.set_cons_zero, List.set_cons_succ]
        refine wpHP_call rfl (by rfl) (fun K hK => ?_)
        have HK1 := Lib.hid hK
        clear hK
        go_simp
        refine (HC1.out _ _ (HB1.out.trans (HB2.out.mono HB1.out.size)) HV1.out).mono ?_
        rintro e w3 ⟨rfl, hb3⟩
        have HB3 := Lib.hid (HB2.out.trans (hb3.mono HB2.out.size))
        clear hb3 HC1 HV1 HB2
        refine HK1.out _ _ (KS.out _ HB3.out) ?_
        clear HK1
        try simp only [Act.put, List.setIfInBounds_toArray, List.set_cons_zero, List.set_cons_succ]
        iterate 2
          refine wpHP_take ?_ rfl (by rfl) ?_ ?_
          rotate_left
          · rintro v ⟨⟨_, _, _⟩, _⟩; go_simp; try with_reducible rfl
          simp only [Act.put, List.setIfInBounds_toArray, List.set_cons_zero, List.set_cons_succ]
        iterate 1
          refine wpHP_take ?_ rfl (by rfl) ?_ ?_
          rotate_left
          · rintro v ⟨⟨_, _, _⟩, _⟩; go_simp; try with_reducible rfl
          simp only [Act.put, List.setIfInBounds_toArray, List.set_cons_zero, List.set_cons_succ]
        refine wpHP_call rfl (by rfl) (fun K hK => ?_)
        have HK1 := Lib.hid hK
        clear hK
        go_simp
        refine (HW2.out _).mono ?_
        rintro e w4 ⟨v2, rfl, hv2, hb4⟩
        have HB4 := Lib.hid (HB3.out.trans (hb4.mono HB3.out.size))
        have HV2 := Lib.hid hv2
        clear hb4 hv2 HW2 HB3
        refine HK1.out _ _ (KS.out _ HB4.out) ?_
        clear HK1
        try simp only [Act.put, List.setIfInBounds_toArray, List.set_cons_zero, List.set_cons_succ]
        refine wpHP_call rfl (by rfl) (fun K hK => ?_)
        have HK1 := Lib.hid hK
        clear hK
        go_simp
        refine (HC2.out _ _ (HB1.out.trans (HB4.out.mono HB1.out.size)) HV2.out).mono ?_
        rintro e w5 ⟨rfl, hb5⟩
        have HB5 := Lib.hid (HB4.out.trans (hb5.mono HB4.out.size))
        clear hb5 HC2 HV2 HB4
        refine HK1.out _ _ (KS.out _ HB5.out) ?_
        clear HK1
        try simp only [Act.put, List.setIfInBounds_toArray, List.set_cons_zero, List.set_cons_succ]
        iterate 2
          refine wpHP_take ?_ rfl (by rfl) ?_ ?_
          rotate_left
          · rintro v ⟨⟨_, _, _⟩, _⟩; go_simp; try with_reducible rfl
          simp only [Act.put, List.setIfInBounds_toArray, List.set_cons_zero, List.set_cons_succ]
        refine wpHP_nil ?_
        obtain ⟨⟨k0, k1, k2⟩, _⟩ := KS.out _ HB5.out
        have HU5 := Lib.hid (HUP.out _ HB5.out)
        go_wp2_with fail
        refine HU5.out.mono ?_
        rintro e w6 ⟨A9, c9, rfl, hu9, hb6⟩
        rw [HDG2.out] at hu9 ⊢
        obtain ⟨hl9, hn9, _, hcell9⟩ := hu9
        obtain ⟨ad9, rfl, _, d9⟩ := hcell9 0 (N : Int) rfl
        have hz9 : ad9.add 0 = ad9 := by simp [Addr.add]
        rw [hz9] at d9
        clear hz9
        have hlen : ([(N : Int)] : List Int).length = 1 := rfl
        rw [hlen] at hn9 ⊢
        have HB6 := Lib.hid (HB1.out.trans ((HB5.out.trans (hb6.mono HB5.out.size)).mono HB1.out.size))
        obtain ⟨⟨k0', k1', k2'⟩, _⟩ := KS.out _ (HB5.out.trans (hb6.mono HB5.out.size))
        clear hb6 HU5 k0 k1 k2 hl9 hlen HUP
        have hns := HNS.out
        have hm : wrap64 (IntKind.u64.wrap (-(N : Int))) = -(N : Int) := by
          unfold wrap64; rw [IntKind.wrap_u64]; omega
        have hm2 : IntKind.i64.wrap (IntKind.u64.wrap (-(N : Int))) = -(N : Int) := by
          rw [IntKind.wrap_u64, IntKind.wrap_i64]; omega
        clear hns
        cases s with
        | true =>
          have HX : Hid (sumS x = -(N : Int) ∧ sumB x = true) := Lib.hid ⟨by rw [E1.out.1, HSZD.out]; rfl, E1.out.2⟩
          go_wp2_with fail
          go_ret2
          refine ⟨?_, HB6.out⟩
          rw [HX.out.1, HX.out.2, ← hm]; rfl
        | false =>
          have HX : Hid (sumS x = (N : Int) ∧ sumB x = true) := Lib.hid ⟨by rw [E1.out.1, HSZD.out]; rfl, E1.out.2⟩
          have hxr : sumS x = x := E1.out.1
          have hm3 : wrap64 (N : Int) = (N : Int) ∧ IntKind.i64.wrap (N : Int) = (N : Int) := by
            have := HNF.out rfl
            refine ⟨?_, ?_⟩
            · unfold wrap64; omega
            · rw [IntKind.wrap_i64]; omega
          clear hxr
          go_wp2_with fail
          go_ret2
          refine ⟨?_, HB6.out⟩
          rw [HX.out.1, HX.out.2, ← hm3.1]; rfl
end Go.Proofs.YtfpopdneokekiaaGreatDoor

namespace Go.Proofs.YtfpopdneokekiaaGreatDoor
open Go.RowKit Nt
theorem ownsRow_belowR {w w' : World} {base e size : Nat} {v : Value} {n : Nat} {xs : List Value} (h : w.ownsRow base e size v n xs) (hb : Below w.heap.size w w') : w'.ownsRow base e size v n xs := by
  refine ⟨h.1, ?_⟩
  rcases h.2 with h' | ⟨g', cap', cur, h', hb', hg, rest⟩
  · exact .inl h'
  · exact .inr ⟨g', cap', cur, h', hb', by rw [hb.block g' (Array.getElem?_eq_some_iff.1 hg).1]; exact hg, rest⟩
/-- What the reference's Plainly tells of rows that fit. -/
def RPlnPost (n : Nat) (a b : List Int) (w : World) (e : Ending) (w' : World) : Prop :=
  ((∀ j < n, sumB (cvI a b n j) = true) ∧ ∃ A c, e = .returned (.tuple #[.slice A n c, .int .i64 0]) ∧ UL w' A n c ((List.range n).map (cvI a b n)) ∧ Below w.heap.size w w') ∨
  ((∃ j, j < n ∧ sumB (cvI a b n j) = false) ∧ e = .returned (.tuple #[.slice none 0 0, .int .i64 6]) ∧ Below w.heap.size w w')
theorem cvI_le {a b : List Int} {n j : Nat} (hn1 : 1 ≤ n) (hn2 : n ≤ 16384) (ha : a.length = n) (hb : b.length = n) (ra : L64b a) (rb : L64b b) : (cvI a b n j).natAbs ≤ 16384 * (9223372036854775808 * 9223372036854775808) := by
  have hm : ∀ m, (j + n - m) % n < n := fun m => Nat.mod_lt _ (by omega)
  unfold cvI
  refine Nat.le_trans (allS_le _ _ n (fun m hm => ra _ (List.mem_of_getElem? (get_of ha hm))) (fun m _ => rb _ (List.mem_of_getElem? (get_of hb (hm m))))) (Nat.mul_le_mul_right _ hn2)
set_option maxRecDepth 100000 in
set_option maxHeartbeats 4000000 in
theorem refplainly_any (K n : Nat) (A B : Option Addr) (c c' : Nat) (a b : List Int) (w : World) (hK : K ≤ 14) (hn : n = 2 ^ K) (ha : UL w A n c a) (hb : UL w B n c' b) (ra : L64b a) (rb : L64b b) :
    Calls Tryz.prog 14 #[.slice A n c, .slice B n c'] w (RPlnPost n a b w) := by
  obtain ⟨i0, hi0, hz0, hz1, hz2⟩ := info_parts i64_info
  have h2 : 2 ^ K ≤ 2 ^ 14 := Nat.pow_le_pow_right (by decide) hK
  have h1 := Nat.two_pow_pos K
  have hn1 : 1 ≤ n := by omega
  have hn2 : n ≤ 16384 := by omega
  have HO := Lib.hid (reforder_yes K n A B c c' w hK hn)
  have HAT := Lib.hid (fun j (hj : j < n) u (hu : Below w.heap.size w u) => at_any2 A B n c c' j a b u hn1 hn2 hj (ha.below hu) (hb.below hu) ra rb)
  have HCV := Lib.hid (fun j => cvI_le (j := j) hn1 hn2 ha.1 hb.1 ra rb)
  obtain ⟨R, hR⟩ : ∃ R, R = (List.range n).map (cvI a b n) := ⟨_, rfl⟩
  have HRM := Lib.hid hR
  have HRL : Hid (R.length = n) := Lib.hid (by rw [hR]; simp)
  have HRX : Hid (∀ i < n, R[i]? = some (cvI a b n i)) := Lib.hid (fun i hi => by rw [hR, List.getElem?_map, List.getElem?_range hi]; rfl)
  clear ha hb ra rb h1 h2 hn hK hR
  go_enter Tryz.func14, Tryz.ntmps14
  go_wp2_with fail
  refine HO.out.mono ?_
  rintro e w1 ⟨rfl, rfl⟩
  go_wp2_with fail
  go_loopw [8, 9] (fun vv iv wr => ∃ (i : Nat), iv = .int .i64 i ∧ i ≤ n ∧ Hid (∀ j < i, sumB (cvI a b n j) = true) ∧ Hid (wr.ownsRow w.heap.size 2 1 vv i ((R.take i).map (Value.int .i64))) ∧ Hid (Below w.heap.size w wr)) (fun _ iv _ => n - (intOf iv).toNat)
  case atStart => exact ⟨0, rfl, Nat.zero_le _, Lib.hid (fun j hj => absurd hj (Nat.not_lt_zero _)), Lib.hid (World.ownsRow_nil _ _ _ _), Lib.hid (Below.refl _ _)⟩
  case round =>
    obtain ⟨i, rfl, hi, HT, HOWN, HB⟩ := hrel
    by_cases hlt : i < n
    · have HC := Lib.hid (HAT.out i hlt wr HB.out)
      have HRi := Lib.hid (HRX.out i hlt)
      have HCB := Lib.hid (HCV.out i)
      obtain ⟨z, hz⟩ : ∃ z, z = cvI a b n i := ⟨_, rfl⟩
      have HZ := Lib.hid hz
      rw [← hz] at HC HRi HCB
      clear hz
      go_wp2_with fail
      refine HC.out.mono ?_
      rintro e w2 ⟨v, s, N, rfl, hv, hsz, hb2⟩
      have HSM := Lib.hid (rsmall_any v s N w2 hv (by rw [← sz_abs s N, hsz]; exact HCB.out))
      rw [hsz] at HSM
      have HOWN2 : Hid (w2.ownsRow w.heap.size 2 1 u8 i ((R.take i).map (Value.int .i64))) := Lib.hid (ownsRow_belowR HOWN.out hb2)
      have HB2 := Lib.hid (HB.out.trans (hb2.mono HB.out.size))
      clear hv hsz hb2 HC
      go_wp2_with fail
      refine HSM.out.mono ?_
      rintro e w3 ⟨rfl, hb3⟩
      have HOWN3 : Hid (w3.ownsRow w.heap.size 2 1 u8 i ((R.take i).map (Value.int .i64))) := Lib.hid (ownsRow_belowR HOWN2.out hb3)
      have HB3 := Lib.hid (HB2.out.trans (hb3.mono HB2.out.size))
      clear hb3 HSM HOWN2 HB2 HOWN HB
      cases hs : sumB z with
      | false =>
        have HNO : Hid (∃ j, j < n ∧ sumB (cvI a b n j) = false) := Lib.hid ⟨i, hlt, by rw [← HZ.out]; exact hs⟩
        clear hs
        go_wp2_with fail
        go_ret2
        exact .inr ⟨HNO.out, rfl, HB3.out⟩
      | true =>
        have HTN : Hid (∀ j < i + 1, sumB (cvI a b n j) = true) := Lib.hid (fun j hj => by
          by_cases e : j = i
          · rw [e, ← HZ.out]; exact hs
          · exact HT.out j (by omega))
        rw [sum_told hs]
        have OWN2 : Hid (∀ m : Int, (w3.alloc (.cells #[.int .i64 m] 2)).ownsRow w.heap.size 2 1 u8 i ((R.take i).map (Value.int .i64))) := Lib.hid (fun m => HOWN3.out.alloc _)
        have CELLS2 := Lib.hid (fun m => cell1L w3 m 2)
        have SIZE2 : Hid (∀ m : Int, w.heap.size ≤ (w3.alloc (.cells #[.int .i64 m] 2)).heap.size) := Lib.hid (fun m => by have := HB3.out.size; simp; omega)
        have H63 : Hid (i + 1 ≤ maxLen) := Lib.hid (by simp only [maxLen]; omega)
        have H64 : Hid ((i + 1) * 8 ≤ 140737488355328) := Lib.hid (by omega)
        have HFN := Lib.hid (fun (v' : Value) (w4 : World) (h1 : w4.ownsRow w.heap.size 2 1 v' (i + 1) ((R.take i).map (Value.int .i64) ++ [.int .i64 z])) (h2 : (w3.alloc (.cells #[.int .i64 z] 2)).grownBy w4 (Value.ownBlock u8)) =>
          (show w4.ownsRow w.heap.size 2 1 v' (i + 1) ((R.take (i + 1)).map (Value.int .i64)) ∧ Below w.heap.size w w4 from
            ⟨by rw [List.take_add_one, HRi.out]; simpa using h1, ((HB3.out.alloc HB3.out.size _).grown h2 (SIZE2.out z) (fun b hb => ((OWN2.out z).lt b hb).1))⟩))
        clear hs
        go_wp2_with (at_builtin; refine wpList_append_own _ rfl (.tmp 36) (.tmp 38) _ rfl w.heap.size 2 i0 _ 1 8 Tryz.underlying22 hi0 hz0 hz1 hz2 rfl (Nat.le_refl 1) u8 i ((R.take i).map (Value.int .i64)) rfl (OWN2.out z) ⟨w3.heap.size, 0, none⟩ 1 1 [Value.int .i64 z] rfl (CELLS2.out z).1 (CELLS2.out z).2.1 (CELLS2.out z).2.2 H63.out H64.out (SIZE2.out z) ?_; intro v' w4 hown hg _; obtain ⟨f1, f2⟩ := HFN.out v' w4 hown hg; clear hown hg)
        exact ⟨⟨i + 1, by go_num, hlt, HTN, Lib.hid f1, Lib.hid f2⟩, by simp [intOf]; omega⟩
    · obtain rfl : n = i := by omega
      have e1 : R.take n = R := List.take_of_length_le (by rw [HRL.out]; exact Nat.le_refl _)
      rw [e1] at HOWN
      obtain ⟨A', c2, hv, hu⟩ := UL.of_own HOWN.out
      have HU := Lib.hid hu
      have HV := Lib.hid hv
      clear e1 hu hv
      go_wp2_with fail
      go_ret2
      exact .inl ⟨HT.out, A', c2, by rw [← HV.out]; rfl, by rw [← HRM.out]; exact HU.out, HB.out⟩
theorem refplainly_shape (n n' : Nat) (A B : Option Addr) (c c' : Nat) (w : World) (hn : n < 9223372036854775808) (hn' : n' < 9223372036854775808) (h : ¬ OrdOk n n') :
    Calls Tryz.prog 14 #[.slice A n c, .slice B n' c'] w fun e w' => e = .returned (.tuple #[.slice none 0 0, .int .i64 4]) ∧ w = w' := by
  have HO := Lib.hid (reforder_no n n' A B c c' w hn hn' h)
  clear h
  go_enter Tryz.func14, Tryz.ntmps14
  go_wp2_with fail
  refine HO.out.mono ?_
  rintro e w1 ⟨rfl, rfl⟩
  go_wp2_with fail
  go_ret2
  exact ⟨rfl, rfl⟩
theorem plainly_shape (n n' : Nat) (A B : Option Addr) (c c' : Nat) (w : World) (hn : n < 9223372036854775808) (h : ¬ OrdOk n n') (hT : TabAt 2 Lib.deBruijn64tab w) :
    Calls Tryz.prog 13 #[.slice A n c, .slice B n' c'] w fun e w' => e = .returned (.tuple #[.slice none 0 0, .int .i64 4]) ∧ w = w' := by
  have HO := Lib.hid (rorder_no n n' A B c c' w hn h hT)
  clear h hT
  go_enter Tryz.func13, Tryz.ntmps13
  go_wp2_with fail
  refine HO.out.mono ?_
  rintro e w1 ⟨k, rfl, rfl⟩
  go_wp2_with fail
  go_ret2
  exact ⟨rfl, rfl⟩
/-- Are rows longer than that? -/
theorem long_yes (K n : Nat) (m : Nat) (A B : Option Addr) (c c' : Nat) (w : World) (hK : K ≤ 14) (hn : n = 2 ^ K) (hm : m ≤ 1000000) :
    Calls Tryz.prog 11 #[.slice A n c, .slice B n c', .int .i64 m] w fun e w' => e = .returned (.bool (decide (m < n))) ∧ w = w' := by
  have HO := Lib.hid (reforder_yes K n A B c c' w hK hn)
  clear hn
  go_enter Tryz.func11, Tryz.ntmps11
  go_wp2_with fail
  by_cases h : m < n
  · have HD : Hid (decide (m < n) = true) := Lib.hid (decide_eq_true h)
    have h9 : decide ((m : Int) < (n : Int)) = true := decide_eq_true (by omega)
    refine HO.out.mono ?_
    rintro e w1 ⟨rfl, rfl⟩
    go_wp2_with fail
    go_ret
    exact ⟨by first | rfl | (rw [HD.out]; rfl) | (simp only [HD.out]; rfl), rfl⟩
  · have HD : Hid (decide (m < n) = false) := Lib.hid (decide_eq_false h)
    have h9 : decide ((m : Int) < (n : Int)) = false := decide_eq_false (by omega)
    refine HO.out.mono ?_
    rintro e w1 ⟨rfl, rfl⟩
    go_wp2_with fail
    go_ret
    exact ⟨by first | rfl | (rw [HD.out]; rfl) | (simp only [HD.out]; rfl), rfl⟩
theorem long_no (n n' : Nat) (m : Nat) (A B : Option Addr) (c c' : Nat) (w : World) (hn : n < 9223372036854775808) (hn' : n' < 9223372036854775808) (h : ¬ OrdOk n n') :
    Calls Tryz.prog 11 #[.slice A n c, .slice B n' c', .int .i64 m] w fun e w' => e = .returned (.bool false) ∧ w = w' := by
  have HO := Lib.hid (reforder_no n n' A B c c' w hn hn' h)
  clear h
  go_enter Tryz.func11, Tryz.ntmps11
  go_wp2_with fail
  refine HO.out.mono ?_
  rintro e w1 ⟨rfl, rfl⟩
  go_wp2_with fail
  go_ret
  exact ⟨rfl, rfl⟩
end Go.Proofs.YtfpopdneokekiaaGreatDoor

namespace Go.Proofs.YtfpopdneokekiaaGreatDoor
open Go.RowKit
theorem L64.b {l : List Int} (h : L64 l) : L64b l := fun x hx => by have := h x hx; omega
theorem UL.nil (w : World) : UL w none 0 0 [] := ⟨rfl, Nat.le_refl _, fun _ => rfl, fun k x hk => by simp at hk⟩
/-- Both plain products are the same: what is known of the first one. -/
def PlnBoth (n : Nat) (a b : List Int) (w : World) (e : Ending) (w' : World) : Prop :=
  ∃ C m cc l T, e = .returned (.tuple #[.slice C m cc, .int .i64 T]) ∧ UL w' C m cc l ∧ m ≤ 16384 ∧ Below w.heap.size w w' ∧
    ∀ u e' u', RPlnPost n a b u e' u' → ∃ C' cc', e' = .returned (.tuple #[.slice C' m cc', .int .i64 T]) ∧ UL u' C' m cc' l ∧ Below u.heap.size u u'
theorem pln_split {n : Nat} {a b : List Int} {w w' : World} {e : Ending} (hn : n ≤ 16384) (h : PlnPost n a b w e w') : PlnBoth n a b w e w' := by
  rcases h with ⟨h1, g, h2, h3, h4⟩ | ⟨⟨j, hj, h1⟩, h2, h3⟩
  · refine ⟨_, _, _, _, _, h2, h3.u, hn, h4, fun u e' u' h' => ?_⟩
    rcases h' with ⟨_, A, c, g2, g3, g4⟩ | ⟨⟨j, hj, g1⟩, _⟩
    · exact ⟨A, c, g2, g3, g4⟩
    · rw [h1 j hj] at g1; cases g1
  · refine ⟨_, _, _, _, _, h2, UL.nil _, by omega, h3, fun u e' u' h' => ?_⟩
    rcases h' with ⟨g1, _⟩ | ⟨_, g2, g3⟩
    · rw [g1 j hj] at h1; cases h1
    · exact ⟨none, 0, g2, UL.nil _, g3⟩
set_option maxRecDepth 100000 in
set_option maxHeartbeats 4000000 in
theorem ringPlain_walk (W : World) (A : Option Addr) (n c : Nat) (a : List Int) (B : Option Addr) (n' c' : Nat) (b : List Int) (hn : n ≤ 20000000000000) (hn' : n' ≤ 20000000000000) (ha : UL W A n c a) (la : L64 a) (hb : UL W B n' c' b) (lb : L64 b) (hR : RWd An.PI W) :
    Calls Tryz.prog 3 #[.slice A n c, .slice B n' c'] W fun e w' => e = .returned (.bool true) ∧ Below W.heap.size W w' := by
  have HA := Lib.hid ha
  have HB := Lib.hid hb
  have HR := Lib.hid hR
  have HAW := Lib.hid (rawake_any W hR)
  by_cases hlong : OrdOk n n' ∧ 32 < n
  · obtain ⟨⟨K, hK, hnK, hnn⟩, h32⟩ := hlong
    subst hnn
    have HL := Lib.hid (fun u => long_yes K n' 32 A B c c' u hK hnK (by omega))
    have hd : decide (32 < n') = true := decide_eq_true h32
    rw [hd] at HL
    clear ha hb hR la lb hK hnK hd h32
    go_enter Tryz.func3, Tryz.ntmps3
    go_wp2_with fail
    refine HAW.out.mono ?_
    rintro e w1 ⟨rfl, b1⟩
    have B1 := Lib.hid b1
    clear b1 HAW
    go_wp2_with fail
    refine (HL.out _).mono ?_
    rintro e w2 ⟨rfl, rfl⟩
    go_wp2_with fail
    go_ret
    exact ⟨rfl, B1.out⟩
  · have HL : Hid (∀ u, Calls Tryz.prog 11 #[.slice A n c, .slice B n' c', .int .i64 32] u fun e w' => e = .returned (.bool false) ∧ u = w') := Lib.hid (fun u => by
      by_cases ho : OrdOk n n'
      · obtain ⟨K, hK, hnK, hnn⟩ := ho
        subst hnn
        have h := long_yes K n' 32 A B c c' u hK hnK (by omega)
        rw [decide_eq_false (fun h32 => hlong ⟨⟨K, hK, hnK, rfl⟩, h32⟩)] at h
        exact h
      · exact long_no n n' 32 A B c c' u (by omega) (by omega) ho)
    have HP : Hid (∀ u X Y x y, UL u X n x a → UL u Y n' y b → TabAt 2 Lib.deBruijn64tab u → Calls Tryz.prog 13 #[.slice X n x, .slice Y n' y] u fun e w' =>
        ∃ C m cc l T, e = .returned (.tuple #[.slice C m cc, .int .i64 T]) ∧ UL w' C m cc l ∧ m ≤ 16384 ∧ Below u.heap.size u w' ∧
          ∀ u X Y x y, UL u X n x a → UL u Y n' y b → Calls Tryz.prog 14 #[.slice X n x, .slice Y n' y] u fun e' u' => ∃ C' cc', e' = .returned (.tuple #[.slice C' m cc', .int .i64 T]) ∧ UL u' C' m cc' l ∧ Below u.heap.size u u') := Lib.hid (fun u X Y x y hX hY hT => by
      by_cases ho : OrdOk n n'
      · obtain ⟨K, hK, hnK, hnn⟩ := ho
        subst hnn
        have h2 : 2 ^ K ≤ 2 ^ 14 := Nat.pow_le_pow_right (by decide) hK
        refine (rplainly_any K n' X Y x y a b u hK hnK hX hY la.b lb.b hT).mono ?_
        intro e w' h
        obtain ⟨C, m, cc, l, T, h1, h3, h4, h5, h6⟩ := pln_split (by omega) h
        exact ⟨C, m, cc, l, T, h1, h3, h4, h5, fun u X Y x y hX hY => (refplainly_any K n' X Y x y a b u hK hnK hX hY la.b lb.b).mono (fun e' u' h' => h6 u e' u' h')⟩
      · refine (plainly_shape n n' X Y x y u (by omega) ho hT).mono ?_
        rintro e w' ⟨rfl, rfl⟩
        exact ⟨none, 0, 0, [], 4, rfl, UL.nil _, by omega, Below.refl _ _, fun u X Y x y _ _ => (refplainly_shape n n' X Y x y u (by omega) (by omega) ho).mono (fun e' u' h' => ⟨none, 0, h'.1, by rw [← h'.2]; exact UL.nil _, by rw [← h'.2]; exact Below.refl _ _⟩)⟩)
    clear ha hb hR la lb hlong
    go_enter Tryz.func3, Tryz.ntmps3
    go_wp2_with fail
    refine HAW.out.mono ?_
    rintro e w1 ⟨rfl, b1⟩
    have B1 := Lib.hid b1
    have C1 := Lib.hid (lent_longs A n c a w1 hn (HA.out.below b1))
    clear b1 HAW
    go_wp2_with fail
    refine (HL.out _).mono ?_
    rintro e w2 ⟨rfl, rfl⟩
    clear HL
    go_wp2_with fail
    refine C1.out.mono ?_
    rintro e w2 ⟨ga, rfl, la, b2⟩
    have B2 := Lib.hid (B1.out.trans (b2.mono B1.out.size))
    have LA := Lib.hid la
    have C2 := Lib.hid (lent_longs B n' c' b w2 hn' (HB.out.below B2.out))
    clear b2 la B1 C1
    go_wp2_with fail
    refine C2.out.mono ?_
    rintro e w3 ⟨gb, rfl, lb, b3⟩
    have B3 := Lib.hid (B2.out.trans (b3.mono B2.out.size))
    have LA2 := Lib.hid (LA.out.below b3)
    have LB := Lib.hid lb
    have C3 := Lib.hid (HP.out w3 _ _ (n + 12) (n' + 12) LA2.out.u LB.out.u (HR.out.below B3.out).aw.tab)
    clear b3 lb B2 C2 LA HP
    go_wp2_with fail
    refine C3.out.mono ?_
    rintro e w4 ⟨C, m, cc, l, T, rfl, hu4, hm, b4, hs⟩
    have B4 := Lib.hid (B3.out.trans (b4.mono B3.out.size))
    have LA4 := Lib.hid (LA2.out.below b4)
    have LB4 := Lib.hid (LB.out.below b4)
    have HU4 := Lib.hid hu4
    have C4 := Lib.hid (hs w4 A B c c' (HA.out.below B4.out) (HB.out.below B4.out))
    clear b4 hs hu4 B3 C3 LA2 LB
    go_wp2_with fail
    refine C4.out.mono ?_
    rintro e w5 ⟨C', cc', rfl, hu5, b5⟩
    have B5 := Lib.hid (B4.out.trans (b5.mono B4.out.size))
    have LA5 := Lib.hid (LA4.out.below b5)
    have LB5 := Lib.hid (LB4.out.below b5)
    have C5 := Lib.hid (same_longs C m cc C' cc' l w5 (by omega) (HU4.out.below b5) hu5)
    clear b5 hu5 C4 LA4 LB4 B4 HU4
    go_wp2_with fail
    refine C5.out.mono ?_
    rintro e w6 ⟨rfl, b6⟩
    have B6 := Lib.hid (B5.out.trans (b6.mono B5.out.size))
    have C6 := Lib.hid (kept_longs A n c ga a w6 hn (LA5.out.below b6) (HA.out.below B6.out))
    have LB6 := Lib.hid (LB5.out.below b6)
    clear b6 C5 LA5 LB5 B5
    go_wp2_with fail
    refine C6.out.mono ?_
    rintro e w7 ⟨rfl, b7⟩
    have B7 := Lib.hid (B6.out.trans (b7.mono B6.out.size))
    have C7 := Lib.hid (kept_longs B n' c' gb b w7 hn' (LB6.out.below b7) (HB.out.below B7.out))
    clear b7 C6 LB6 B6
    go_wp2_with fail
    refine C7.out.mono ?_
    rintro e w8 ⟨rfl, b8⟩
    have B8 := Lib.hid (B7.out.trans (b8.mono B7.out.size))
    clear b8 C7 B7
    go_wp2_with fail
    go_ret
    exact ⟨rfl, B8.out⟩
end Go.Proofs.YtfpopdneokekiaaGreatDoor

namespace Go.Proofs.YtfpopdneokekiaaGreatDoor
open Go.ChangeShapes Go.WideShapes Go.ChangeAt Go.RowKit
namespace ringPlain
theorem own : ownKnob Tryz.prog.godebug = none := by kernel_rfl
set_option maxRecDepth 100000 in
/-- What the walk gives, for every argument and every world that holds the tables. -/
theorem contract (H : Type) (enc : TypeId × Value → H) (W : World) (base : Nat) (args : Array Value) (ds gs : List (DataW H)) (before : List MemPlace)
    (hval0 : ∀ (j : Nat) t v, Tryz.f3.params[j]? = some t → args[j]? = some v → Value.okWide Tryz.prog W .any base t v)
    (hW : DataW.Whole enc Tryz.prog Tryz.f3.params.toList Rows.ringPlainSpec.vars false W args.toList ds gs before)
    (hz : (DataW.weightsEach Tryz.prog (Tryz.f3.params.toList ++ (OpenSpec.ofChange Rows.ringPlainSpec).bare.plain.varTypes Tryz.prog) (ds ++ gs)).all (· ≤ reachBytes) = true) (hL : laidMetH Tryz.prog Rows.ringPlainRow.laid W) :
    Calls Tryz.prog 3 args W fun e W' => ∃ v, e = .returned v ∧ Rows.ringPlainSpec.post enc Tryz.prog Tryz.f3 false true false false W args v W' := by
  have hval : ∀ (j : Nat) t v, Tryz.f3.params[j]? = some t → args[j]? = some v → Value.okWide Tryz.prog W .any base t v := hval0
  have hW' := hW
  obtain ⟨p, q, hA0, hV, rfl, hfz, hnd⟩ := hW
  have hA : DataW.TrodAll enc Tryz.prog W 0 (fun _ => true) true Tryz.f3.params.toList args.toList ds p := hA0
  rw [Tryz.params3] at hA hval
  have hts : (Tryz.f3.params.toList ++ (OpenSpec.ofChange Rows.ringPlainSpec).bare.plain.varTypes Tryz.prog) = [22, 22] := by kernel_rfl
  rw [hts] at hz
  obtain ⟨v0, vs0, d0, ds0, p0, q0, hargs, rfl, rfl, h0, r0⟩ := trodAll_cons hA
  obtain ⟨v1, vs1, d1, ds1, p1, q1, rfl, rfl, rfl, h1, r1⟩ := trodAll_cons r0
  obtain ⟨rfl, rfl, rfl⟩ := trodAll_nil r1
  obtain rfl : args = #[v0, v1] := by cases args; simp_all
  obtain ⟨rfl, rfl⟩ := trodVars_none hV
  obtain ⟨a0, n0, c0, z0, rfl, w0, l0, _⟩ := in_longs Tryz.underlying22 Tryz.underlying2 (by kernel_rfl) (hval 0 22 v0 rfl rfl) h0
  have b0 := long_bound (j := 0) (t := 22) (e := 2) hz rfl rfl Tryz.underlying22 (by kernel_rfl) (long_size Tryz.underlying22 (by kernel_rfl) h0)
  obtain ⟨a1, n1, c1, z1, rfl, w1, l1, _⟩ := in_longs Tryz.underlying22 Tryz.underlying2 (by kernel_rfl) (hval 1 22 v1 rfl rfl) h1
  have b1 := long_bound (j := 1) (t := 22) (e := 2) hz rfl rfl Tryz.underlying22 (by kernel_rfl) (long_size Tryz.underlying22 (by kernel_rfl) h1)
  have hR : RWd An.PI W := rwd_laid hL
  clear hA0 hval0 hz hL
  simp only [List.append_nil, List.nil_append] at hW'
  refine (ringPlain_walk W a0 n0 c0 z0 a1 n1 c1 z1 b0 b1 w0 l0 w1 l1 hR).mono fun e W' ⟨he, hg⟩ => ?_
  subst he
  exact ⟨_, rfl, post_of_below (pv := []) hW' (fun _ _ _ => (trodAll_cons_mk (shut_bool Tryz.underlying4 _) trodAll_mk0)) (fun sp hsp => (trodAll_cons_mk (WideElems.Trod_stays (by kernel_rfl) (by kernel_rfl) (of_decide_eq_true (by kernel_rfl)) h0 (fun x hx => hg.same (hW'.lt x (by simp [hx]))) (fun x hx => hsp x (by simp [hx]))) (trodAll_cons_mk (WideElems.Trod_stays (by kernel_rfl) (by kernel_rfl) (of_decide_eq_true (by kernel_rfl)) h1 (fun x hx => hg.same (hW'.lt x (by simp [hx]))) (fun x hx => hsp x (by simp [hx]))) trodAll_mk0))) (fun _ _ => rfl) (by simp)
    hg (ok_one (by kernel_rfl) rfl (okWide_bool_mk Tryz.underlying4 _))⟩
/-- A world for the witness: the settled one, the tables holding what their initialisers lay. -/
def lay (zs : List Nat) : Obj → Obj
  | .cells _ t frozen => .cells (zs.map fun (x : Nat) => Value.int .u8 (Int.ofNat x)).toArray t frozen
  | o => o
noncomputable def laidWorld (os : Os) : World :=
  { World.holding Tryz.prog os ⟨#[], #[], []⟩ with heap := (((World.holding Tryz.prog os ⟨#[], #[], []⟩).heap.modify 1 (lay [0, 1, 28, 2, 29, 14, 24, 3, 30, 22, 20, 15, 25, 17, 4, 8, 31, 27, 13, 23, 21, 19, 16, 7, 26, 12, 18, 6, 11, 5, 10, 9])).modify 2 (lay Lib.deBruijn64tab)).modify 3 (lay nibT) }
theorem laid_met (os : Os) : laidMet Tryz.prog Rows.ringPlainRow.laid ((laidWorld os).forCall (fun _ _ => 0) ⟨#[], #[.slice none 0 0, .slice none 0 0], []⟩).memory :=
  laidMet_of_run' 8 (by kernel_rfl) (by kernel_rfl)
theorem reads (os : Os) {H : Type} (enc : TypeId × Value → H) : ∃ places, DataW.whole enc Tryz.prog ((laidWorld os).forCall (fun _ _ => 0) ⟨#[], #[.slice none 0 0, .slice none 0 0], []⟩).memory Tryz.f3.params.toList Rows.ringPlainSpec.vars false (#[.slice none 0 0, .slice none 0 0] : Array Value).toList 8 = some ([.nil, .nil], [], places) :=
  ⟨[], by kernel_rfl⟩
set_option maxRecDepth 100000 in
theorem lifted (os : Os) (started : os.Started) (H : Type) (enc : TypeId × Value → H) (F : Stop.Interp) :
    ReturnsInHanded {} Tryz.checked os 3 .any ((OpenSpec.ofChange Rows.ringPlainSpec).preRow enc Tryz.prog Tryz.f3 Rows.ringPlainRow.domain false Rows.ringPlainRow.laid) (((OpenSpec.ofChange Rows.ringPlainSpec).at F).post enc Tryz.prog Tryz.f3 false true false false) := by
  obtain ⟨places, hx⟩ := reads os enc
  refine returnsInHanded_of_row (C := Tryz.checked) (s := OpenSpec.ofChange Rows.ringPlainSpec) own started (by kernel_rfl) Tryz.func3
    (witness_row_at (enc := enc) (C := Tryz.checked) false (laidWorld os) #[.slice none 0 0, .slice none 0 0] rfl (by kernel_rfl) (by kernel_rfl) (by kernel_rfl)
      (OpenSpec.preRow_of_cond 8 hx (by kernel_rfl) (fun k hk => by cases hk) (by kernel_rfl) (laid_met os))) ?_
  intro W base args ds gs before hval hW _ _ hz hL _ _
  exact contract H enc W base args ds gs before hval hW hz hL
theorem said : Rows.RingPlainSaid :=
  OpenClaim.holds_of_cond 3 Tryz.f3 rfl rfl rfl rfl rfl rfl rfl ⟨rfl, rfl, rfl, rfl, rfl⟩ rfl rfl rfl rfl rfl (by kernel_rfl) Tryz.func3 (by kernel_rfl)
    (of_decide_eq_true (by kernel_rfl)) (by unfold Func.isWrapper; first | (rw [if_pos (by decide +kernel)]; kernel_rfl) | (rw [if_neg (by decide +kernel)]; exact ⟨rfl, rfl⟩))
    (fun os started H enc _ F => by rw [OpenClaim.pre_eq_preRow]; exact lifted os started H enc F)
/-- No parameter wants a stand-in; the program's own looks are off. -/
theorem plain (f : FuncId) (fn : Func) (hf : Tryz.pinned.checked.prog.funcNamed "rosette/rosettelaw11.RingPlain" = some f) (hfn : Tryz.pinned.checked.prog.funcs[f]? = some fn) :
    false = Tryz.pinned.checked.prog.looks [] ∧ ∀ (j : Nat) t, fn.params[j]? = some t → Tryz.pinned.checked.prog.wantsStandIn t = false := by
  obtain rfl : f = 3 := Option.some.inj ((show Tryz.prog.funcNamed "rosette/rosettelaw11.RingPlain" = some 3 by kernel_rfl).symm.trans hf) |>.symm
  obtain rfl : fn = Tryz.f3 := (Option.some.inj (Tryz.func3.symm.trans hfn)).symm
  refine ⟨by kernel_rfl, fun j t ht => ?_⟩
  rw [Tryz.params3] at ht
  have hm := Array.mem_of_getElem? ht
  have hor : t = 22 := by simp at hm; omega
  subst hor
  exact (show Tryz.prog.wantsStandIn 22 = false by kernel_rfl)
theorem card : Rows.RingPlainCardSaid :=
  Claim7.holds_tied_plain_at .later [] _ _ _ _ said (fun _ h => by cases h) (by kernel_rfl) (fun _ h => by cases h) ringPlain_row_tie rfl ⟨rfl, rfl⟩ (by kernel_rfl) rfl plain (by kernel_rfl)
end ringPlain
theorem ringPlain_holds : Rows.RingPlainCardSaid := ringPlain.card
#print axioms ringPlain_holds
end Go.Proofs.YtfpopdneokekiaaGreatDoor

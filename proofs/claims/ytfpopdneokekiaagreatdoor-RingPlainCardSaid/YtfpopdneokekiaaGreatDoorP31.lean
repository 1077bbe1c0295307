/-
  Walk: RingBounds.
  What the rows' listed variables give: the tables that the transforms read.
  Walk: awake of the ring's laws.
  The closed bounds of awake; literal rows.
  ring.Cyclic where it tells, from the conditions on the floats.
  The closed round product of awake.
  A closed check of StepOk.
  The closed wheels of the orders 0 and 2.
-/
import Derived.Test.YtfpopdneokekiaaGreatDoorP30
import Derived.Lib.LaidTab
set_option linter.unusedVariables false
set_option linter.unusedSimpArgs false
namespace Go.Proofs.YtfpopdneokekiaaGreatDoor
theorem piM_closed : An.piM 164 = some (An.PI : Int) := by unfold An.PI An.piM An.arcM; decide +kernel
theorem PI_small : An.PI < 2 ^ 200 := by decide +kernel
def wh2 : List (Nat × Nat) := [(4607182418800017408, 0), (0, 4607182418800017408), (13830554455654793216, 0), (0, 13830554455654793216)]
theorem whl_two : Whl An.PI 2 wh2 := .inl ⟨by decide, rfl, fun i hi => by
  have h : i = 0 ∨ i = 1 ∨ i = 2 ∨ i = 3 := by have : i < 4 := hi; omega
  rcases h with rfl | rfl | rfl | rfl <;> decide +kernel⟩
end Go.Proofs.YtfpopdneokekiaaGreatDoor

namespace Go.Proofs.YtfpopdneokekiaaGreatDoor
instance (z t : Nat × Nat) : Decidable (CAdd z t) := by unfold CAdd; infer_instance
instance (z t : Nat × Nat) : Decidable (CSub z t) := by unfold CSub; infer_instance
instance (z t : Nat × Nat) : Decidable (CMul z t) := by unfold CMul; infer_instance
def stepChk (W : Nat → Nat → Nat × Nat) (K : Nat) (x : Nat → Nat × Nat) : Bool :=
  (List.range K).all fun k => (List.range (2 ^ K)).all fun p => !decide (p % 2 ^ (k + 1) < 2 ^ k) ||
    decide (CMul (W k (p % 2 ^ k)) (LV W K x k (p + 2 ^ k)) ∧ CAdd (LV W K x k p) (cmul (W k (p % 2 ^ k)) (LV W K x k (p + 2 ^ k))) ∧ CSub (LV W K x k p) (cmul (W k (p % 2 ^ k)) (LV W K x k (p + 2 ^ k))))
theorem stepOk_of {W : Nat → Nat → Nat × Nat} {K : Nat} {x : Nat → Nat × Nat} (h : stepChk W K x = true) : StepOk W K x := by
  intro k p hk hp hpn
  have h1 := List.all_eq_true.1 h k (List.mem_range.2 hk)
  have h2 := List.all_eq_true.1 h1 p (List.mem_range.2 hpn)
  rw [decide_eq_true hp] at h2
  simpa using h2
/-- The rows of awake. -/
def xa (p : Nat) : Nat × Nat := ([4607182418800017408, 4611686018427387904, 4613937818241073152, 4616189618054758400].getD p 0, 0)
def xb (p : Nat) : Nat × Nat := ([0, 4607182418800017408, 0, 0].getD p 0, 0)
theorem step_xa : StepOk (wW 2 (halfL 2 wh2)) 2 xa := stepOk_of (by decide +kernel)
theorem step_xb : StepOk (wW 2 (halfL 2 wh2)) 2 xb := stepOk_of (by decide +kernel)
end Go.Proofs.YtfpopdneokekiaaGreatDoor

namespace Go.Proofs.YtfpopdneokekiaaGreatDoor
def xw (p : Nat) : Nat × Nat := cmul (LV (wW 2 (halfL 2 wh2)) 2 xa 2 p) (LV (wW 2 (halfL 2 wh2)) 2 xb 2 p)
theorem step_xw : StepOk (wW 2 ((halfL 2 wh2).map cjW)) 2 xw := stepOk_of (by decide +kernel)
instance (x : Nat) : Decidable (finW x) := by unfold finW; infer_instance
theorem fin_xw : ∀ p < 4, finW (LV (wW 2 ((halfL 2 wh2).map cjW)) 2 xw 2 p).1 ∧ finW (LV (wW 2 ((halfL 2 wh2).map cjW)) 2 xw 2 p).2 := by decide +kernel
theorem mul_xw : ∀ p < 4, CMul (LV (wW 2 (halfL 2 wh2)) 2 xa 2 p) (LV (wW 2 (halfL 2 wh2)) 2 xb 2 p) := by decide +kernel
theorem out_xw : (List.range 4).map (fun p => scW (-2) (LV (wW 2 ((halfL 2 wh2).map cjW)) 2 xw 2 p).1) = [4616189618054758400, 4607182418800017408, 4611686018427387904, 4613937818241073152] := by decide +kernel
theorem near_xw : [4616189618054758400, 4607182418800017408, 4611686018427387904, 4613937818241073152].map Fl.nearN = [4, 1, 2, 3] := by decide +kernel
end Go.Proofs.YtfpopdneokekiaaGreatDoor

namespace Go.Proofs.YtfpopdneokekiaaGreatDoor
open Go.RowKit
def fX (l : List Int) (p : Nat) : Nat × Nat := (floatOfInt .f64 (l.getD p 0), 0)
def cU (K : Nat) (l : List (Nat × Nat)) (a : List Int) (p : Nat) : Nat × Nat := LV (wW K (halfL K l)) K (fX a) K p
def cW (K : Nat) (l : List (Nat × Nat)) (a b : List Int) (p : Nat) : Nat × Nat := cmul (cU K l a p) (cU K l b p)
def cZ (K : Nat) (l : List (Nat × Nat)) (a b : List Int) (p : Nat) : Nat × Nat := LV (wW K ((halfL K l).map cjW)) K (cW K l a b) K p
/-- The conditions on the floats of a round product: no step comes to a NaN, none is too great. -/
structure CycOk (K : Nat) (l : List (Nat × Nat)) (a b : List Int) : Prop where
  sa : StepOk (wW K (halfL K l)) K (fX a)
  sb : StepOk (wW K (halfL K l)) K (fX b)
  mul : ∀ p < 2 ^ K, CMul (cU K l a p) (cU K l b p)
  sw : StepOk (wW K ((halfL K l).map cjW)) K (cW K l a b)
  fin : ∀ p < 2 ^ K, finW (cZ K l a b p).1 ∧ finW (cZ K l a b p).2
/-- What is told. -/
def cC (K : Nat) (l : List (Nat × Nat)) (a b : List Int) : List Int := (List.range (2 ^ K)).map (fun p => Fl.nearN (scW (-(K : Int)) (cZ K l a b p).1))
theorem Fl.scl_lt (w : Nat) (k : Int) : Fl.scl w k < 2 * Fl.W := by
  unfold Fl.scl
  obtain ⟨r, h, _⟩ := Fl.nearest_word (Fl.sg w) (Fl.mant (Fl.rg w)) (Fl.pl w + k)
  rw [h]
  exact Fl.wd_lt _ _ (Nat.lt_of_le_of_lt (Nat.min_le_right _ _) Fl.I_lt_W)
theorem rcyclic_any (K n P f : Nat) (A B : Option Addr) (c c' : Nat) (a b : List Int) (l : List (Nat × Nat)) (w : World) (hK : K ≤ 14) (hn : n = 2 ^ K) (hR : RWd P w) (hl : Whl P K l) (hv : ∀ z ∈ l, z.2 < 2 * Fl.W)
    (ha : UL w A n c a) (hb : UL w B n c' b) (oa : okL a) (ob : okL b)
    (hbound : Calls Tryz.prog 18 #[.slice A n c, .slice B n c'] w fun e w' => e = .returned (.tuple #[.float .f64 f, .int .i64 0]) ∧ Below w.heap.size w w')
    (hlt : (FloatKind.f64.format.order f 4598175219545276416 == some Ordering.lt) = true) (hC : CycOk K l a b) :
    Calls Tryz.prog 19 #[.slice A n c, .slice B n c'] w fun e w' => ∃ g, e = .returned (.tuple #[.slice (some ⟨g, 0, none⟩) n n, .int .i64 0]) ∧ LRow w' w.heap.size g n (cC K l a b) ∧ Below w.heap.size w w' := by
  have h2 : 2 ^ K ≤ 2 ^ 14 := Nat.pow_le_pow_right (by decide) hK
  have h1 := Nat.two_pow_pos K
  have hn1 : 1 ≤ n := by omega
  have hn2 : n ≤ 16384 := by omega
  have hfx : ∀ (x : List Int), x.length = n → ∀ p < n, (x.map (fun z => floatOfInt .f64 z))[p]? = some (fX x p).1 ∧ (fX x p).2 = 0 := fun x hx p hp => by
    rw [List.getElem?_map, get_of hx hp]
    exact ⟨rfl, rfl⟩
  have hflt : ∀ (X : Option Addr) (cx : Nat) (x : List Int), UL w X n cx x → okL x → ∀ u, Below w.heap.size w u → Calls Tryz.prog 35 #[.slice X n cx] u fun e w' => ∃ g s, e = .returned (.tuple #[.slice (some ⟨g, 0, none⟩) n n, .float .f64 s, .bool true]) ∧ FRow w' u.heap.size g n (x.map (fun z => floatOfInt .f64 z)) ∧ Below u.heap.size u w' := fun X cx x hx ox u hu => by
    refine (rfloats_any X n cx x u hn1 hn2 (hx.below hu)).mono ?_
    rintro e w' (⟨_, g, h3, h4, h5⟩ | ⟨h3, _⟩)
    · exact ⟨g, _, h3, h4, h5⟩
    · exact absurd ox h3
  have hmem : ∀ z ∈ (List.range n).map (fun p => scW (-(K : Int)) (cZ K l a b p).1), z < 2 * Fl.W := fun z hz => by
    obtain ⟨p, hp, rfl⟩ := List.mem_map.1 hz
    have hf := (hC.fin p (by rw [← hn]; exact List.mem_range.1 hp)).1
    unfold scW
    split
    · exact hf.1
    · exact Fl.scl_lt _ _
  have hcc : ((List.range n).map (fun p => scW (-(K : Int)) (cZ K l a b p).1)).map Fl.nearN = cC K l a b := by
    rw [List.map_map, hn]; rfl
  rw [← hcc]
  exact rcyclic_core n f A B c c' (a.map (fun z => floatOfInt .f64 z)) (b.map (fun z => floatOfInt .f64 z)) ((List.range n).map (cU K l a)) ((List.range n).map (cU K l b)) ((List.range n).map (cW K l a b)) ((List.range n).map (fun p => scW (-(K : Int)) (cZ K l a b p).1)) w hn1 hn2 hbound hlt
    (hflt A c a ha oa) (hflt B c' b hb ob)
    (fun u g hu hr => rforward_any K P n g l _ (fX a) u hK hn (hR.below hu) hl hr (hfx a ha.1) hC.sa)
    (fun u g hu hr => rforward_any K P n g l _ (fX b) u hK hn (hR.below hu) hl hr (hfx b hb.1) hC.sb)
    (fun u g g' hg hg' => tpoint_any n g g' _ _ _ u hn1 hn2 hg hg' (by simp) (fun i hi => ⟨cU K l a i, cU K l b i, by simp [hi], by simp [hi], hC.mul i (by rw [← hn]; exact hi), by simp [hi, cW]⟩))
    (fun u g hu hr => rback_any K P n g l _ (cW K l a b) u hK hn (hR.below hu) hl hv hr (fun p hp => by simp [hp]) hC.sw (fun p hp => hC.fin p (by rw [← hn]; exact hp)))
    hmem
end Go.Proofs.YtfpopdneokekiaaGreatDoor

namespace Go.Proofs.YtfpopdneokekiaaGreatDoor
open Go.RowKit
def cf1 (K : Nat) : Nat := (Fl.mulS (rC K) (rS K) true).getD 0
def cf2 (K a : Nat) : Nat := (Fl.mulS (cf1 K) a true).getD 0
def cf3 (K a b : Nat) : Nat := (Fl.mulS (cf2 K a) b true).getD 0
def bf (K a b : Nat) : Nat := (Fl.addS (cf3 K a b) 103582791429521408 true).getD 0
def ClosedR (K a b : Nat) : Prop := Fl.mulS (rC K) (rS K) true = some (cf1 K) ∧ Fl.mulS (cf1 K) a true = some (cf2 K a) ∧ Fl.mulS (cf2 K a) b true = some (cf3 K a b) ∧ Fl.addS (cf3 K a b) 103582791429521408 true = some (bf K a b)
theorem chain_closed {o : Option Nat} {m2 m3 m4 : Nat → Option Nat} {s c1 c2 c3 c4 : Nat} (h : ∃ u1 u2 u3, Fl.Is o u1 ∧ Fl.Is (m2 u1) u2 ∧ Fl.Is (m3 u2) u3 ∧ Fl.Is (m4 u3) s) (h1 : o = some c1) (h2 : m2 c1 = some c2) (h3 : m3 c2 = some c3) (h4 : m4 c3 = some c4) : s = c4 := by
  obtain ⟨u1, u2, u3, g1, g2, g3, g4⟩ := h
  have e1 := Is_some g1 h1
  subst e1
  have e2 := Is_some g2 h2
  subst e2
  have e3 := Is_some g3 h3
  subst e3
  exact Is_some g4 h4
theorem ringis_closed {K a b s : Nat} (h : RingIs K a b s) (hc : ClosedR K a b) : s = bf K a b :=
  chain_closed (o := Fl.mulS (rC K) (rS K) true) (m2 := fun u => Fl.mulS u a true) (m3 := fun u => Fl.mulS u b true) (m4 := fun u => Fl.addS u 103582791429521408 true) h hc.1 hc.2.1 hc.2.2.1 hc.2.2.2
theorem bf_two : ClosedR 2 4616189618054758400 4607182418800017408 ∧ (FloatKind.f64.format.order (bf 2 4616189618054758400 4607182418800017408) 4598175219545276416 == some Ordering.lt) = true := by unfold ClosedR; decide +kernel
theorem bf_zero : ClosedR 0 4607182418800017408 4607182418800017408 ∧ FloatKind.f64.format.order (bf 0 4607182418800017408 4607182418800017408) 4386506037058863104 = some .gt ∧ FloatKind.f64.format.order (bf 0 4607182418800017408 4607182418800017408) 4386787512035573760 = some .lt := by unfold ClosedR; decide +kernel
theorem bf_big : ClosedR 0 4724276009111650304 4724276009111650304 ∧ (FloatKind.f64.format.order (bf 0 4724276009111650304 4724276009111650304) 4598175219545276416 == some Ordering.lt) = false := by unfold ClosedR; decide +kernel
/-- Bound of rows that fit: the float. -/
theorem bound_told (K n : Nat) (A B : Option Addr) (c c' : Nat) (a b : List Int) (w : World) (hK : K ≤ 14) (hn : n = 2 ^ K) (ha : UL w A n c a) (hb : UL w B n c' b) (oa : okL a) (ob : okL b) (hT : TabAt 2 Lib.deBruijn64tab w) :
    Calls Tryz.prog 18 #[.slice A n c, .slice B n c'] w fun e w' => ∃ s, e = .returned (.tuple #[.float .f64 s, .int .i64 0]) ∧ RingQ K (floatOfInt .f64 (mxL a)) (floatOfInt .f64 (mxL b)) s 0 ∧ RingIs K (floatOfInt .f64 (mxL a)) (floatOfInt .f64 (mxL b)) s ∧ Below w.heap.size w w' := by
  have h2 : 2 ^ K ≤ 2 ^ 14 := Nat.pow_le_pow_right (by decide) hK
  refine (rbound_any A B n n c c' a b w (by omega) ha hb hT (mx_sz oa).facts.1 (mx_sz ob).facts.1).mono ?_
  rintro e w' (⟨h, _⟩ | ⟨_, h, _⟩ | ⟨_, _, K', hK', hn', _, h⟩)
  · exact absurd ⟨K, hK, hn, rfl⟩ h
  · exact absurd ⟨oa, ob⟩ h
  · have e1 : 2 ^ K' = 2 ^ K := by rw [← hn', hn]
    have e : K' = K := by
      rcases Nat.lt_trichotomy K' K with h5 | h5 | h5
      · have := Nat.pow_lt_pow_right (show 1 < 2 by decide) h5; omega
      · exact h5
      · have := Nat.pow_lt_pow_right (show 1 < 2 by decide) h5; omega
    rw [e] at h
    exact ring_told hK (mx_sz oa) (mx_sz ob) h
theorem bound_closed (K n f fa fb : Nat) (A B : Option Addr) (c c' : Nat) (a b : List Int) (w : World) (hK : K ≤ 14) (hn : n = 2 ^ K) (ha : UL w A n c a) (hb : UL w B n c' b) (oa : okL a) (ob : okL b) (hT : TabAt 2 Lib.deBruijn64tab w)
    (h1 : floatOfInt .f64 (mxL a) = fa) (h2 : floatOfInt .f64 (mxL b) = fb) (hf : ClosedR K fa fb) (hff : bf K fa fb = f) :
    Calls Tryz.prog 18 #[.slice A n c, .slice B n c'] w fun e w' => e = .returned (.tuple #[.float .f64 f, .int .i64 0]) ∧ Below w.heap.size w w' := by
  refine (bound_told K n A B c c' a b w hK hn ha hb oa ob hT).mono ?_
  rintro e w' ⟨s, h3, _, h4, h5⟩
  rw [h1, h2] at h4
  rw [ringis_closed h4 hf, hff] at h3
  exact ⟨h3, h5⟩
/-- A literal row. -/
theorem UL_new (w : World) (l : List Int) (t : TypeId) : UL (w.alloc (.cells (l.map (Value.int .i64)).toArray t)) (some ⟨w.heap.size, 0, none⟩) l.length l.length l := by
  refine ⟨rfl, Nat.le_refl _, fun h => (by cases h), fun j x hj => ⟨_, rfl, alloc_lt w _, ?_⟩⟩
  rw [cell_new]
  simp [hj]
theorem LRow.u {w : World} {base g n : Nat} {l : List Int} (h : LRow w base g n l) : UL w (some ⟨g, 0, none⟩) n n l := by
  obtain ⟨A, c, h1, h2⟩ := UL.of_own h
  injection h1 with e1 e2 e3
  subst e1 e3
  exact h2
theorem fX_a : fX [1, 2, 3, 4] = xa := by
  funext p
  match p with
  | 0 => decide +kernel
  | 1 => decide +kernel
  | 2 => decide +kernel
  | 3 => decide +kernel
  | p + 4 => simp [fX, xa]; decide +kernel
theorem fX_b : fX [0, 1, 0, 0] = xb := by
  funext p
  match p with
  | 0 => decide +kernel
  | 1 => decide +kernel
  | 2 => decide +kernel
  | 3 => decide +kernel
  | p + 4 => simp [fX, xb]; decide +kernel
theorem cyc_two : CycOk 2 wh2 [1, 2, 3, 4] [0, 1, 0, 0] where
  sa := by rw [fX_a]; exact step_xa
  sb := by rw [fX_b]; exact step_xb
  mul := fun p hp => by unfold cU; rw [fX_a, fX_b]; exact mul_xw p hp
  sw := by
    have e : cW 2 wh2 [1, 2, 3, 4] [0, 1, 0, 0] = xw := by funext p; unfold cW cU xw; rw [fX_a, fX_b]
    rw [e]; exact step_xw
  fin := fun p hp => by
    have e : cW 2 wh2 [1, 2, 3, 4] [0, 1, 0, 0] = xw := by funext p; unfold cW cU xw; rw [fX_a, fX_b]
    unfold cZ; rw [e]; exact fin_xw p hp
theorem out_two : cC 2 wh2 [1, 2, 3, 4] [0, 1, 0, 0] = [4, 1, 2, 3] := by
  have e : cW 2 wh2 [1, 2, 3, 4] [0, 1, 0, 0] = xw := by funext p; unfold cW cU xw; rw [fX_a, fX_b]
  have h := out_xw
  have h2 : (List.range (2 ^ 2)).map (fun p => Fl.nearN (scW (-((2 : Nat) : Int)) (cZ 2 wh2 [1, 2, 3, 4] [0, 1, 0, 0] p).1)) = ((List.range 4).map (fun p => scW (-2) (LV (wW 2 ((halfL 2 wh2).map cjW)) 2 xw 2 p).1)).map Fl.nearN := by
    unfold cZ
    rw [e, List.map_map]
    rfl
  unfold cC
  rw [h2, h]
  exact near_xw
end Go.Proofs.YtfpopdneokekiaaGreatDoor

namespace Go.Proofs.YtfpopdneokekiaaGreatDoor
open Go.RowKit
theorem ok_small (l : List Int) (h : (l.all fun x => decide (-9007199254740992 ≤ x ∧ x ≤ 9007199254740992)) = true) : okL l := fun x hx => of_decide_eq_true (List.all_eq_true.1 h x hx)
theorem l64_small (l : List Int) (h : (l.all fun x => decide (-9223372036854775808 ≤ x ∧ x < 9223372036854775808)) = true) : L64b l := fun x hx => of_decide_eq_true (List.all_eq_true.1 h x hx)
theorem aw_cyc (A B : Option Addr) (w : World) (hR : RWd An.PI w) (ha : UL w A 4 4 [1, 2, 3, 4]) (hb : UL w B 4 4 [0, 1, 0, 0]) :
    Calls Tryz.prog 19 #[.slice A 4 4, .slice B 4 4] w fun e w' => ∃ g, e = .returned (.tuple #[.slice (some ⟨g, 0, none⟩) 4 4, .int .i64 0]) ∧ UL w' (some ⟨g, 0, none⟩) 4 4 [4, 1, 2, 3] ∧ Below w.heap.size w w' := by
  have h := rcyclic_any 2 4 An.PI _ A B 4 4 _ _ wh2 w (by decide) rfl hR whl_two (by decide) ha hb (ok_small _ (by decide)) (ok_small _ (by decide))
    (bound_closed 2 4 _ 4616189618054758400 4607182418800017408 A B 4 4 _ _ w (by decide) rfl ha hb (ok_small _ (by decide)) (ok_small _ (by decide)) hR.aw.tab (by decide +kernel) (by decide +kernel) bf_two.1 rfl) bf_two.2 cyc_two
  refine h.mono ?_
  rintro e w' ⟨g, h1, h2, h3⟩
  rw [out_two] at h2
  exact ⟨g, h1, h2.u, h3⟩
theorem aw_pln (A B : Option Addr) (w : World) (hR : RWd An.PI w) (ha : UL w A 2 2 [1, 2]) (hb : UL w B 2 2 [3, 4]) :
    Calls Tryz.prog 13 #[.slice A 2 2, .slice B 2 2] w fun e w' => ∃ g, e = .returned (.tuple #[.slice (some ⟨g, 0, none⟩) 2 2, .int .i64 0]) ∧ UL w' (some ⟨g, 0, none⟩) 2 2 [11, 10] ∧ Below w.heap.size w w' := by
  have h := rplainly_any 1 2 A B 2 2 _ _ w (by decide) rfl ha hb (l64_small _ (by decide)) (l64_small _ (by decide)) hR.aw.tab
  refine h.mono ?_
  have hc : (List.range 2).map (cvI [1, 2] [3, 4] 2) = [11, 10] := by decide
  have ht : ∀ j < 2, sumB (cvI [1, 2] [3, 4] 2 j) = true := by decide
  rintro e w' (⟨_, g, h1, h2, h3⟩ | ⟨⟨j, hj, h1⟩, _⟩)
  · rw [hc] at h2
    exact ⟨g, h1, h2.u, h3⟩
  · rw [ht j hj] at h1; cases h1
theorem aw_bnd (A B : Option Addr) (w : World) (hR : RWd An.PI w) (ha : UL w A 1 1 [1]) (hb : UL w B 1 1 [1]) :
    Calls Tryz.prog 18 #[.slice A 1 1, .slice B 1 1] w fun e w' => e = .returned (.tuple #[.float .f64 (bf 0 4607182418800017408 4607182418800017408), .int .i64 0]) ∧ Below w.heap.size w w' :=
  bound_closed 0 1 _ 4607182418800017408 4607182418800017408 A B 1 1 _ _ w (by decide) rfl ha hb (ok_small _ (by decide)) (ok_small _ (by decide)) hR.aw.tab (by decide +kernel) (by decide +kernel) bf_zero.1 rfl
theorem aw_big (A B : Option Addr) (w : World) (hR : RWd An.PI w) (ha : UL w A 1 1 [67108864]) (hb : UL w B 1 1 [67108864]) :
    Calls Tryz.prog 19 #[.slice A 1 1, .slice B 1 1] w fun e w' => e = .returned (.tuple #[.slice none 0 0, .int .i64 8]) ∧ Below w.heap.size w w' :=
  rcyclic_bound 1 1 _ A B 1 1 w (bound_closed 0 1 _ 4724276009111650304 4724276009111650304 A B 1 1 _ _ w (by decide) rfl ha hb (ok_small _ (by decide)) (ok_small _ (by decide)) hR.aw.tab (by decide +kernel) (by decide +kernel) bf_big.1 rfl) bf_big.2
/-- Two literal rows. -/
theorem two_rows (w : World) (l m : List Int) (t : TypeId) : UL ((w.alloc (.cells (l.map (Value.int .i64)).toArray t)).alloc (.cells (m.map (Value.int .i64)).toArray t)) (some ⟨w.heap.size, 0, none⟩) l.length l.length l ∧
    UL ((w.alloc (.cells (l.map (Value.int .i64)).toArray t)).alloc (.cells (m.map (Value.int .i64)).toArray t)) (some ⟨w.heap.size + 1, 0, none⟩) m.length m.length m ∧
    Below w.heap.size w ((w.alloc (.cells (l.map (Value.int .i64)).toArray t)).alloc (.cells (m.map (Value.int .i64)).toArray t)) := by
  have h1 := UL_new w l t
  have h2 := UL_new (w.alloc (.cells (l.map (Value.int .i64)).toArray t)) m t
  have b1 := (Below.refl w.heap.size w).alloc (Nat.le_refl _) (.cells (l.map (Value.int .i64)).toArray t)
  have b2 := (Below.refl (w.alloc (.cells (l.map (Value.int .i64)).toArray t)).heap.size (w.alloc (.cells (l.map (Value.int .i64)).toArray t))).alloc (Nat.le_refl _) (.cells (m.map (Value.int .i64)).toArray t)
  have hs : (w.alloc (.cells (l.map (Value.int .i64)).toArray t)).heap.size = w.heap.size + 1 := by simp
  rw [← hs]
  exact ⟨h1.below b2, h2, b1.trans (b2.mono b1.size)⟩
set_option maxRecDepth 100000 in
set_option maxHeartbeats 4000000 in
theorem rawake_any (w : World) (hR : RWd An.PI w) : Calls Tryz.prog 10 #[] w fun e w' => e = .returned (.bool true) ∧ Below w.heap.size w w' := by
  have HR := Lib.hid hR
  have HB0 := Lib.hid (Below.refl w.heap.size w)
  obtain ⟨F, hF⟩ : ∃ F, F = bf 0 4607182418800017408 4607182418800017408 := ⟨_, rfl⟩
  have o1 := bf_zero.2.1
  have o2 := bf_zero.2.2
  have HBN := Lib.hid aw_bnd
  rw [← hF] at o1 o2 HBN
  clear hR hF
  go_enter Tryz.func10, Tryz.ntmps10
  go_wp2_with fail
  obtain ⟨u1, u2, b1⟩ := two_rows w [1, 2, 3, 4] [0, 1, 0, 0] 2
  have C1 := Lib.hid (aw_cyc _ _ _ (HR.out.below b1) u1 u2)
  have B1 := Lib.hid b1
  clear u1 u2 b1
  refine C1.out.mono ?_
  rintro e w1 ⟨g1, rfl, r1, b2⟩
  have R1 := Lib.hid r1
  have B2 := Lib.hid (B1.out.trans (b2.mono B1.out.size))
  clear r1 b2 C1 B1
  go_wp2_with fail
  obtain ⟨u1, u2, b1⟩ := two_rows w1 [1, 2] [3, 4] 2
  have B1 := Lib.hid (B2.out.trans (b1.mono B2.out.size))
  have C1 := Lib.hid (aw_pln _ _ _ (HR.out.below B1.out) u1 u2)
  have R1' := Lib.hid (R1.out.below b1)
  clear u1 u2 b1 B2 R1
  refine C1.out.mono ?_
  rintro e w2 ⟨g2, rfl, r2, b2⟩
  have R1 := Lib.hid (R1'.out.below b2)
  have R2 := Lib.hid r2
  have B2 := Lib.hid (B1.out.trans (b2.mono B1.out.size))
  clear r2 b2 C1 B1 R1'
  go_wp2_with fail
  obtain ⟨u1, u2, b1⟩ := two_rows w2 [1] [1] 2
  have B1 := Lib.hid (B2.out.trans (b1.mono B2.out.size))
  have C1 := Lib.hid (HBN.out _ _ _ (HR.out.below B1.out) u1 u2)
  have R1' := Lib.hid (R1.out.below b1)
  have R2' := Lib.hid (R2.out.below b1)
  clear u1 u2 b1 B2 R1 R2 HBN
  refine C1.out.mono ?_
  rintro e w3 ⟨rfl, b2⟩
  have R1 := Lib.hid (R1'.out.below b2)
  have R2 := Lib.hid (R2'.out.below b2)
  have B2 := Lib.hid (B1.out.trans (b2.mono B1.out.size))
  clear b2 C1 B1 R1' R2'
  go_wp2_with fail
  obtain ⟨u1, u2, b1⟩ := two_rows w3 [67108864] [67108864] 2
  have B1 := Lib.hid (B2.out.trans (b1.mono B2.out.size))
  have C1 := Lib.hid (aw_big _ _ _ (HR.out.below B1.out) u1 u2)
  have R1' := Lib.hid (R1.out.below b1)
  have R2' := Lib.hid (R2.out.below b1)
  clear u1 u2 b1 B2 R1 R2
  refine C1.out.mono ?_
  rintro e w4 ⟨rfl, b2⟩
  have R1 := Lib.hid (R1'.out.below b2)
  have R2 := Lib.hid (R2'.out.below b2)
  have B2 := Lib.hid (B1.out.trans (b2.mono B1.out.size))
  clear b2 C1 B1 R1' R2'
  go_wp2_with fail
  have b1 := (Below.refl w4.heap.size w4).alloc (Nat.le_refl _) (.cells (([4, 1, 2, 3] : List Int).map (Value.int .i64)).toArray 2)
  have C1 := Lib.hid (same_longs _ 4 4 _ 4 [4, 1, 2, 3] _ (by decide) (R1.out.below b1) (UL_new w4 [4, 1, 2, 3] 2))
  have B1 := Lib.hid (B2.out.trans (b1.mono B2.out.size))
  have R2' := Lib.hid (R2.out.below b1)
  clear b1 B2 R1 R2
  refine C1.out.mono ?_
  rintro e w5 ⟨rfl, b2⟩
  have R2 := Lib.hid (R2'.out.below b2)
  have B2 := Lib.hid (B1.out.trans (b2.mono B1.out.size))
  clear b2 C1 B1 R2'
  go_wp2_with fail
  have b1 := (Below.refl w5.heap.size w5).alloc (Nat.le_refl _) (.cells (([11, 10] : List Int).map (Value.int .i64)).toArray 2)
  have C1 := Lib.hid (same_longs _ 2 2 _ 2 [11, 10] _ (by decide) (R2.out.below b1) (UL_new w5 [11, 10] 2))
  have B1 := Lib.hid (B2.out.trans (b1.mono B2.out.size))
  clear b1 B2 R2
  refine C1.out.mono ?_
  rintro e w6 ⟨rfl, b2⟩
  have B2 := Lib.hid (B1.out.trans (b2.mono B1.out.size))
  clear b2 C1 B1
  go_wp2_with fail
  go_ret
  exact ⟨rfl, B2.out⟩
end Go.Proofs.YtfpopdneokekiaaGreatDoor

namespace Go.Proofs.YtfpopdneokekiaaGreatDoor
open Go.RowKit
theorem laid_head {P : Program} {W : World} {name : String} {k : IntKind} {zs : List Int} {rest : List (String × DataW Unit)} {ps : List MemPlace} {g : Nat} {t e : TypeId} {n : Nat}
    (hg : P.globalNamed name = some g) (hty : (P.globals[g]?).map (·.type) = some t) (ht : P.underlying t = some (.array n e)) (he : P.underlying e = some (.int k)) (hce : P.cellsOf e = 1) (hct : P.cellsOf t = n)
    (h : DataW.LaidVars P W ((name, Lib.tabData k zs) :: rest) ps) : Lib.TabIs P W name k zs ∧ ∃ q, DataW.LaidVars P W rest q := by
  obtain ⟨g', t', cs, fuel, p, q, hg', ht', hvar, hd, hr, _⟩ := h
  obtain rfl := Option.some.inj (hg.symm.trans hg')
  obtain rfl := Option.some.inj (hty.symm.trans ht')
  refine ⟨?_, q, hr⟩
  unfold Lib.TabIs
  rw [hvar, ← Lib.cells_of_tab ht he hce hct hd]
theorem tabAt_of {W : World} {name : String} {g : Nat} {tab : List Nat} (hg : Tryz.prog.globalNamed name = some g) (h : Lib.TabIs Tryz.prog W name .u8 (tab.map Int.ofNat)) : TabAt g tab W := fun j hj => by
  have := h.cell hg j (by simpa using hj)
  rw [this]
  simp [List.getD, hj]
theorem tab_lt {g : Nat} {tab : List Nat} {W : World} (h : TabAt g tab W) (h0 : 0 < tab.length) : g < W.heap.size := World.block_lt_of_cell? W ⟨g, 0, none⟩ (h 0 h0)
theorem rwd_of {W : World} (h1 : TabAt 2 Lib.deBruijn64tab W) (h2 : TabAt 3 nibT W) : RWd An.PI W :=
  ⟨⟨h1, tab_lt h1 (by decide), piM_closed, PI_small⟩, h2, tab_lt h2 (by decide)⟩
/-- The rows' list. -/
def laidL : List (String × DataW Unit) := [("math/bits.deBruijn32tab", Rows.laid_math_bits_deBruijn32tab), ("math/bits.deBruijn64tab", Rows.laid_math_bits_deBruijn64tab), ("rosette/shuffle.nibble", Rows.laid_rosette_shuffle_nibble)]
theorem gT32 : Tryz.prog.globalNamed "math/bits.deBruijn32tab" = some 1 := by kernel_rfl
theorem gT64 : Tryz.prog.globalNamed "math/bits.deBruijn64tab" = some 2 := by kernel_rfl
theorem gTnib : Tryz.prog.globalNamed "rosette/shuffle.nibble" = some 3 := by kernel_rfl
theorem rwd_laid {W : World} (h : laidMet Tryz.prog laidL W) : RWd An.PI W := by
  obtain ⟨ps, h0, _⟩ := h
  have h0' : DataW.LaidVars Tryz.prog W (("math/bits.deBruijn32tab", Lib.tabData .u8 ([0, 1, 28, 2, 29, 14, 24, 3, 30, 22, 20, 15, 25, 17, 4, 8, 31, 27, 13, 23, 21, 19, 16, 7, 26, 12, 18, 6, 11, 5, 10, 9] : List Int)) :: ("math/bits.deBruijn64tab", Lib.tabData .u8 (Lib.deBruijn64tab.map Int.ofNat)) :: ("rosette/shuffle.nibble", Lib.tabData .u8 (nibT.map Int.ofNat)) :: []) ps := h0
  obtain ⟨_, q1, r1⟩ := laid_head gT32 (t := 187) (e := 5) (n := 32) (by kernel_rfl) Tryz.underlying187 Tryz.underlying5 (by kernel_rfl) (by kernel_rfl) h0'
  obtain ⟨t1, q2, r2⟩ := laid_head gT64 (t := 188) (e := 5) (n := 64) (by kernel_rfl) Tryz.underlying188 Tryz.underlying5 (by kernel_rfl) (by kernel_rfl) r1
  obtain ⟨t2, q3, r3⟩ := laid_head gTnib (t := 201) (e := 5) (n := 16) (by kernel_rfl) Tryz.underlying201 Tryz.underlying5 (by kernel_rfl) (by kernel_rfl) r2
  exact rwd_of (tabAt_of gT64 t1) (tabAt_of gTnib t2)
end Go.Proofs.YtfpopdneokekiaaGreatDoor

namespace Go.Proofs.YtfpopdneokekiaaGreatDoor
open Go.RowKit
end Go.Proofs.YtfpopdneokekiaaGreatDoor

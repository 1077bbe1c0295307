/-
  The row of CutKeeps: for every input the call answers true, and every argument reads behind it as before. No condition.
  How slices of integers and whole numbers by value come in.
  Walk of CutKeeps.
-/
import Derived.Test.YtclnmheplecknaaR6
import Derived.ProofKit
import Derived.OpenShut
import Derived.Laws.Cover2
import Derived.Deep.Slices
import Derived.Lib.SmallJoins
import Derived.Test.YtclnmheplecknaaRows
import Derived.WalkKit
set_option linter.unusedVariables false
set_option linter.unusedSimpArgs false
namespace Go.Proofs.Ytclnmheplecknaa
open Go.RowKit
/-- A slice of one's own whose block lies between two marks. -/
def OwnR (e : TypeId) (K : IntKind) (w : World) (lo hi : Nat) (A : Option Addr) (n c : Nat) (l : List Int) : Prop := ∃ r : Rw, Value.slice A n c = r.val ∧ r.own e K w l ∧ ∀ b, r.A = some b → lo ≤ b ∧ b < hi
theorem OwnR.of {e : TypeId} {K : IntKind} {w : World} {base : Nat} {A : Option Addr} {n c : Nat} {l : List Int} (h : w.ownsRow base e 1 (.slice A n c) n (l.map (Value.int K))) : OwnR e K w base w.heap.size A n c l := by
  obtain ⟨r, h1, h2⟩ := Rw.of_own h
  refine ⟨r, h1, ?_, fun b hb => ?_⟩
  · unfold Rw.own
    rw [← h1, h2]
    exact h.mono (Nat.zero_le _)
  · have := h.lt b (by rw [h1, Rw.block, hb])
    exact this
theorem OwnR.below {e : TypeId} {K : IntKind} {w w' : World} {lo hi : Nat} {A : Option Addr} {n c : Nat} {l : List Int} (h : OwnR e K w lo hi A n c l) (hb : Below w.heap.size w w') : OwnR e K w' lo hi A n c l := by
  obtain ⟨r, h1, h2, h3⟩ := h
  exact ⟨r, h1, h2.below hb, h3⟩
theorem own_keptR {e : TypeId} {K : IntKind} {r : Rw} {w w' : World} {l : List Int} {R : List Rw} (h : r.own e K w l) (hk : KeptR R w w') (hR : ∀ q ∈ R, ∀ b, q.A = some b → r.A ≠ some b) : r.own e K w' l := by
  refine ⟨h.1, ?_⟩
  rcases h.2 with h' | ⟨g', cap', cur, h', hb', hg, rest⟩
  · exact .inl h'
  · have hA : r.A = some g' := by rw [← Rw.block, h']; rfl
    exact .inr ⟨g', cap', cur, h', hb', by rw [hk.block g' (Array.getElem?_eq_some_iff.1 hg).1 (fun q hq e1 => hR q hq g' e1 hA)]; exact hg, rest⟩
theorem OwnR.kept {e : TypeId} {K : IntKind} {w w' : World} {lo hi : Nat} {A : Option Addr} {n c : Nat} {l : List Int} {R : List Rw} (h : OwnR e K w lo hi A n c l) (hk : KeptR R w w') (hR : ∀ q ∈ R, ∀ b, q.A = some b → ¬ (lo ≤ b ∧ b < hi)) : OwnR e K w' lo hi A n c l := by
  obtain ⟨r, h1, h2, h3⟩ := h
  exact ⟨r, h1, own_keptR h2 hk (fun q hq b hb e1 => hR q hq b hb (h3 b e1)), h3⟩
theorem OwnR.ul {w : World} {lo hi : Nat} {A : Option Addr} {n c : Nat} {l : List Int} (h : OwnR 2 .i64 w lo hi A n c l) : UL w A n c l := by
  obtain ⟨r, h1, h2, _⟩ := h
  have h3 : w.ownsRow 0 2 1 (.slice A n c) n (l.map (Value.int .i64)) := by
    rw [h1]
    have : r.n = n := by unfold Rw.val at h1; injection h1 with _ h; exact h.symm
    rw [← this]
    exact h2
  obtain ⟨A', c', e1, hu⟩ := UL.of_own h3
  injection e1 with e1 _ e2
  subst e1
  subst e2
  exact hu
theorem OwnR.u {w : World} {lo hi : Nat} {A : Option Addr} {n c : Nat} {l : List Int} (h : OwnR 55 .u64 w lo hi A n c l) : U w A n c l := by
  obtain ⟨r, h1, h2, _⟩ := h
  have h3 : w.ownsRow 0 55 1 (.slice A n c) n (l.map (Value.int .u64)) := by
    rw [h1]
    have : r.n = n := by unfold Rw.val at h1; injection h1 with _ h; exact h.symm
    rw [← this]
    exact h2
  obtain ⟨A', c', e1, hu⟩ := U.of_own h3
  injection e1 with e1 _ e2
  subst e1
  subst e2
  exact hu
theorem Box1.keptR {g : Nat} {s : Bool} {A : Option Addr} {n c : Nat} {x x' : World} {R : List Rw} (h : Box1 g s A n c x) (hk : KeptR R x x') (hR : ∀ q ∈ R, q.A ≠ some g) : Box1 g s A n c x' :=
  ⟨(hk.cell (p := ⟨g, 0, none⟩) h.2.2 hR).trans h.1, (hk.cell (p := ⟨g, 1, none⟩) h.2.2 hR).trans h.2.1, Nat.lt_of_lt_of_le h.2.2 hk.size⟩
/-- Two rows of longs that lie apart. -/
theorem longs_two (x : World) (lo1 hi1 lo2 hi2 : Nat) (A1 A2 : Option Addr) (n1 c1 n2 c2 : Nat) (l1 l2 : List Int) (h1 : OwnR 2 .i64 x lo1 hi1 A1 n1 c1 l1) (h2 : OwnR 2 .i64 x lo2 hi2 A2 n2 c2 l2) (hn1 : n1 ≤ 1000000) (hn2 : n2 ≤ 1000000) (hlo : hi1 ≤ lo2) :
    Calls Try.prog 27 #[.slice (some ⟨x.heap.size, 0, none⟩) 2 2] (x.alloc (.cells #[.slice A1 n1 c1, .slice A2 n2 c2] 27)) fun e w' => e = .returned (.bool true) ∧ ∃ R : List Rw, KeptR R x w' ∧ ∀ q ∈ R, ∀ b, q.A = some b → (lo1 ≤ b ∧ b < hi1) ∨ (lo2 ≤ b ∧ b < hi2) := by
  obtain ⟨r1, e1, o1, b1⟩ := h1
  obtain ⟨r2, e2, o2, b2⟩ := h2
  have hb : Below x.heap.size x (x.alloc (.cells #[.slice A1 n1 c1, .slice A2 n2 c2] 27)) := (Below.refl _ _).alloc (Nat.le_refl _) _
  have hc : ∀ j, (x.alloc (.cells #[.slice A1 n1 c1, .slice A2 n2 c2] 27)).cell? ⟨x.heap.size, j, none⟩ = (#[Value.slice A1 n1 c1, Value.slice A2 n2 c2])[j]? := fun j => by
    have h := cell_new x #[Value.slice A1 n1 c1, Value.slice A2 n2 c2] 27 j
    have e : (⟨x.heap.size, 0, none⟩ : Addr).add j = ⟨x.heap.size, j, none⟩ := by unfold Addr.add; split <;> simp_all
    rw [e] at h
    exact h
  have hrn1 : r1.n = n1 := by unfold Rw.val at e1; injection e1 with _ h; exact h.symm
  have hrn2 : r2.n = n2 := by unfold Rw.val at e2; injection e2 with _ h; exact h.symm
  refine (apartLongs_any [r1, r2] x.heap.size 2 _ (by simp) (by simp) ?_ ?_ ⟨?_, ?_, by simp⟩).mono ?_
  · intro r hr
    simp at hr
    rcases hr with rfl | rfl <;> omega
  · intro i j a b hij hi hj
    rcases i with _ | _ | i <;> rcases j with _ | _ | j <;> simp at hi hj hij
    · subst hi; subst hj
      cases hA : r1.A with
      | none => exact .inl rfl
      | some p => exact .inr (fun e => by have := b1 p hA; have := b2 p e.symm; omega)
    · subst hi; subst hj
      cases hA : r2.A with
      | none => exact .inl rfl
      | some p => exact .inr (fun e => by have := b2 p hA; have := b1 p e.symm; omega)
  · intro j r hr
    rcases j with _ | _ | j <;> simp at hr
    · subst hr; exact ⟨_, o1.below hb⟩
    · subst hr; exact ⟨_, o2.below hb⟩
  · intro j r hr
    rcases j with _ | _ | j <;> simp at hr
    · subst hr; rw [hc 0, ← e1]; rfl
    · subst hr; rw [hc 1, ← e2]; rfl
  · rintro e w' ⟨rfl, hk⟩
    refine ⟨rfl, [r1, r2], (KeptR.of_below _ hb).trans hk, fun q hq b hqb => ?_⟩
    simp at hq
    rcases hq with rfl | rfl
    · exact .inl (b1 b hqb)
    · exact .inr (b2 b hqb)
/-- Three rows of limbs that lie apart. -/
theorem limbs_three (x : World) (lo1 hi1 lo2 hi2 lo3 hi3 : Nat) (A1 A2 A3 : Option Addr) (n1 c1 n2 c2 n3 c3 : Nat) (l1 l2 l3 : List Int) (h1 : OwnR 55 .u64 x lo1 hi1 A1 n1 c1 l1) (h2 : OwnR 55 .u64 x lo2 hi2 A2 n2 c2 l2) (h3 : OwnR 55 .u64 x lo3 hi3 A3 n3 c3 l3) (hn1 : n1 ≤ 1000000) (hn2 : n2 ≤ 1000000) (hn3 : n3 ≤ 1000000) (hlo : hi1 ≤ lo2) (hlo2 : hi2 ≤ lo3) (hlh : lo2 ≤ hi2) :
    Calls Try.prog 28 #[.slice (some ⟨x.heap.size, 0, none⟩) 3 3] (x.alloc (.cells #[.slice A1 n1 c1, .slice A2 n2 c2, .slice A3 n3 c3] 22)) fun e w' => e = .returned (.bool true) ∧ ∃ R : List Rw, KeptR R x w' ∧ ∀ q ∈ R, ∀ b, q.A = some b → (lo1 ≤ b ∧ b < hi1) ∨ (lo2 ≤ b ∧ b < hi2) ∨ (lo3 ≤ b ∧ b < hi3) := by
  obtain ⟨r1, e1, o1, b1⟩ := h1
  obtain ⟨r2, e2, o2, b2⟩ := h2
  obtain ⟨r3, e3, o3, b3⟩ := h3
  have hb : Below x.heap.size x (x.alloc (.cells #[.slice A1 n1 c1, .slice A2 n2 c2, .slice A3 n3 c3] 22)) := (Below.refl _ _).alloc (Nat.le_refl _) _
  have hc : ∀ j, (x.alloc (.cells #[.slice A1 n1 c1, .slice A2 n2 c2, .slice A3 n3 c3] 22)).cell? ⟨x.heap.size, j, none⟩ = (#[Value.slice A1 n1 c1, Value.slice A2 n2 c2, Value.slice A3 n3 c3])[j]? := fun j => by
    have h := cell_new x #[Value.slice A1 n1 c1, Value.slice A2 n2 c2, Value.slice A3 n3 c3] 22 j
    have e : (⟨x.heap.size, 0, none⟩ : Addr).add j = ⟨x.heap.size, j, none⟩ := by unfold Addr.add; split <;> simp_all
    rw [e] at h
    exact h
  have hrn1 : r1.n = n1 := by unfold Rw.val at e1; injection e1 with _ h; exact h.symm
  have hrn2 : r2.n = n2 := by unfold Rw.val at e2; injection e2 with _ h; exact h.symm
  have hrn3 : r3.n = n3 := by unfold Rw.val at e3; injection e3 with _ h; exact h.symm
  have ap : ∀ (a b : Rw) (la ha lb hb : Nat), (∀ p, a.A = some p → la ≤ p ∧ p < ha) → (∀ p, b.A = some p → lb ≤ p ∧ p < hb) → (ha ≤ lb ∨ hb ≤ la) → a.A = none ∨ a.A ≠ b.A := fun a b la ha lb hb h1 h2 h3 => by
    cases hA : a.A with
    | none => exact .inl rfl
    | some p => exact .inr (fun e => by have := h1 p hA; have := h2 p e.symm; omega)
  refine (apartLimbs_any [r1, r2, r3] x.heap.size 3 _ (by simp) (by simp) ?_ ?_ ⟨?_, ?_, by simp⟩).mono ?_
  · intro r hr
    simp at hr
    rcases hr with rfl | rfl | rfl <;> omega
  · intro i j a b hij hi hj
    rcases i with _ | _ | _ | i <;> rcases j with _ | _ | _ | j <;> simp at hi hj hij
    · subst hi; subst hj; exact ap _ _ _ _ _ _ b1 b2 (.inl hlo)
    · subst hi; subst hj; exact ap _ _ _ _ _ _ b1 b3 (.inl (by omega))
    · subst hi; subst hj; exact ap _ _ _ _ _ _ b2 b1 (.inr hlo)
    · subst hi; subst hj; exact ap _ _ _ _ _ _ b2 b3 (.inl hlo2)
    · subst hi; subst hj; exact ap _ _ _ _ _ _ b3 b1 (.inr (by omega))
    · subst hi; subst hj; exact ap _ _ _ _ _ _ b3 b2 (.inr hlo2)
  · intro j r hr
    rcases j with _ | _ | _ | j <;> simp at hr
    · subst hr; exact ⟨_, o1.below hb⟩
    · subst hr; exact ⟨_, o2.below hb⟩
    · subst hr; exact ⟨_, o3.below hb⟩
  · intro j r hr
    rcases j with _ | _ | _ | j <;> simp at hr
    · subst hr; rw [hc 0, ← e1]; rfl
    · subst hr; rw [hc 1, ← e2]; rfl
    · subst hr; rw [hc 2, ← e3]; rfl
  · rintro e w' ⟨rfl, hk⟩
    refine ⟨rfl, [r1, r2, r3], (KeptR.of_below _ hb).trans hk, fun q hq b hqb => ?_⟩
    simp at hq
    rcases hq with rfl | rfl | rfl
    · exact .inl (b1 b hqb)
    · exact .inr (.inl (b2 b hqb))
    · exact .inr (.inr (b3 b hqb))
/-- What the digits of any number come to. -/
theorem keep_facts {s : Bool} {l : List Int} {b : Nat} (hd : Nt.Dig 18446744073709551616 l) (hn : l.length ≤ 300) (hb1 : 2 ≤ b) (hb2 : b ≤ 30) :
    ∃ (S2 : Bool) (L2 : List Int), wE (b : Int) (dT s l b) = 0 ∧ wS (b : Int) (dT s l b) = S2 ∧ wL (b : Int) (dT s l b) = L2 ∧ L64 (dT s l b) ∧ (dT s l b).length ≤ 1000000 ∧ L2.length ≤ 300 ∧ (dE s l b = 0 → S2 = s ∧ L2 = l) ∧ (dE s l b = 0 ∨ dE s l b = 2) := by
  by_cases hr : rightB s l = true
  · obtain ⟨o1, o2, o3, o4, o5, o6, o7⟩ := back_one (s := s) (mag := l) (b := b) hd hr hb1 hb2
    refine ⟨s, l, o5, o6, o7, fun x hx => ?_, ?_, hn, fun _ => ⟨rfl, rfl⟩, .inl o1⟩
    · have h1 := o4 x hx
      have h2 : (2 : Nat) ^ (b - 1) ≤ 2 ^ 29 := Nat.pow_le_pow_right (by decide) (by omega)
      have h3 : (2 : Nat) ^ 29 = 536870912 := by decide
      omega
    · have h1 : 64 * l.length / b ≤ 64 * l.length := Nat.div_le_self _ _
      omega
  · have hn2 : ¬ (rightB s l = true ∧ 2 ≤ (b : Int) ∧ (b : Int) ≤ 30) := fun hh => hr hh.1
    have hT : dT s l b = [] := by unfold dT; rw [if_neg hn2]
    have hE : dE s l b = 2 := by unfold dE; rw [if_neg hn2]
    rw [hT, hE]
    obtain ⟨e1, e2, e3⟩ := whole_of (b := b) (l := []) (V := 0) hb1 hb2 rfl (by rw [Int.natAbs_zero, Nt.dg_zero]; decide)
    rw [Int.natAbs_zero, Nt.dg_zero] at e3
    have h0 : (2 : Int) = 0 → false = s ∧ ([] : List Int) = l := fun h => absurd h (by decide)
    have h1 : L64 [] := fun x hx => absurd hx (by simp)
    exact ⟨false, [], ⟨e1, e2, e3, h1, Nat.zero_le _, Nat.zero_le _, h0, Or.inr rfl⟩⟩
set_option maxRecDepth 400000 in
set_option maxHeartbeats 8000000 in
theorem cutKeeps_walk (w : World) (s : Bool) (A : Option Addr) (n c : Nat) (l : List Int) (b0 : Int) (hs : U w A n c l ∧ Nt.Dig 18446744073709551616 l ∧ c ≤ 9223372036854775807) (wb : (Lit.int .i64 b0).wf = true) :
    Calls Try.prog 8 #[.agg #[.bool s, .slice A n c], .int .i64 b0] w fun e w' => e = .returned (.bool true) ∧ Below w.heap.size w w' := by
  have HA := Lib.hid (fun w => awake14_any w)
  have HP := Lib.hid (fun w => pick_any b0 29 w (by decide) (by decide) (wf_i64 wb).1 (wf_i64 wb).2)
  have HU := Lib.hid hs.1
  have hln := hs.1.1
  have HD := Lib.hid hs.2.1
  have HBW := Lib.hid ((Below.refl w.heap.size w).alloc (Nat.le_refl _) (.cells #[.bool s, .slice A n c] 24))
  have HB0 := Lib.hid (Box1.new w s A n c 24)
  clear hs
  by_cases h300 : n ≤ 300
  · have hgt : decide (300 < (n : Int)) = false := decide_eq_false (by omega)
    have HCI := Lib.hid (fun x (hb : Below w.heap.size w x) => copy_int s A n c l x (by omega) (HU.out.below hb))
    go_enter Try.func8, Try.ntmps8
    go_wp2_with fail
    refine (HA.out _).mono ?_
    rintro e w1 ⟨rfl, hb⟩
    have BX := Lib.hid (HB0.out.below hb)
    have HBW := Lib.hid (HBW.out.trans (hb.mono HBW.out.size))
    obtain ⟨x0, x1, hlt1⟩ := BX.out
    clear hb HB0 HA
    go_wp2_with fail
    refine (HP.out _).mono ?_
    rintro e w' ⟨k, rfl, hk, rfl⟩
    obtain ⟨b, hbk⟩ : ∃ b : Nat, b = 2 + k := ⟨_, rfl⟩
    have hbk2 : (2 : Int) + (k : Int) = (b : Int) := by omega
    have hb1 : 2 ≤ b := by omega
    have hb2 : b ≤ 30 := by omega
    obtain ⟨S2, L2, f1, f2, f3, f4, f5, f6, f7, f8⟩ := keep_facts (s := s) HD.out (by rw [hln]; exact h300) hb1 hb2
    obtain ⟨T, hT⟩ : ∃ T, T = dT s l b := ⟨_, rfl⟩
    obtain ⟨E, hE⟩ : ∃ E, E = dE s l b := ⟨_, rfl⟩
    obtain ⟨K, hK⟩ : ∃ K, K = T.length := ⟨_, rfl⟩
    obtain ⟨N2, hN2⟩ : ∃ N2, N2 = L2.length := ⟨_, rfl⟩
    rw [← hT] at f1 f2 f3 f4 f5
    rw [← hE] at f7 f8
    have HCD : Hid (∀ x A c, U x A n c l → Calls Try.prog 13 #[.agg #[.bool s, .slice A n c], .int .i64 b] x fun e w' => ∃ A' c', e = .returned (.tuple #[.slice A' K c', .int .i64 E]) ∧ OwnR 2 .i64 w' x.heap.size w'.heap.size A' K c' T ∧ Below x.heap.size x w') := Lib.hid (fun x A c hu => by
      refine (digits_any s A n c l b x hu HD.out (by omega)).mono ?_
      rintro e w' ⟨v, rfl, hown, hbb⟩
      rw [← hT, ← hK] at hown
      obtain ⟨A', c', rfl, _⟩ := UL.of_own hown
      exact ⟨A', c', by rw [hE], OwnR.of hown, hbb⟩)
    have HCW : Hid (∀ x A c, UL x A K c T → Calls Try.prog 18 #[.slice A K c, .int .i64 b] x fun e w' => ∃ A' c', e = .returned (.tuple #[.agg #[.bool S2, .slice A' N2 c'], .int .i64 0]) ∧ OwnR 55 .u64 w' x.heap.size w'.heap.size A' N2 c' L2 ∧ Below x.heap.size x w') := Lib.hid (fun x A c hu => by
      refine (cwhole_own hb1 hb2 f4 f1 A K c x hu (by rw [hK]; exact f5)).mono ?_
      rintro e w' ⟨A', c', rfl, hown, hbb⟩
      rw [f3, ← hN2] at hown
      exact ⟨A', c', by rw [f2, f3, ← hN2], OwnR.of hown, hbb⟩)
    have HKB : K ≤ 1000000 := by rw [hK]; exact f5
    have HNB : N2 ≤ 300 := by rw [hN2]; exact f6
    have HF7 := Lib.hid f7
    have HF8 := Lib.hid f8
    have HN2 := Lib.hid hN2
    have HLN := Lib.hid hln
    clear hbk hk hT hE hK hN2 f1 f2 f3 f4 f5 f6 f7 f8 hln HP
    clear x0 x1 hlt1
    have Z1 : Hid (w.heap.size < w1.heap.size) := Lib.hid BX.out.2.2
    obtain ⟨p0, q0, _⟩ := BX.out
    go_wp2_with fail
    refine (HCI.out _ HBW.out).mono ?_
    rintro e w2 ⟨AO, cO, rfl, ho, _, hb⟩
    have BX := Lib.hid (BX.out.below hb)
    have HBW := Lib.hid (HBW.out.trans (hb.mono HBW.out.size))
    have RO : Hid (OwnR 55 .u64 w2 w1.heap.size w2.heap.size AO n cO l) := Lib.hid (OwnR.of ho)
    have Z2 := Lib.hid hb.size
    clear ho
    clear p0 q0 
    clear hb
    obtain ⟨W2, hW2⟩ : ∃ W2, W2 = w2.alloc (.cells #[.bool s, .slice AO n cO] 24) := ⟨_, rfl⟩
    have hb : Below w2.heap.size w2 W2 := by rw [hW2]; exact (Below.refl _ _).alloc (Nat.le_refl _) _
    have BX := Lib.hid (BX.out.below hb)
    have RO := Lib.hid (RO.out.below hb)
    have HBW := Lib.hid (HBW.out.trans (hb.mono HBW.out.size))
    have BO : Hid (Box1 w2.heap.size s AO n cO W2) := Lib.hid (by rw [hW2]; exact Box1.new _ _ _ _ _ _)
    have SW2 : Hid (W2.heap.size = w2.heap.size + 1) := Lib.hid (by rw [hW2]; simp)
    go_upto_region 7 with fail
    rw [← hW2]
    clear hW2 hb
    obtain ⟨p0, q0, _⟩ := BO.out
    go_wp2_with fail
    refine (HCD.out W2 _ _ RO.out.u).mono ?_
    rintro e w3 ⟨AD, cD, rfl, ho, hb⟩
    have BX := Lib.hid (BX.out.below hb)
    have RO := Lib.hid (RO.out.below hb)
    have BO := Lib.hid (BO.out.below hb)
    have HBW := Lib.hid (HBW.out.trans (hb.mono HBW.out.size))
    have RD := Lib.hid ho
    have Z3 := Lib.hid hb.size
    clear ho
    clear p0 q0 
    clear hb
    obtain ⟨p0, q0, _⟩ := BO.out
    go_wp2_with fail
    refine (HCD.out w3 _ _ RO.out.u).mono ?_
    rintro e w4 ⟨AF, cF, rfl, ho, hb⟩
    have BX := Lib.hid (BX.out.below hb)
    have RO := Lib.hid (RO.out.below hb)
    have BO := Lib.hid (BO.out.below hb)
    have RD := Lib.hid (RD.out.below hb)
    have HBW := Lib.hid (HBW.out.trans (hb.mono HBW.out.size))
    have RF := Lib.hid ho
    have Z4 := Lib.hid hb.size
    clear ho
    clear p0 q0 
    clear hb
    go_wp2_with fail
    refine (HCW.out w4 _ _ RD.out.ul).mono ?_
    rintro e w5 ⟨AY, cY, rfl, ho, hb⟩
    have BX := Lib.hid (BX.out.below hb)
    have RO := Lib.hid (RO.out.below hb)
    have BO := Lib.hid (BO.out.below hb)
    have RD := Lib.hid (RD.out.below hb)
    have RF := Lib.hid (RF.out.below hb)
    have HBW := Lib.hid (HBW.out.trans (hb.mono HBW.out.size))
    have RY := Lib.hid ho
    have Z5 := Lib.hid hb.size
    clear ho
    clear hb
    obtain ⟨W5, hW5⟩ : ∃ W5, W5 = w5.alloc (.cells #[.bool S2, .slice AY N2 cY] 24) := ⟨_, rfl⟩
    have hb : Below w5.heap.size w5 W5 := by rw [hW5]; exact (Below.refl _ _).alloc (Nat.le_refl _) _
    have BX := Lib.hid (BX.out.below hb)
    have RO := Lib.hid (RO.out.below hb)
    have BO := Lib.hid (BO.out.below hb)
    have RD := Lib.hid (RD.out.below hb)
    have RF := Lib.hid (RF.out.below hb)
    have RY := Lib.hid (RY.out.below hb)
    have HBW := Lib.hid (HBW.out.trans (hb.mono HBW.out.size))
    have BY : Hid (Box1 w5.heap.size S2 AY N2 cY W5) := Lib.hid (by rw [hW5]; exact Box1.new _ _ _ _ _ _)
    have SW5 : Hid (W5.heap.size = w5.heap.size + 1) := Lib.hid (by rw [hW5]; simp)
    go_upto_region 10 with fail
    rw [← hW5]
    clear hW5 hb
    go_wp2_with fail
    refine (HCW.out W5 _ _ RD.out.ul).mono ?_
    rintro e w6 ⟨AZ, cZ, rfl, ho, hb⟩
    have BX := Lib.hid (BX.out.below hb)
    have RO := Lib.hid (RO.out.below hb)
    have BO := Lib.hid (BO.out.below hb)
    have RD := Lib.hid (RD.out.below hb)
    have RF := Lib.hid (RF.out.below hb)
    have RY := Lib.hid (RY.out.below hb)
    have BY := Lib.hid (BY.out.below hb)
    have HBW := Lib.hid (HBW.out.trans (hb.mono HBW.out.size))
    have RZ := Lib.hid ho
    have Z6 := Lib.hid hb.size
    clear ho
    clear hb
    obtain ⟨W6, hW6⟩ : ∃ W6, W6 = w6.alloc (.cells #[.bool S2, .slice AZ N2 cZ] 24) := ⟨_, rfl⟩
    have hb : Below w6.heap.size w6 W6 := by rw [hW6]; exact (Below.refl _ _).alloc (Nat.le_refl _) _
    have BX := Lib.hid (BX.out.below hb)
    have RO := Lib.hid (RO.out.below hb)
    have BO := Lib.hid (BO.out.below hb)
    have RD := Lib.hid (RD.out.below hb)
    have RF := Lib.hid (RF.out.below hb)
    have RY := Lib.hid (RY.out.below hb)
    have BY := Lib.hid (BY.out.below hb)
    have RZ := Lib.hid (RZ.out.below hb)
    have HBW := Lib.hid (HBW.out.trans (hb.mono HBW.out.size))
    have BZ : Hid (Box1 w6.heap.size S2 AZ N2 cZ W6) := Lib.hid (by rw [hW6]; exact Box1.new _ _ _ _ _ _)
    have SW6 : Hid (W6.heap.size = w6.heap.size + 1) := Lib.hid (by rw [hW6]; simp)
    go_upto_region 11 with fail
    rw [← hW6]
    clear hW6 hb
    go_wp2_with fail
    refine (copy_longs AD K cD T W6 (by omega) RD.out.ul).mono ?_
    rintro e w7 ⟨vw, rfl, ho, hb⟩
    have BX := Lib.hid (BX.out.below hb)
    have RO := Lib.hid (RO.out.below hb)
    have BO := Lib.hid (BO.out.below hb)
    have RD := Lib.hid (RD.out.below hb)
    have RF := Lib.hid (RF.out.below hb)
    have RY := Lib.hid (RY.out.below hb)
    have BY := Lib.hid (BY.out.below hb)
    have RZ := Lib.hid (RZ.out.below hb)
    have BZ := Lib.hid (BZ.out.below hb)
    have HBW := Lib.hid (HBW.out.trans (hb.mono HBW.out.size))
    have Z7 := Lib.hid hb.size
    obtain ⟨AW, cW, rfl, _⟩ := UL.of_own ho
    have RW := Lib.hid (OwnR.of ho)
    clear ho
    clear hb
    go_wp2_with fail
    refine (same_longs AD K cD AF cF T w7 (by omega) RD.out.ul RF.out.ul).mono ?_
    rintro e w8 ⟨rfl, hb⟩
    have BX := Lib.hid (BX.out.below hb)
    have RO := Lib.hid (RO.out.below hb)
    have BO := Lib.hid (BO.out.below hb)
    have RD := Lib.hid (RD.out.below hb)
    have RF := Lib.hid (RF.out.below hb)
    have RY := Lib.hid (RY.out.below hb)
    have BY := Lib.hid (BY.out.below hb)
    have RZ := Lib.hid (RZ.out.below hb)
    have BZ := Lib.hid (BZ.out.below hb)
    have RW := Lib.hid (RW.out.below hb)
    have HBW := Lib.hid (HBW.out.trans (hb.mono HBW.out.size))
    have Z8 := Lib.hid hb.size
    clear hb
    obtain ⟨p0, q0, _⟩ := BY.out
    obtain ⟨p1, q1, _⟩ := BZ.out
    go_wp2_with fail
    refine (same_int S2 AY N2 cY AZ cZ L2 w8 (by omega) RY.out.u RZ.out.u).mono ?_
    rintro e w9 ⟨rfl, hb⟩
    have BX := Lib.hid (BX.out.below hb)
    have RO := Lib.hid (RO.out.below hb)
    have BO := Lib.hid (BO.out.below hb)
    have RD := Lib.hid (RD.out.below hb)
    have RF := Lib.hid (RF.out.below hb)
    have RY := Lib.hid (RY.out.below hb)
    have BY := Lib.hid (BY.out.below hb)
    have RZ := Lib.hid (RZ.out.below hb)
    have BZ := Lib.hid (BZ.out.below hb)
    have RW := Lib.hid (RW.out.below hb)
    have HBW := Lib.hid (HBW.out.trans (hb.mono HBW.out.size))
    have Z9 := Lib.hid hb.size
    clear p0 q0 p1 q1 
    clear hb
    rcases HF8.out with hE0 | hE0
    · have hE1 : (E == 0) = true := by simp [hE0]
      have HSX : Hid (Calls Try.prog 20 #[.agg #[.bool S2, .slice AY N2 cY], .agg #[.bool s, .slice A n c]] w9 fun e w' => e = .returned (.bool true) ∧ Below w9.heap.size w9 w') := Lib.hid (by
        obtain ⟨e1, e2⟩ := HF7.out hE0
        have e3 : N2 = n := by rw [HN2.out, e2, HLN.out]
        have hx := HU.out.below HBW.out
        rw [← e2, ← e3] at hx
        rw [← e1, ← e3]
        exact same_int S2 AY N2 cY A c L2 w9 (by omega) RY.out.u hx)
      have HE0 := Lib.hid hE0
      clear hE0
      obtain ⟨p0, q0, _⟩ := BY.out
      obtain ⟨p1, q1, _⟩ := BX.out
      go_wp2_with fail
      refine (HSX.out).mono ?_
      rintro e w10 ⟨rfl, hb⟩
      have BX := Lib.hid (BX.out.below hb)
      have RO := Lib.hid (RO.out.below hb)
      have BO := Lib.hid (BO.out.below hb)
      have RD := Lib.hid (RD.out.below hb)
      have RF := Lib.hid (RF.out.below hb)
      have RY := Lib.hid (RY.out.below hb)
      have BY := Lib.hid (BY.out.below hb)
      have RZ := Lib.hid (RZ.out.below hb)
      have BZ := Lib.hid (BZ.out.below hb)
      have RW := Lib.hid (RW.out.below hb)
      have HBW := Lib.hid (HBW.out.trans (hb.mono HBW.out.size))
      have Z10 := Lib.hid hb.size
      clear HSX
      clear p0 q0 p1 q1 
      clear hb
      have HAL := Lib.hid (longs_two w10 _ _ _ _ AD AF K cD K cF T T RD.out RF.out HKB HKB (by omega))
      go_wp2_with fail
      refine HAL.out.mono ?_
      rintro e w11 ⟨rfl, R, hk, hR⟩
      have HR := Lib.hid hR
      have Z11 := Lib.hid hk.size
      have BX := Lib.hid (BX.out.keptR hk (fun q hq e1 => by have h0 := HR.out q hq _ e1; have := Z1.out; have := Z2.out; have := SW2.out; have := Z3.out; have := Z4.out; have := Z5.out; have := SW5.out; have := Z6.out; have := SW6.out; have := Z7.out; have := Z8.out; have := Z9.out; have := Z10.out; omega))
      have BO := Lib.hid (BO.out.keptR hk (fun q hq e1 => by have h0 := HR.out q hq _ e1; have := Z1.out; have := Z2.out; have := SW2.out; have := Z3.out; have := Z4.out; have := Z5.out; have := SW5.out; have := Z6.out; have := SW6.out; have := Z7.out; have := Z8.out; have := Z9.out; have := Z10.out; omega))
      have BY := Lib.hid (BY.out.keptR hk (fun q hq e1 => by have h0 := HR.out q hq _ e1; have := Z1.out; have := Z2.out; have := SW2.out; have := Z3.out; have := Z4.out; have := Z5.out; have := SW5.out; have := Z6.out; have := SW6.out; have := Z7.out; have := Z8.out; have := Z9.out; have := Z10.out; omega))
      have BZ := Lib.hid (BZ.out.keptR hk (fun q hq e1 => by have h0 := HR.out q hq _ e1; have := Z1.out; have := Z2.out; have := SW2.out; have := Z3.out; have := Z4.out; have := Z5.out; have := SW5.out; have := Z6.out; have := SW6.out; have := Z7.out; have := Z8.out; have := Z9.out; have := Z10.out; omega))
      have RO := Lib.hid (RO.out.kept hk (fun q hq b hb e1 => by have h0 := HR.out q hq b hb; have := Z1.out; have := Z2.out; have := SW2.out; have := Z3.out; have := Z4.out; have := Z5.out; have := SW5.out; have := Z6.out; have := SW6.out; have := Z7.out; have := Z8.out; have := Z9.out; have := Z10.out; omega))
      have RY := Lib.hid (RY.out.kept hk (fun q hq b hb e1 => by have h0 := HR.out q hq b hb; have := Z1.out; have := Z2.out; have := SW2.out; have := Z3.out; have := Z4.out; have := Z5.out; have := SW5.out; have := Z6.out; have := SW6.out; have := Z7.out; have := Z8.out; have := Z9.out; have := Z10.out; omega))
      have RZ := Lib.hid (RZ.out.kept hk (fun q hq b hb e1 => by have h0 := HR.out q hq b hb; have := Z1.out; have := Z2.out; have := SW2.out; have := Z3.out; have := Z4.out; have := Z5.out; have := SW5.out; have := Z6.out; have := SW6.out; have := Z7.out; have := Z8.out; have := Z9.out; have := Z10.out; omega))
      have RW := Lib.hid (RW.out.kept hk (fun q hq b hb e1 => by have h0 := HR.out q hq b hb; have := Z1.out; have := Z2.out; have := SW2.out; have := Z3.out; have := Z4.out; have := Z5.out; have := SW5.out; have := Z6.out; have := SW6.out; have := Z7.out; have := Z8.out; have := Z9.out; have := Z10.out; omega))
      have HBW := Lib.hid (HBW.out.trans (hk.below (B := w.heap.size) HBW.out.size (fun q hq b hb => by have h0 := HR.out q hq b hb; have := Z1.out; have := Z2.out; have := SW2.out; have := Z3.out; have := Z4.out; have := Z5.out; have := SW5.out; have := Z6.out; have := SW6.out; have := Z7.out; have := Z8.out; have := Z9.out; have := Z10.out; omega)))
      clear hk hR HAL HR RD RF
      have HAM := Lib.hid (limbs_three w11 _ _ _ _ _ _ AO AY AZ n cO N2 cY N2 cZ l L2 L2 RO.out RY.out RZ.out (by omega) (by omega) (by omega) (by have := Z1.out; have := Z2.out; have := SW2.out; have := Z3.out; have := Z4.out; have := Z5.out; have := SW5.out; have := Z6.out; have := SW6.out; have := Z7.out; have := Z8.out; have := Z9.out; have := Z10.out; omega) (by have := Z1.out; have := Z2.out; have := SW2.out; have := Z3.out; have := Z4.out; have := Z5.out; have := SW5.out; have := Z6.out; have := SW6.out; have := Z7.out; have := Z8.out; have := Z9.out; have := Z10.out; omega) (by have := Z1.out; have := Z2.out; have := SW2.out; have := Z3.out; have := Z4.out; have := Z5.out; have := SW5.out; have := Z6.out; have := SW6.out; have := Z7.out; have := Z8.out; have := Z9.out; have := Z10.out; omega))
      obtain ⟨p0, q0, _⟩ := BO.out
      obtain ⟨p1, q1, _⟩ := BY.out
      obtain ⟨p2, q2, _⟩ := BZ.out
      go_wp2_with fail
      refine HAM.out.mono ?_
      rintro e w12 ⟨rfl, R, hk, hR⟩
      have HR := Lib.hid hR
      have BX := Lib.hid (BX.out.keptR hk (fun q hq e1 => by have h0 := HR.out q hq _ e1; have := Z1.out; have := Z2.out; have := SW2.out; have := Z3.out; have := Z4.out; have := Z5.out; have := SW5.out; have := Z6.out; have := SW6.out; have := Z7.out; have := Z8.out; have := Z9.out; have := Z10.out; omega))
      have RW := Lib.hid (RW.out.kept hk (fun q hq b hb e1 => by have h0 := HR.out q hq b hb; have := Z1.out; have := Z2.out; have := SW2.out; have := Z3.out; have := Z4.out; have := Z5.out; have := SW5.out; have := Z6.out; have := SW6.out; have := Z7.out; have := Z8.out; have := Z9.out; have := Z10.out; omega))
      have HBW := Lib.hid (HBW.out.trans (hk.below (B := w.heap.size) HBW.out.size (fun q hq b hb => by have h0 := HR.out q hq b hb; have := Z1.out; have := Z2.out; have := SW2.out; have := Z3.out; have := Z4.out; have := Z5.out; have := SW5.out; have := Z6.out; have := SW6.out; have := Z7.out; have := Z8.out; have := Z9.out; have := Z10.out; omega)))
      clear hk hR HAM HR RO RY RZ p0 p1 p2 q0 q1 q2 BO BY BZ
      obtain ⟨p0, q0, _⟩ := BX.out
      go_wp2_with fail
      refine (HCI.out _ HBW.out).mono ?_
      rintro e w13 ⟨A3, c3, rfl, _, hu3, hb⟩
      have BX := Lib.hid (BX.out.below hb)
      have RW := Lib.hid (RW.out.below hb)
      have HBW := Lib.hid (HBW.out.trans (hb.mono HBW.out.size))
      have HU3 := Lib.hid hu3
      clear hu3
      clear p0 q0 
      clear hb
      go_wp2_with fail
      refine (HCD.out w13 _ _ HU3.out).mono ?_
      rintro e w14 ⟨A4, c4, rfl, ho, hb⟩
      have BX := Lib.hid (BX.out.below hb)
      have RW := Lib.hid (RW.out.below hb)
      have HBW := Lib.hid (HBW.out.trans (hb.mono HBW.out.size))
      have R4 := Lib.hid ho
      clear ho
      clear hb
      have hEE : (E == E) = true := by simp
      go_wp2_with fail
      refine (same_longs A4 K c4 AW cW T w14 (by omega) R4.out.ul RW.out.ul).mono ?_
      rintro e w15 ⟨rfl, hb⟩
      have HBW := Lib.hid (HBW.out.trans (hb.mono HBW.out.size))
      clear hb
      go_wp2
      go_ret
      exact ⟨rfl, HBW.out⟩
    · have hE1 : (E == 0) = false := by simp [hE0]
      clear hE0
      have HAL := Lib.hid (longs_two w9 _ _ _ _ AD AF K cD K cF T T RD.out RF.out HKB HKB (by omega))
      go_wp2_with fail
      refine HAL.out.mono ?_
      rintro e w11 ⟨rfl, R, hk, hR⟩
      have HR := Lib.hid hR
      have Z11 := Lib.hid hk.size
      have BX := Lib.hid (BX.out.keptR hk (fun q hq e1 => by have h0 := HR.out q hq _ e1; have := Z1.out; have := Z2.out; have := SW2.out; have := Z3.out; have := Z4.out; have := Z5.out; have := SW5.out; have := Z6.out; have := SW6.out; have := Z7.out; have := Z8.out; have := Z9.out; omega))
      have BO := Lib.hid (BO.out.keptR hk (fun q hq e1 => by have h0 := HR.out q hq _ e1; have := Z1.out; have := Z2.out; have := SW2.out; have := Z3.out; have := Z4.out; have := Z5.out; have := SW5.out; have := Z6.out; have := SW6.out; have := Z7.out; have := Z8.out; have := Z9.out; omega))
      have BY := Lib.hid (BY.out.keptR hk (fun q hq e1 => by have h0 := HR.out q hq _ e1; have := Z1.out; have := Z2.out; have := SW2.out; have := Z3.out; have := Z4.out; have := Z5.out; have := SW5.out; have := Z6.out; have := SW6.out; have := Z7.out; have := Z8.out; have := Z9.out; omega))
      have BZ := Lib.hid (BZ.out.keptR hk (fun q hq e1 => by have h0 := HR.out q hq _ e1; have := Z1.out; have := Z2.out; have := SW2.out; have := Z3.out; have := Z4.out; have := Z5.out; have := SW5.out; have := Z6.out; have := SW6.out; have := Z7.out; have := Z8.out; have := Z9.out; omega))
      have RO := Lib.hid (RO.out.kept hk (fun q hq b hb e1 => by have h0 := HR.out q hq b hb; have := Z1.out; have := Z2.out; have := SW2.out; have := Z3.out; have := Z4.out; have := Z5.out; have := SW5.out; have := Z6.out; have := SW6.out; have := Z7.out; have := Z8.out; have := Z9.out; omega))
      have RY := Lib.hid (RY.out.kept hk (fun q hq b hb e1 => by have h0 := HR.out q hq b hb; have := Z1.out; have := Z2.out; have := SW2.out; have := Z3.out; have := Z4.out; have := Z5.out; have := SW5.out; have := Z6.out; have := SW6.out; have := Z7.out; have := Z8.out; have := Z9.out; omega))
      have RZ := Lib.hid (RZ.out.kept hk (fun q hq b hb e1 => by have h0 := HR.out q hq b hb; have := Z1.out; have := Z2.out; have := SW2.out; have := Z3.out; have := Z4.out; have := Z5.out; have := SW5.out; have := Z6.out; have := SW6.out; have := Z7.out; have := Z8.out; have := Z9.out; omega))
      have RW := Lib.hid (RW.out.kept hk (fun q hq b hb e1 => by have h0 := HR.out q hq b hb; have := Z1.out; have := Z2.out; have := SW2.out; have := Z3.out; have := Z4.out; have := Z5.out; have := SW5.out; have := Z6.out; have := SW6.out; have := Z7.out; have := Z8.out; have := Z9.out; omega))
      have HBW := Lib.hid (HBW.out.trans (hk.below (B := w.heap.size) HBW.out.size (fun q hq b hb => by have h0 := HR.out q hq b hb; have := Z1.out; have := Z2.out; have := SW2.out; have := Z3.out; have := Z4.out; have := Z5.out; have := SW5.out; have := Z6.out; have := SW6.out; have := Z7.out; have := Z8.out; have := Z9.out; omega)))
      clear hk hR HAL HR RD RF
      have HAM := Lib.hid (limbs_three w11 _ _ _ _ _ _ AO AY AZ n cO N2 cY N2 cZ l L2 L2 RO.out RY.out RZ.out (by omega) (by omega) (by omega) (by have := Z1.out; have := Z2.out; have := SW2.out; have := Z3.out; have := Z4.out; have := Z5.out; have := SW5.out; have := Z6.out; have := SW6.out; have := Z7.out; have := Z8.out; have := Z9.out; omega) (by have := Z1.out; have := Z2.out; have := SW2.out; have := Z3.out; have := Z4.out; have := Z5.out; have := SW5.out; have := Z6.out; have := SW6.out; have := Z7.out; have := Z8.out; have := Z9.out; omega) (by have := Z1.out; have := Z2.out; have := SW2.out; have := Z3.out; have := Z4.out; have := Z5.out; have := SW5.out; have := Z6.out; have := SW6.out; have := Z7.out; have := Z8.out; have := Z9.out; omega))
      obtain ⟨p0, q0, _⟩ := BO.out
      obtain ⟨p1, q1, _⟩ := BY.out
      obtain ⟨p2, q2, _⟩ := BZ.out
      go_wp2_with fail
      refine HAM.out.mono ?_
      rintro e w12 ⟨rfl, R, hk, hR⟩
      have HR := Lib.hid hR
      have BX := Lib.hid (BX.out.keptR hk (fun q hq e1 => by have h0 := HR.out q hq _ e1; have := Z1.out; have := Z2.out; have := SW2.out; have := Z3.out; have := Z4.out; have := Z5.out; have := SW5.out; have := Z6.out; have := SW6.out; have := Z7.out; have := Z8.out; have := Z9.out; omega))
      have RW := Lib.hid (RW.out.kept hk (fun q hq b hb e1 => by have h0 := HR.out q hq b hb; have := Z1.out; have := Z2.out; have := SW2.out; have := Z3.out; have := Z4.out; have := Z5.out; have := SW5.out; have := Z6.out; have := SW6.out; have := Z7.out; have := Z8.out; have := Z9.out; omega))
      have HBW := Lib.hid (HBW.out.trans (hk.below (B := w.heap.size) HBW.out.size (fun q hq b hb => by have h0 := HR.out q hq b hb; have := Z1.out; have := Z2.out; have := SW2.out; have := Z3.out; have := Z4.out; have := Z5.out; have := SW5.out; have := Z6.out; have := SW6.out; have := Z7.out; have := Z8.out; have := Z9.out; omega)))
      clear hk hR HAM HR RO RY RZ p0 p1 p2 q0 q1 q2 BO BY BZ
      obtain ⟨p0, q0, _⟩ := BX.out
      go_wp2_with fail
      refine (HCI.out _ HBW.out).mono ?_
      rintro e w13 ⟨A3, c3, rfl, _, hu3, hb⟩
      have BX := Lib.hid (BX.out.below hb)
      have RW := Lib.hid (RW.out.below hb)
      have HBW := Lib.hid (HBW.out.trans (hb.mono HBW.out.size))
      have HU3 := Lib.hid hu3
      clear hu3
      clear p0 q0 
      clear hb
      go_wp2_with fail
      refine (HCD.out w13 _ _ HU3.out).mono ?_
      rintro e w14 ⟨A4, c4, rfl, ho, hb⟩
      have BX := Lib.hid (BX.out.below hb)
      have RW := Lib.hid (RW.out.below hb)
      have HBW := Lib.hid (HBW.out.trans (hb.mono HBW.out.size))
      have R4 := Lib.hid ho
      clear ho
      clear hb
      have hEE : (E == E) = true := by simp
      go_wp2_with fail
      refine (same_longs A4 K c4 AW cW T w14 (by omega) R4.out.ul RW.out.ul).mono ?_
      rintro e w15 ⟨rfl, hb⟩
      have HBW := Lib.hid (HBW.out.trans (hb.mono HBW.out.size))
      clear hb
      go_wp2
      go_ret
      exact ⟨rfl, HBW.out⟩
  · have hgt : decide (300 < (n : Int)) = true := decide_eq_true (by omega)
    go_enter Try.func8, Try.ntmps8
    go_wp2_with fail
    refine (HA.out _).mono ?_
    rintro e w1 ⟨rfl, hb⟩
    have BX := Lib.hid (HB0.out.below hb)
    have HBW := Lib.hid (HBW.out.trans (hb.mono HBW.out.size))
    obtain ⟨x0, x1, _⟩ := BX.out
    clear hb HB0 HA
    go_wp2
    go_ret
    exact ⟨rfl, HBW.out⟩
end Go.Proofs.Ytclnmheplecknaa

namespace Go.Proofs.Ytclnmheplecknaa
open Go.ChangeShapes Go.WideShapes Go.ChangeAt Go.RowKit Go.Deep
theorem int_cell {H : Type} {enc : TypeId × Value → H} {P : Program} {w : World} {base : Nat} {spare : Nat → Bool} {held : Bool} {n : Nat} {e : TypeId} {k : IntKind} {v : Value} {x : DataW H × List MemPlace} (he : P.underlying e = some (.int k)) (h : DataW.trod enc P w base spare held n e [v] = some x) : ∃ b, v = .int k b ∧ (Lit.int k b).wf = true := by
  obtain ⟨b, hc, _, hw⟩ := DataW.trod_int he h
  cases v <;> simp [Value.cells] at hc
  obtain ⟨rfl, rfl⟩ := hc
  exact ⟨_, rfl, hw⟩
theorem in_ints {H : Type} {enc : TypeId × Value → H} {P : Program} {w : World} {t e : TypeId} {k : IntKind} {v : Value} {fuel : Nat} {x : DataW H × List MemPlace} (ht : P.underlying t = some (.slice e)) (he : P.underlying e = some (.int k)) (hc : P.cellsOf e = 1)
    (hd : DataW.trod enc P w 0 (fun _ => true) true fuel t [v] = some x) : ∃ (A : Option Addr) (n c : Nat) (l : List Int), v = .slice A n c ∧ (l.length = n ∧ n ≤ c ∧ (A = none → c = 0) ∧ ∀ j x, l[j]? = some x → ∃ ad, A = some ad ∧ ad.block < w.heap.size ∧ w.cell? (ad.add j) = some (.int k x)) ∧ (∀ x, x ∈ l → (Lit.int k x).wf = true) ∧ c ≤ 9223372036854775807 := by
  rcases open_slice1 ht hc hd with ⟨hcs, _⟩ | ⟨a, len, cap, m, q, V, D, Pl, hcs, _, hl, hm, hmm, _, hx⟩
  · obtain rfl : v = .slice none 0 0 := by simpa using hcs
    exact ⟨none, 0, 0, [], rfl, ⟨rfl, Nat.le_refl _, fun _ => rfl, fun j x hj => by simp at hj⟩, fun x hx => by simp at hx, by decide⟩
  · obtain rfl : v = .slice (some a) len cap := by simpa using hcs
    have hmc : m = cap := by rw [hmm]; simp
    have key : ∀ j : Nat, ∃ b : Int, j < len → V j = .int k b ∧ (Lit.int k b).wf = true := fun j => by
      by_cases hj : j < len
      · obtain ⟨h1, h2⟩ := hx j (by omega)
        obtain ⟨b, hb⟩ := int_cell he h2
        exact ⟨b, fun _ => hb⟩
      · exact ⟨0, fun h => absurd h hj⟩
    refine ⟨some a, len, cap, (List.range len).map fun j => Classical.choose (key j), rfl, ⟨by simp, hl, (fun h => by cases h), fun j x hj => ?_⟩, fun x hx' => ?_, by unfold maxLen at hm; omega⟩
    · have hjl : j < len := by have := (List.getElem?_eq_some_iff.1 hj).1; simpa using this
      rw [List.getElem?_map, List.getElem?_range hjl] at hj
      obtain rfl := Option.some.inj hj
      have hcell := (hx j (by omega)).1
      rw [(Classical.choose_spec (key j) hjl).1] at hcell
      refine ⟨a, rfl, ?_, hcell⟩
      have := World.block_lt_of_cell? w _ hcell
      rwa [add_block] at this
    · obtain ⟨j, hj, rfl⟩ := List.mem_map.1 hx'
      exact (Classical.choose_spec (key j) (List.mem_range.1 hj)).2
theorem in_longs {H : Type} {enc : TypeId × Value → H} {P : Program} {w : World} {r : Reach} {b0 : Nat} {t e : TypeId} {v : Value} {d : DataW H} {ps : List MemPlace} (ht : P.underlying t = some (.slice e)) (he : P.underlying e = some (.int .i64)) (hc : P.cellsOf e = 1)
    (hval : Value.okWide P w r b0 t v) (hd : DataW.Trod enc P w 0 (fun _ => true) true t v d ps) : ∃ (A : Option Addr) (n c : Nat) (l : List Int), v = .slice A n c ∧ (UL w A n c l ∧ L64 l ∧ c ≤ 9223372036854775807) := by
  obtain ⟨fuel, hf⟩ := hd
  obtain ⟨A0, n0, c0, rfl⟩ := okWide_slice ht hval
  obtain ⟨A, n, c, l, hv, hu, hw, hm⟩ := in_ints ht he hc hf
  refine ⟨A, n, c, l, hv, hu, fun x hx => ?_, hm⟩
  have := hw x hx
  simp [Lit.wf, IntKind.min, IntKind.max, IntKind.signed, IntKind.bits] at this
  omega
/-- A whole number by value. -/
theorem in_bigint {H : Type} {enc : TypeId × Value → H} {P : Program} {w : World} {r : Reach} {b0 : Nat} {t : TypeId} {f0 f1 : Field} {e : TypeId} {v : Value} {d : DataW H} {ps : List MemPlace} (hs : P.underlying t = some (.struct #[f0, f1])) (hone : oneCellFields P #[f0, f1] = true) (hC : P.cellsOf t = 2)
    (hb : P.underlying f0.type = some .bool) (ht : P.underlying f1.type = some (.slice e)) (he : P.underlying e = some (.int .u64)) (hc : P.cellsOf e = 1)
    (hval : Value.okWide P w r b0 t v) (hd : DataW.Trod enc P w 0 (fun _ => true) true t v d ps) : ∃ (s : Bool) (A : Option Addr) (n c : Nat) (l : List Int), v = .agg #[.bool s, .slice A n c] ∧ (U w A n c l ∧ Nt.Dig 18446744073709551616 l ∧ c ≤ 9223372036854775807) := by
  obtain ⟨v0, v1, y0, y1, m, rfl, _, _, h0, h1⟩ := Go.Joins.open_agg2 hs hone hC hval hd
  obtain ⟨s, hc0, _⟩ := DataW.trod_bool hb h0
  obtain rfl : v0 = .bool s := by simpa using hc0
  obtain ⟨A, n, c, l, rfl, hu, hw, hm⟩ := in_ints ht he hc h1
  refine ⟨s, A, n, c, l, rfl, hu, fun x hx => ?_, hm⟩
  have := hw x hx
  simp [Lit.wf, IntKind.min, IntKind.max, IntKind.signed, IntKind.bits] at this
  omega
end Go.Proofs.Ytclnmheplecknaa

namespace Go.Proofs.Ytclnmheplecknaa
open Go.ChangeShapes Go.WideShapes Go.ChangeAt Go.RowKit
namespace cutKeeps
theorem own : ownKnob Try.prog.godebug = none := by kernel_rfl
set_option maxRecDepth 100000 in
theorem lifted (os : Os) (started : os.Started) (H : Type) (enc : TypeId × Value → H) :
    ReturnsInHanded {} Try.checked os 8 .any (Rows.cutKeepsSpec.pre6 enc Try.prog Try.f8 Rows.cutKeepsRow.domain false) (Rows.cutKeepsSpec.post enc Try.prog Try.f8 false true false false) := by
  refine returnsInHanded_of_change (C := Try.checked) own started (by kernel_rfl) Try.func8
    (ChangeSpec.witness6 (enc := enc) (C := Try.checked) false ⟨#[], #[.agg #[.bool false, .slice none 0 0], .int .i64 0], []⟩ 8 (by kernel_rfl) (by kernel_rfl) (by kernel_rfl) (by kernel_rfl)) ?_
  intro W base args ds gs before hval0 hW hcnd _
  have hval : ∀ (j : Nat) t v, Try.f8.params[j]? = some t → args[j]? = some v → Value.okWide Try.prog W .any base t v := hval0
  have hW' := hW
  obtain ⟨p, q, hA0, hV, rfl, hfz, hnd⟩ := hW
  have hA : DataW.TrodAll enc Try.prog W 0 (fun _ => true) true Try.f8.params.toList args.toList ds p := hA0
  rw [Try.params8] at hA hval
  obtain ⟨v0, vs0, d0, ds0, p0, q0, hargs, rfl, rfl, h0, r0⟩ := trodAll_cons hA
  obtain ⟨v1, vs1, d1, ds1, p1, q1, rfl, rfl, rfl, h1, r1⟩ := trodAll_cons r0
  obtain ⟨rfl, rfl, rfl⟩ := trodAll_nil r1
  obtain rfl : args = #[v0, v1] := by cases args; simp_all
  obtain ⟨rfl, rfl⟩ := trodVars_none hV
  obtain ⟨a1, rfl, rfl, rfl, w1⟩ := open_int Try.underlying3 (hval 1 3 v1 rfl rfl) h1
  obtain ⟨s0, a0, n0, c0, z0, rfl, w0⟩ := in_bigint Try.underlying24 (by kernel_rfl) (by kernel_rfl) Try.underlying4 Try.underlying22 Try.underlying55 (by kernel_rfl) (hval 0 24 v0 rfl rfl) h0
  clear hA0 hval0
  simp only [List.append_nil, List.nil_append] at hW'
  refine (cutKeeps_walk W s0 a0 n0 c0 z0 a1 w0 w1).mono fun e W' ⟨he, hg⟩ => ?_
  subst he
  exact ⟨_, rfl, post_of_below (pv := []) hW' (fun _ _ _ => (trodAll_cons_mk (shut_bool Try.underlying4 _) trodAll_mk0)) (fun sp hsp => (trodAll_cons_mk (WideElems.Trod_stays (by kernel_rfl) (by kernel_rfl) (of_decide_eq_true (by kernel_rfl)) h0 (fun x hx => hg.same (hW'.lt x (by simp [hx]))) (fun x hx => hsp x (by simp [hx]))) (trodAll_cons_mk (shut_int Try.underlying3 w1) trodAll_mk0))) (fun _ _ => rfl) (by simp)
    hg (ok_one (by kernel_rfl) rfl (okWide_bool_mk Try.underlying4 _))⟩
theorem over : Rows.cutKeepsRow.holds Try.pinned (OpenSpec.ofChange Rows.cutKeepsSpec) :=
  OpenClaim.holds_of_wide 8 Try.f8 rfl rfl rfl rfl rfl rfl rfl ⟨rfl, rfl, rfl, rfl, rfl⟩ rfl rfl rfl rfl rfl (by kernel_rfl) Try.func8 (by kernel_rfl)
    (of_decide_eq_true (by kernel_rfl)) (by unfold Func.isWrapper; first | (rw [if_pos (by decide +kernel)]; kernel_rfl) | (rw [if_neg (by decide +kernel)]; exact ⟨rfl, rfl⟩))
    (fun os started H enc _ => lifted os started H enc)
theorem proved : Rows.CutKeepsSaid :=
  over
end cutKeeps
theorem cutKeeps_holds : Rows.CutKeepsSaid := cutKeeps.proved
#print axioms cutKeeps_holds
end Go.Proofs.Ytclnmheplecknaa

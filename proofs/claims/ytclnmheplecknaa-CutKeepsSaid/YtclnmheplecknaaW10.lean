/-
  Walks: rosetteref00's RightInt, rosetteref14's chunk.
  Walk: limb's Right; cut's Digits.
-/
import Derived.Test.YtclnmheplecknaaW9
import Derived.RangeFuncFrom
import Derived.Laws.EntriesVeiled
set_option linter.unusedVariables false
set_option linter.unusedSimpArgs false
namespace Go.Proofs.Ytclnmheplecknaa
open Go.RowKit Go.Shelf
attribute [local go_sem] Oper.semAt_some
/-- Is it a right whole number? -/
def rightB (s : Bool) (l : List Int) : Bool := if l.length = 0 then !s else decide (l.length ≤ 4096) && !((l[l.length - 1]?.getD 0) == 0)
theorem right_any (s : Bool) (A : Option Addr) (n c : Nat) (l : List Int) (w : World) (hu : U w A n c l) (hn : n ≤ 1000000000000) :
    Calls Try.prog 24 #[.agg #[.bool s, .slice A n c]] w fun e w' => e = .returned (.bool (rightB s l)) ∧ Below w.heap.size w w' := by
  have HB := Lib.hid ((Below.refl w.heap.size w).alloc (Nat.le_refl _) (.cells #[.bool s, .slice A n c] 24))
  obtain ⟨T, hT⟩ : ∃ T, T = rightB s l := ⟨_, rfl⟩
  rw [← hT]
  have hl := hu.1
  unfold rightB at hT
  rw [hl] at hT
  rcases Nat.eq_zero_or_pos n with h0 | h0
  · rw [if_pos h0] at hT
    subst h0
    have HT := Lib.hid hT
    clear hT hl hu
    cases s
    · go_enter Try.func24, Try.ntmps24
      go_wp2
      go_ret
      exact ⟨by rw [HT.out]; rfl, HB.out⟩
    · go_enter Try.func24, Try.ntmps24
      go_wp2
      go_ret
      exact ⟨by rw [HT.out]; rfl, HB.out⟩
  · rw [if_neg (by omega)] at hT
    have hne : ((n : Int) == 0) = false := by simp; omega
    by_cases h4 : n ≤ 4096
    · obtain ⟨x, hx⟩ : ∃ x, l[n - 1]? = some x := ⟨_, List.getElem?_eq_getElem (by omega)⟩
      rw [hx, Option.getD_some, decide_eq_true h4, Bool.true_and] at hT
      obtain ⟨ad, rfl, hb, hc⟩ := hu.2.2.2 (n - 1) x hx
      obtain ⟨k, hk⟩ : ∃ k, n = k + 1 := ⟨n - 1, by omega⟩
      rw [show n - 1 = k by omega] at hc
      have hc2 : (w.alloc (.cells #[.bool s, .slice (some ad) n c] 24)).cell? (ad.add k) = some (.int .u64 x) := by
        rw [((Below.refl w.heap.size w).alloc (Nat.le_refl _) (.cells #[.bool s, .slice (some ad) n c] 24)).cell (by rw [add_block]; exact hb)]
        exact hc
      have hkn : k < n := by omega
      have hsub : (n : Int) - 1 = (k : Int) := by omega
      have HT := Lib.hid hT
      clear hT hl hu hx hc hb hn hk
      go_enter Try.func24, Try.ntmps24
      go_wp2
      go_ret
      refine ⟨?_, HB.out⟩
      rw [HT.out]
      first | rfl | (simp [bne])
    · rw [decide_eq_false h4, Bool.false_and] at hT
      have HT := Lib.hid hT
      have h5 : ¬ (n : Int) ≤ 4096 := by omega
      clear hT hl hu
      go_enter Try.func24, Try.ntmps24
      go_wp2
      go_ret
      exact ⟨by rw [HT.out]; rfl, HB.out⟩
/-- One digit more. -/
def putL (h : Int) (s : List Int × Int) (e : Int) : List Int × Int := (s.1 ++ [(stepD h (e + s.2)).1], (stepD h (e + s.2)).2)
def sgnC (s : Bool) (x : Chk) : Int := if s then -x.1 else x.1
/-- The digits of the chunks that have come, and what is carried. -/
def digS (h : Int) (s : Bool) (pre : List Chk) : List Int × Int := (pre.map (sgnC s)).foldl (putL h) ([], 0)
theorem digS_snoc (h : Int) (s : Bool) (pre : List Chk) (x : Chk) : digS h s (pre ++ [x]) = putL h (digS h s pre) (sgnC s x) := by
  unfold digS; rw [List.map_append, List.foldl_append]; rfl
theorem putL_len (h : Int) : ∀ (l : List Int) (st : List Int × Int), (l.foldl (putL h) st).1.length = st.1.length + l.length
  | [], st => by simp
  | x :: l, st => by rw [List.foldl_cons, putL_len h l]; simp [putL]; omega
theorem digS_len (h : Int) (s : Bool) (pre : List Chk) : (digS h s pre).1.length = pre.length := by
  unfold digS; rw [putL_len]; simp
theorem stepD_carry (h e : Int) : (stepD h e).2 = 1 ∨ (stepD h e).2 = -1 ∨ (stepD h e).2 = 0 := by
  unfold stepD; split
  · exact .inl rfl
  · split
    · exact .inr (.inl rfl)
    · exact .inr (.inr rfl)
theorem putL_carry (h : Int) : ∀ (l : List Int) (st : List Int × Int), -1 ≤ st.2 ∧ st.2 ≤ 1 → -1 ≤ (l.foldl (putL h) st).2 ∧ (l.foldl (putL h) st).2 ≤ 1
  | [], st, h0 => h0
  | x :: l, st, h0 => by
    rw [List.foldl_cons]
    refine putL_carry h l _ ?_
    have := stepD_carry h (x + st.2)
    unfold putL
    dsimp only
    omega
theorem digS_carry (h : Int) (s : Bool) (pre : List Chk) : -1 ≤ (digS h s pre).2 ∧ (digS h s pre).2 ≤ 1 := putL_carry h _ _ ⟨by decide, by decide⟩
/-- Without noughts on top. -/
def trimZ : List Int → List Int
  | [] => []
  | x :: l => match trimZ l with
    | [] => if x = 0 then [] else [x]
    | y :: m => x :: y :: m
/-- All digits of a size. -/
def rawD (h : Int) (s : Bool) (N b m : Nat) : List Int := if (digS h s (chks N b (chkM m b))).2 = 0 then (digS h s (chks N b (chkM m b))).1 else (digS h s (chks N b (chkM m b))).1 ++ [(digS h s (chks N b (chkM m b))).2]
def digT (s : Bool) (N b m : Nat) : List Int := trimZ (rawD (2 ^ (b - 1) : Nat) s N b m)
set_option maxRecDepth 100000 in
set_option maxHeartbeats 4000000 in
theorem digits_no (s : Bool) (A : Option Addr) (m c : Nat) (mag : List Int) (b : Int) (w : World) (hu : U w A m c mag) (hm : m ≤ 1000000000000) (hno : rightB s mag = false ∨ ¬ (2 ≤ b ∧ b ≤ 30)) :
    Calls Try.prog 13 #[.agg #[.bool s, .slice A m c], .int .i64 b] w fun e w' => e = .returned (.tuple #[.slice none 0 0, .int .i64 2]) ∧ Below w.heap.size w w' := by
  have HB0 := Lib.hid ((Below.refl w.heap.size w).alloc (Nat.le_refl _) (.cells #[.bool s, .slice A m c] 24))
  have HR := Lib.hid (right_any s A m c mag (w.alloc (.cells #[.bool s, .slice A m c] 24)) (hu.below HB0.out) hm)
  have HM := Lib.hid (fun w => cmay_any b w)
  clear hu hm
  cases hr : rightB s mag
  · rw [hr] at HR
    clear hr hno
    go_enter Try.func13, Try.ntmps13
    go_wp2_with fail
    refine HR.out.mono ?_
    rintro e w1 ⟨rfl, hb⟩
    have HB1 := Lib.hid (HB0.out.trans (hb.mono HB0.out.size))
    clear hb
    go_wp2
    go_ret2
    exact ⟨rfl, HB1.out⟩
  · rw [hr] at HR hno
    have hd : decide (2 ≤ b ∧ b ≤ 30) = false := decide_eq_false (by rcases hno with h | h; cases h; exact h)
    rw [hd] at HM
    clear hr hno hd
    go_enter Try.func13, Try.ntmps13
    go_wp2_with fail
    refine HR.out.mono ?_
    rintro e w1 ⟨rfl, hb⟩
    have HB1 := Lib.hid (HB0.out.trans (hb.mono HB0.out.size))
    clear hb
    go_wp2_with fail
    refine (HM.out _).mono ?_
    rintro e w' ⟨rfl, rfl⟩
    go_wp2
    go_ret2
    exact ⟨rfl, HB1.out⟩
theorem trimZ_zero : ∀ l : List Int, (∀ x, x ∈ l → x = 0) → trimZ l = []
  | [], _ => rfl
  | x :: l, h => by
    have h1 := trimZ_zero l (fun y hy => h y (List.mem_cons_of_mem _ hy))
    have h2 := h x (List.mem_cons_self ..)
    unfold trimZ
    rw [h1, if_pos h2]
theorem trimZ_take : ∀ (l : List Int) (k : Nat), k ≤ l.length → (∀ x, x ∈ l.drop k → x = 0) → (k = 0 ∨ ∃ x, l[k - 1]? = some x ∧ x ≠ 0) → trimZ l = l.take k
  | [], k, _, _, _ => by simp [trimZ]
  | x :: l, 0, _, h, _ => by rw [List.take_zero]; exact trimZ_zero _ h
  | x :: l, k + 1, hk, h, h2 => by
    rw [List.drop_succ_cons] at h
    rcases k with _ | k
    · have h0 : x ≠ 0 := by
        rcases h2 with h2 | ⟨y, hy, h0⟩
        · omega
        · simp at hy; rw [hy]; exact h0
      unfold trimZ
      rw [trimZ_zero l (by simpa using h), if_neg h0]
      simp
    · have ih := trimZ_take l (k + 1) (by simp at hk ⊢; omega) h (.inr (by
        rcases h2 with h2 | ⟨y, hy, h0⟩
        · omega
        · exact ⟨y, by simpa using hy, h0⟩))
      obtain ⟨y, m, hm⟩ : ∃ y m, l.take (k + 1) = y :: m := by
        cases l with
        | nil => simp at hk
        | cons y l => exact ⟨y, l.take k, by simp⟩
      unfold trimZ
      rw [ih, hm, List.take_succ_cons, hm]
theorem ownsRow_cut {w : World} {base : Nat} {e : TypeId} {g n c : Nat} {xs : List Value} (h : w.ownsRow base e 1 (.slice (some ⟨g, 0, none⟩) n c) n xs) (k : Nat) (hk : k ≤ n) : w.ownsRow base e 1 (.slice (some ⟨g, 0, none⟩) k c) k (xs.take k) := by
  have hl : xs.length = n := by have := h.1; omega
  refine ⟨by simp; omega, .inr ?_⟩
  rcases h.2 with ⟨h', _⟩ | ⟨g', cap', cur, h', hb, hg, hn, hm, hs, ht⟩
  · simp at h'
  · injection h' with e1 e2 e3
    injection e1 with e1
    injection e1 with e1
    subst e1
    subst e3
    refine ⟨g, c, cur, rfl, hb, hg, by omega, hm, hs, ?_⟩
    rw [← ht, List.take_take]
    congr 1
    omega
theorem row_base {w : World} {base base' : Nat} {e : TypeId} {size : Nat} {v : Value} {n : Nat} {xs : List Value} (h : w.ownsRow base e size v n xs) (hb : base' ≤ base) : w.ownsRow base' e size v n xs := by
  refine ⟨h.1, ?_⟩
  rcases h.2 with h' | ⟨g, cap, cur, h1, h2, h3⟩
  · exact .inl h'
  · exact .inr ⟨g, cap, cur, h1, by omega, h3⟩
theorem digS_raw_len (h : Int) (s : Bool) (N b m : Nat) : (rawD h s N b m).length ≤ chkM m b + 1 := by
  unfold rawD
  have := digS_len h s (chks N b (chkM m b))
  rw [chks_len] at this
  split <;> simp <;> omega
/-- The boxes that Digits lays. -/
theorem boxes_new (w1 : World) (h : Int) (A : Option Addr) (m c : Nat) (b : Int) (f : Value) :
    ∀ W6, W6 = (((((w1.alloc (.cells #[.int .i64 h] 2)).alloc (.cells #[.slice none 0 0] 27)).alloc (.cells #[.int .i64 0] 2)).alloc (.cells #[f] 57)).alloc (.cells #[.slice A m c] 22)).alloc (.cells #[.int .i64 b] 3) →
    W6.heap.size = w1.heap.size + 6 ∧ Boxed W6 w1.heap.size 2 (.int .i64 h) ∧ Boxed W6 (w1.heap.size + 1) 27 (.slice none 0 0) ∧ Boxed W6 (w1.heap.size + 2) 2 (.int .i64 0) ∧ Boxed W6 (w1.heap.size + 3) 57 f ∧ Boxed W6 (w1.heap.size + 4) 22 (.slice A m c) ∧ Boxed W6 (w1.heap.size + 5) 3 (.int .i64 b) ∧ Below w1.heap.size w1 W6 := by
  intro W6 hW6
  have b1 := Boxed.new w1 2 (.int .i64 h)
  have e1 : Below w1.heap.size w1 (w1.alloc (.cells #[.int .i64 h] 2)) := (Below.refl _ _).alloc (Nat.le_refl _) _
  have z1 : (w1.alloc (.cells #[.int .i64 h] 2)).heap.size = w1.heap.size + 1 := by simp
  generalize (w1.alloc (.cells #[.int .i64 h] 2)) = W1 at *
  have b2 := Boxed.new W1 27 (.slice none 0 0)
  have c2 := b1.alloc (.cells #[.slice none 0 0] 27)
  have e2 := e1.alloc (by omega) (.cells #[.slice none 0 0] 27)
  have z2 : (W1.alloc (.cells #[.slice none 0 0] 27)).heap.size = w1.heap.size + 2 := by simp; omega
  rw [z1] at b2
  generalize (W1.alloc (.cells #[.slice none 0 0] 27)) = W2 at *
  have b3 := Boxed.new W2 2 (.int .i64 0)
  have c3 := c2.alloc (.cells #[.int .i64 0] 2)
  have d3 := b2.alloc (.cells #[.int .i64 0] 2)
  have e3 := e2.alloc (by omega) (.cells #[.int .i64 0] 2)
  have z3 : (W2.alloc (.cells #[.int .i64 0] 2)).heap.size = w1.heap.size + 3 := by simp; omega
  rw [z2] at b3
  generalize (W2.alloc (.cells #[.int .i64 0] 2)) = W3 at *
  have b4 := Boxed.new W3 57 f
  have c4 := c3.alloc (.cells #[f] 57)
  have d4 := d3.alloc (.cells #[f] 57)
  have f4 := b3.alloc (.cells #[f] 57)
  have e4 := e3.alloc (by omega) (.cells #[f] 57)
  have z4 : (W3.alloc (.cells #[f] 57)).heap.size = w1.heap.size + 4 := by simp; omega
  rw [z3] at b4
  generalize (W3.alloc (.cells #[f] 57)) = W4 at *
  have b5 := Boxed.new W4 22 (.slice A m c)
  have z5 : (W4.alloc (.cells #[.slice A m c] 22)).heap.size = w1.heap.size + 5 := by simp; omega
  have e5 := e4.alloc (by omega) (.cells #[.slice A m c] 22)
  rw [z4] at b5
  have b6 := Boxed.new (W4.alloc (.cells #[.slice A m c] 22)) 3 (.int .i64 b)
  rw [z5] at b6
  subst hW6
  exact ⟨by simp; omega, (c4.alloc _).alloc _, (d4.alloc _).alloc _, (f4.alloc _).alloc _, (b4.alloc _).alloc _, b5.alloc _, b6, e5.alloc (by omega) _⟩
/-- What Digits tells. -/
def DigPost (T : List Int) (w : World) (e : Ending) (w' : World) : Prop := ∃ v, e = .returned (.tuple #[v, .int .i64 0]) ∧ w'.ownsRow w.heap.size 2 1 v T.length (T.map (Value.int .i64)) ∧ Below w.heap.size w w'
set_option maxRecDepth 100000 in
set_option maxHeartbeats 4000000 in
theorem digits_yes (s : Bool) (A : Option Addr) (m c b : Nat) (mag : List Int) (w : World) (hu : U w A m c mag) (hd : Nt.Dig 18446744073709551616 mag) (hr : rightB s mag = true) (hb1 : 2 ≤ b) (hb2 : b ≤ 30) (hm : m ≤ 1000000) :
    Calls Try.prog 13 #[.agg #[.bool s, .slice A m c], .int .i64 b] w (DigPost (digT s (Nt.val 18446744073709551616 mag) b m) w) := by
  have HB0 := Lib.hid ((Below.refl w.heap.size w).alloc (Nat.le_refl _) (.cells #[.bool s, .slice A m c] 24))
  have HR := Lib.hid (right_any s A m c mag (w.alloc (.cells #[.bool s, .slice A m c] 24)) (hu.below HB0.out) (by omega))
  rw [hr] at HR
  have HM := Lib.hid (fun w => cmay_any b w)
  rw [decide_eq_true (by omega)] at HM
  have HU := Lib.hid hu
  have HD := Lib.hid hd
  clear hu hd hr
  refine (callsIn_wide (n := 5)).1 ?_
  refine callsIn_of_wp_marks Try.func13 rfl trivial ?_
  simp only [Try.ntmps13, List.size_toArray, List.length_cons, List.length_nil, Nat.reduceAdd, Nat.reduceSub, Array.replicate_succ, Array.replicate_zero, List.push_toArray, List.append_toArray, List.nil_append, List.cons_append]
  obtain ⟨b1, hb'⟩ : ∃ b1, b = b1 + 1 := ⟨b - 1, by omega⟩
  have hbs : (b : Int) - 1 = (b1 : Int) := by omega
  obtain ⟨h, hh⟩ : ∃ h : Int, h = ((2 ^ (b - 1) : Nat) : Int) := ⟨_, rfl⟩
  have hh2 : 2 ≤ h ∧ h ≤ 536870912 := by
    have h1 : (2 : Nat) ^ 1 ≤ 2 ^ (b - 1) := Nat.pow_le_pow_right (by decide) (by omega)
    have h2 : (2 : Nat) ^ (b - 1) ≤ 2 ^ 29 := Nat.pow_le_pow_right (by decide) (by omega)
    have h3 : (2 : Nat) ^ 29 = 536870912 := by decide
    omega
  have hsh : IntKind.i64.wrap (2 ^ b1) = h := by
    rw [show ((2 : Int) ^ b1) = ((2 ^ (b - 1) : Nat) : Int) by rw [hb']; simp, ← hh, IntKind.wrap_i64]; omega
  have HH := Lib.hid hh2
  have HHE := Lib.hid hh
  clear hh hh2 hb'
  gi_wp2_with fail
  refine ⟨trivial, ?_⟩
  refine (callsIn_wide.2 HR.out).mono ?_
  rintro e w1 ⟨rfl, hb⟩
  have HBX := Lib.hid hb
  have HB1 := Lib.hid (HB0.out.trans (hb.mono HB0.out.size))
  have hx1 : w1.cell? ⟨w.heap.size, 1, none⟩ = some (.slice A m c) := (hb.cell (p := ⟨w.heap.size, 1, none⟩) (alloc_lt w _)).trans (by simp)
  have hx0 : w1.cell? ⟨w.heap.size, 0, none⟩ = some (.bool s) := (hb.cell (p := ⟨w.heap.size, 0, none⟩) (alloc_lt w _)).trans (by simp)
  have HSZ : Hid (w.heap.size < w1.heap.size) := Lib.hid (Nat.lt_of_lt_of_le (alloc_lt w _) hb.size)
  have hx4 : ∀ o1 o2 o3 o4, ((((w1.alloc o1).alloc o2).alloc o3).alloc o4).cell? ⟨w.heap.size, 1, none⟩ = some (.slice A m c) := fun o1 o2 o3 o4 => by
    have h1 := HSZ.out
    rw [((Below.refl _ _).alloc (Nat.le_refl _) o4).cell (p := ⟨w.heap.size, 1, none⟩) (by simp; omega), ((Below.refl _ _).alloc (Nat.le_refl _) o3).cell (p := ⟨w.heap.size, 1, none⟩) (by simp; omega), ((Below.refl _ _).alloc (Nat.le_refl _) o2).cell (p := ⟨w.heap.size, 1, none⟩) (by simp; omega), ((Below.refl _ _).alloc (Nat.le_refl _) o1).cell (p := ⟨w.heap.size, 1, none⟩) h1]
    exact hx1
  have HX0 := Lib.hid hx0
  have HX1 := Lib.hid hx1
  clear hb hx0 hx1
  gi_wp2_with fail
  refine ⟨trivial, ?_⟩
  refine (callsIn_wide.2 (HM.out _)).mono ?_
  rintro e w' ⟨rfl, rfl⟩
  gi_wp2_with fail
  refine ⟨trivial, ?_⟩
  refine (plain_in Fence.wide _ trivial rfl A m c (b : Int) _).mono ?_
  rintro e w' ⟨rfl, rfl⟩
  have hnew := boxes_new w1 h A m c (b : Int) (.func (.func 36) #[] #[.pointer (some ⟨w1.heap.size, 0, none⟩), .pointer (some ⟨w1.heap.size + 1 + 1, 0, none⟩), .pointer (some ⟨w1.heap.size + 1, 0, none⟩)])
  gi_wp2_with fail
  obtain ⟨W6, hW6⟩ : ∃ W6, W6 = (((((w1.alloc (.cells #[.int .i64 h] 2)).alloc (.cells #[.slice none 0 0] 27)).alloc (.cells #[.int .i64 0] 2)).alloc (.cells #[.func (.func 36) #[] #[.pointer (some ⟨w1.heap.size, 0, none⟩), .pointer (some ⟨w1.heap.size + 1 + 1, 0, none⟩), .pointer (some ⟨w1.heap.size + 1, 0, none⟩)]] 57)).alloc (.cells #[.slice A m c] 22)).alloc (.cells #[.int .i64 b] 3) := ⟨_, rfl⟩
  rw [← hW6]
  obtain ⟨q0, q1, q2, q3, q4, q5, q6, q7⟩ := hnew W6 hW6
  clear hnew hW6 hx4
  have q3' : Boxed W6 (w1.heap.size + 1 + 1) 2 (.int .i64 0) := q3
  have q4' : Boxed W6 (w1.heap.size + 1 + 1 + 1) 57 (.func (.func 36) #[] #[.pointer (some ⟨w1.heap.size, 0, none⟩), .pointer (some ⟨w1.heap.size + 1 + 1, 0, none⟩), .pointer (some ⟨w1.heap.size + 1, 0, none⟩)]) := q4
  have q5' : Boxed W6 (w1.heap.size + 1 + 1 + 1 + 1) 22 (.slice A m c) := q5
  have q6' : Boxed W6 (w1.heap.size + 1 + 1 + 1 + 1 + 1) 3 (.int .i64 b) := q6
  have q8 : W6.cell? ⟨w.heap.size, 0, none⟩ = some (.bool s) := (q7.cell (p := ⟨w.heap.size, 0, none⟩) HSZ.out).trans HX0.out
  have q9 : Below w.heap.size w W6 := HB1.out.trans (q7.mono HB1.out.size)
  have HSZ6 : Hid (W6.heap.size = w1.heap.size + 6) := Lib.hid q0
  clear q0 q3 q4 q5 q6 q7 HR HM HX0 HX1 HBX
  generalize e5 : w1.heap.size + 1 + 1 + 1 + 1 + 1 = Bb at *
  generalize e4 : w1.heap.size + 1 + 1 + 1 + 1 = Bm at *
  generalize e3 : w1.heap.size + 1 + 1 + 1 = Bp at *
  generalize e2 : w1.heap.size + 1 + 1 = Bc at *
  generalize e1 : w1.heap.size + 1 = Bo at *
  generalize e0 : w1.heap.size = Bh at *
  have HORD : Hid (w.heap.size < Bh ∧ Bo = Bh + 1 ∧ Bc = Bh + 2 ∧ Bp = Bh + 3 ∧ Bm = Bh + 4 ∧ Bb = Bh + 5 ∧ W6.heap.size = Bh + 6) := Lib.hid (by have h1 := HSZ.out; have h2 := HSZ6.out; omega)
  clear e0 e1 e2 e3 e4 e5 HSZ HSZ6 HB1 HB0 hsh hbs
  have hbx : Boxes W6 W6.heap.size Bh Bc Bo h 0 (.slice none 0 0) [] := ⟨q1, q3', q2, World.ownsRow_nil _ _ _ _, Nat.le_refl _⟩
  have HSEQ := Lib.hid (plain_stops Fence.wide 4 trivial rfl (by omega) Bm Bb w.heap.size m c b A mag hm hb1 hb2 HD.out W6 (by have := HORD.out; omega) (by have := HORD.out; omega) q9.size q5'.cell q6'.cell ((UB.of HU.out).below q9))
  generalize Nt.val 18446744073709551616 mag = N at *
  refine wpIn_rangeFunc_ownF (F := Fence.wide) rfl (by omega) (gf := 68) (lb := #[.pointer (some ⟨Bm, 0, none⟩), .pointer (some ⟨Bb, 0, none⟩)]) rfl trivial (enters_of Try.func68 (by kernel_rfl) rfl)
    HSEQ.out kp2_t (kp2_b (by have := HORD.out; omega) (by have := HORD.out; omega) q9.size) (Below.refl _ _) (fun _ => rfl)
    (fun pre W => (∃ v, Boxes W W6.heap.size Bh Bc Bo h (digS h s pre).2 v (digS h s pre).1) ∧ Below w.heap.size w W ∧ (∀ k, k < W6.heap.size → k ≠ Bc → k ≠ Bo → W.heap[k]? = W6.heap[k]?))
    (fun _ _ _ => False) ?hI ?hIx ?h0 (fun x => { tmps := #[.agg #[.bool s, .slice A m c], .int .i64 b, .pointer (some ⟨w.heap.size, 0, none⟩), undef, .slice none 0 0, .int .i64 0, .pointer (some ⟨Bh, 0, none⟩), .pointer (some ⟨Bo, 0, none⟩), .pointer (some ⟨Bc, 0, none⟩), .pointer (some ⟨Bp, 0, none⟩), .int .i64 x.1, .agg #[.bool s, .slice A m c], .bool true, .bool false, .bool false, .int .i64 b, .bool true, .bool false, .bool false, .int .i64 b, .int .i64 b1, .int .i64 h, .func (.func 36) #[] #[.pointer (some ⟨Bh, 0, none⟩), .pointer (some ⟨Bc, 0, none⟩), .pointer (some ⟨Bo, 0, none⟩)], .pointer (some ⟨w.heap.size, 1, none⟩), .slice A m c, .int .i64 b, .func (.func 68) #[] #[.pointer (some ⟨Bm, 0, none⟩), .pointer (some ⟨Bb, 0, none⟩)], .int .i64 x.1, undef, undef, undef, undef, undef, undef, undef, undef, undef, undef, undef, undef, undef, undef, undef, undef, undef, undef, undef, undef, undef, undef, undef, undef, undef, undef, undef, undef, undef, undef, undef, undef], defers := [] }) ?assign ?body ?done ?stop
  case hI =>
    rintro pre W W' row ⟨⟨v, b1', b2, b3, b4, b5⟩, h2, h3⟩ hg hr
    have hn : ∀ k, k < W6.heap.size → some k ≠ row := fun k hk e => by have := (hr k e.symm).1; omega
    refine ⟨⟨v, b1'.kept hg (hn _ (by have := HORD.out; omega)), b2.kept hg (hn _ (by have := HORD.out; omega)), b3.kept hg (hn _ (by have := HORD.out; omega)), b4.kept hg ?_, Nat.le_trans b5 hg.size⟩, h2.grown hg h2.size (fun k e => by have := (hr k e).1; have := HORD.out; omega), fun k hk k1 k2 => (hg.block k (by omega) (hn k hk)).trans (h3 k hk k1 k2)⟩
    rcases b4.2 with ⟨rfl, _⟩ | ⟨g, cap, cur, rfl, _, hgb, _⟩
    · exact .inl rfl
    · refine .inr fun e' => ?_
      obtain ⟨_, o, ho, hc⟩ := hr g (by simpa [Value.ownBlock] using e'.symm)
      rw [hgb] at ho; cases ho; cases hc
  case hIx => exact fun _ _ _ _ _ hs _ _ => hs
  case h0 => exact ⟨⟨_, hbx⟩, q9, fun _ _ _ _ => rfl⟩
  case assign =>
    intro l x W K hK
    gi_wp2
    exact hK
  case body =>
    rintro l pre x W ⟨⟨v, hb⟩, h2, h3⟩ hlen
    have hxs : W.cell? ⟨w.heap.size, 0, none⟩ = some (.bool s) := (World.cell?_of_block (a := ⟨w.heap.size, 0, none⟩) (h3 w.heap.size (by have := HORD.out; omega) (by have := HORD.out; omega) (by have := HORD.out; omega))).trans q8
    have hpp : W.cell? ⟨Bp, 0, none⟩ = some (.func (.func 36) #[] #[.pointer (some ⟨Bh, 0, none⟩), .pointer (some ⟨Bc, 0, none⟩), .pointer (some ⟨Bo, 0, none⟩)]) := (World.cell?_of_block (a := ⟨Bp, 0, none⟩) (h3 Bp (by have := HORD.out; omega) (by have := HORD.out; omega) (by have := HORD.out; omega))).trans q4'.cell
    have hcc := hb.2.1.cell
    have hcarry := digS_carry h s pre
    have hlx := digS_len h s pre
    have hx2 := x.2
    obtain ⟨E, hE⟩ : ∃ E, E = sgnC s x + (digS h s pre).2 := ⟨_, rfl⟩
    have hEb : -10000000000 ≤ E ∧ E ≤ 10000000000 := by unfold sgnC at hE; split at hE <;> omega
    have hml : chkM m b ≤ 64000000 := by
      rcases Nat.lt_or_ge 64000000 (chkM m b) with h' | h'
      · have := (chkM_lt m b 64000000 (by omega)).1 h'
        have h2' := Nat.mul_le_mul_right 64000000 hb1
        omega
      · exact h'
    have HPUT := Lib.hid (put_any W6.heap.size Bh Bc Bo h E (digS h s pre).2 v (digS h s pre).1 W hb (by have := HORD.out; omega) (by have := HORD.out; omega) (by have := HORD.out; omega) (by have := HORD.out; omega) (by have := HORD.out; omega) (by have := HORD.out; omega) HH.out.1 (by have := HH.out; omega) hEb.1 hEb.2 (by omega))
    have FIN : Hid (∀ e W', PutPost W6.heap.size Bh Bc Bo h E (digS h s pre).1 W e W' → (∃ v, e = .returned v) ∧ KeepsOthers W W' ∧ Kp2 w.heap.size Bm Bb W W' ∧ (∃ v, Boxes W' W6.heap.size Bh Bc Bo h (digS h s (pre ++ [x])).2 v (digS h s (pre ++ [x])).1) ∧ Below w.heap.size w W' ∧ (∀ k, k < W6.heap.size → k ≠ Bc → k ≠ Bo → W'.heap[k]? = W6.heap[k]?)) := Lib.hid (by
      rintro e W' ⟨he, v', hb', hst⟩
      have ho := HORD.out
      have hw : Below w.heap.size W W' := hst.2.1 w.heap.size (by omega) (by omega) h2.size
      refine ⟨he, hst.1, ⟨hw, fun k hk => hst.2.2 k (by rcases hk with rfl | rfl <;> omega) (by rcases hk with rfl | rfl <;> omega) (by rcases hk with rfl | rfl <;> omega)⟩, ⟨v', ?_⟩, h2.trans hw, fun k k0 k1 k2 => (hst.2.2 k k0 k1 k2).trans (h3 k k0 k1 k2)⟩
      rw [digS_snoc]
      unfold putL
      rw [← hE]
      exact hb')
    have HSGN : Hid (E = sgnC s x + (digS h s pre).2) := Lib.hid hE
    generalize hcv : (digS h s pre).2 = cy at *
    obtain ⟨xv, hxv⟩ : ∃ xv : Int, xv = x.1 := ⟨_, rfl⟩
    cases s
    · have hadd : wrap64 (x.1 + cy) = E := by rw [hE]; unfold sgnC wrap64; simp; omega
      clear hb h2 h3 hlen hcarry hlx hE hEb hml hcv hxv HSGN
      gi_wp2_with fail
      refine ⟨trivial, ?_⟩
      refine (CallsIn.inRound l (callsIn_wide.2 HPUT.out)).mono ?_
      rintro e W' hpost
      obtain ⟨⟨vv, rfl⟩, f1, f2, f3, f4, f5⟩ := FIN.out _ _ hpost
      have F := Lib.hid (And.intro f1 (And.intro f2 (And.intro f3 (And.intro f4 f5))))
      clear hpost f1 f2 f3 f4 f5
      gi_wp2
      exact ⟨F.out.1, F.out.2.1, F.out.2.2.1, F.out.2.2.2.1, F.out.2.2.2.2⟩
    · have hadd : wrap64 (-x.1 + cy) = E := by rw [hE]; unfold sgnC wrap64; simp; omega
      have hng : wrap64 (-x.1) = -x.1 := by unfold wrap64; omega
      clear hb h2 h3 hlen hcarry hlx hE hEb hml hcv hxv HSGN
      gi_wp2_with fail
      refine ⟨trivial, ?_⟩
      refine (CallsIn.inRound l (callsIn_wide.2 HPUT.out)).mono ?_
      rintro e W' hpost
      obtain ⟨⟨vv, rfl⟩, f1, f2, f3, f4, f5⟩ := FIN.out _ _ hpost
      have F := Lib.hid (And.intro f1 (And.intro f2 (And.intro f3 (And.intro f4 f5))))
      clear hpost f1 f2 f3 f4 f5
      gi_wp2
      exact ⟨F.out.1, F.out.2.1, F.out.2.2.1, F.out.2.2.2.1, F.out.2.2.2.2⟩
  case done =>
    rintro D ys W hD rfl ⟨⟨v, hb⟩, h2, h3⟩ hK
    have hpp : W.cell? ⟨Bp, 0, none⟩ = some (.func (.func 36) #[] #[.pointer (some ⟨Bh, 0, none⟩), .pointer (some ⟨Bc, 0, none⟩), .pointer (some ⟨Bo, 0, none⟩)]) := (World.cell?_of_block (a := ⟨Bp, 0, none⟩) (h3 Bp (by have := HORD.out; omega) (by have := HORD.out; omega) (by have := HORD.out; omega))).trans q4'.cell
    have hcc := hb.2.1.cell
    have hcarry := digS_carry h s (chks N b (chkM m b))
    have hml : chkM m b ≤ 64000000 := by
      rcases Nat.lt_or_ge 64000000 (chkM m b) with h' | h'
      · have := (chkM_lt m b 64000000 (by omega)).1 h'
        have h2' := Nat.mul_le_mul_right 64000000 hb1
        omega
      · exact h'
    have hL : (rawD h s N b m).length ≤ 64000001 := by have := digS_raw_len h s N b m; omega
    have HDW := Lib.hid hD
    obtain ⟨FF, hFF⟩ : ∃ FF, FF = rawD h s N b m := ⟨_, rfl⟩
    have HTT : Hid (digT s N b m = trimZ FF) := Lib.hid (by unfold digT; rw [hFF, HHE.out])
    rw [← hFF] at hL
    have HFF := Lib.hid hFF
    by_cases hc0 : (digS h s (chks N b (chkM m b))).2 = 0
    · rw [hc0] at hcc
      have hb2 := hb
      rw [show (digS h s (chks N b (chkM m b))).1 = FF by rw [hFF]; unfold rawD; rw [if_pos hc0], hc0] at hb2
      have HROW := Lib.hid hb2
      have HBW := Lib.hid h2
      have HD2 := Lib.hid hK
      obtain ⟨WW, hWW⟩ : ∃ WW, WW = W := ⟨_, rfl⟩
      clear hc0 hFF hb hb2 h2 h3 hK hcarry hml hD
      subst hWW
      have HBOX := Lib.hid HROW.out.2.2.1
      have HOWN := Lib.hid HROW.out.2.2.2.1
      have hco := HBOX.out.cell
      have hfo := HBOX.out.frozen
      clear HROW
      gi_wp2_with fail
      rcases HOWN.out.2 with ⟨hv0, h0⟩ | ⟨g, cap, cur, hv0, hgb, _⟩
      · subst hv0
        have HNIL : Hid (trimZ FF = []) := Lib.hid (by rw [List.eq_nil_of_length_eq_zero h0]; rfl)
        clear h0
        gi_loopw [53] (fun _ wr => wr = WW) (fun _ _ => 0)
        case atStart => exact rfl
        case round =>
          obtain rfl := hrel
          gi_wp2
          refine ⟨by simp, .inl ⟨_, _, rfl, run_takeDeferred HD2.out, ?_⟩⟩
          refine ⟨_, results_tmp2 rfl _ _ _, ?_⟩
          refine ⟨_, rfl, ?_, HBW.out.trans (belowK_b (w := w) (Nat.le_refl _) wr D _ _ (by have := HDW.out; have := HORD.out; omega) HD2.out rfl rfl)⟩
          rw [HTT.out, HNIL.out]
          exact World.ownsRow_nil _ _ _ _
      · subst hv0
        clear hco hfo
        have HGB := Lib.hid hgb
        clear hgb
        obtain ⟨L, hLL⟩ : ∃ L, L = FF.length := ⟨_, rfl⟩
        rw [← hLL] at HOWN HBOX hL
        have HLL := Lib.hid hLL
        clear hLL
        gi_loopw [53] (fun _ wr => ∃ k : Nat, k ≤ L ∧ Hid (Boxed wr Bo 27 (.slice (some ⟨g, 0, none⟩) k cap)) ∧ Hid (∀ x, x ∈ FF.drop k → x = 0) ∧ Hid (wr.ownsRow W6.heap.size 2 1 (.slice (some ⟨g, 0, none⟩) L cap) L (FF.map (Value.int .i64))) ∧ Hid (Below w.heap.size w wr) ∧ Hid (wr.heap[D]? = some (.deferred (some [])))) (fun _ wr => lenV ((wr.cell? ⟨Bo, 0, none⟩).getD undef))
        case atStart => exact ⟨L, Nat.le_refl _, HBOX, Lib.hid (fun x hx => by rw [HLL.out, List.drop_length] at hx; cases hx), HOWN, HBW, HD2⟩
        case round =>
          clear HBOX HOWN HBW HD2
          obtain ⟨k, hk, HBO, HZ, HR3, HB3, HD3⟩ := hrel
          have hco := HBO.out.cell
          have hfo := HBO.out.frozen
          have hkc : k ≤ cap := by
            rcases HR3.out.2 with ⟨h', _⟩ | ⟨g', cap', cur, h', _, _, hn, _⟩
            · simp at h'
            · injection h' with _ _ e3; omega
          rcases k with _ | k
          · have HKT : Hid (trimZ FF = FF.take 0) := Lib.hid (trimZ_take FF 0 (by have := HLL.out; omega) HZ.out (.inl rfl))
            gi_wp2
            refine ⟨by simp, .inl ⟨_, _, rfl, run_takeDeferred HD3.out, ?_⟩⟩
            refine ⟨_, results_tmp2 rfl _ _ _, ?_⟩
            refine ⟨_, rfl, ?_, HB3.out.trans (belowK_b (w := w) (Nat.le_refl _) wr D _ _ (by have := HDW.out; have := HORD.out; omega) HD3.out rfl rfl)⟩
            rw [HTT.out, HKT.out, List.length_take, Nat.min_eq_left (by have := HLL.out; omega), List.map_take]
            exact ownsRow_putObj (row_base (ownsRow_cut HR3.out _ (by omega)) (by have := HORD.out; omega)) _ HD3.out rfl
          · obtain ⟨x, hx⟩ : ∃ x, FF[k]? = some x := ⟨_, List.getElem?_eq_getElem (by have := HLL.out; omega)⟩
            have hcx : wr.cell? ⟨g, k, none⟩ = some (.int .i64 x) := by rw [World.ownsRow.cellAt HR3.out k (by omega), List.getElem?_map, hx]; rfl
            by_cases h0 : x = 0
            · subst h0
              have HZ2 := Lib.hid (drop_zero FF k hx HZ.out)
              have HBO2 := Lib.hid (HBO.out.set (.slice (some ⟨g, 0, none⟩) k cap))
              have HR4 := Lib.hid (HR3.out.kept (grownBy_setCell' wr Bo (.slice (some ⟨g, 0, none⟩) k cap)) (.inr (fun e => by have := row_ge HR3.out Bo e; have := HORD.out; omega)))
              have HB4 := Lib.hid (HB3.out.setCell (p := ⟨Bo, 0, none⟩) (by have := HORD.out; show w.heap.size ≤ Bo; omega) (.slice (some ⟨g, 0, none⟩) k cap))
              have HD4 : Hid ((wr.setCell ⟨Bo, 0, none⟩ (.slice (some ⟨g, 0, none⟩) k cap)).heap[D]? = some (.deferred (some []))) := Lib.hid ((Below.heap_setCell _ _ _ _ (by have := HDW.out; have := HORD.out; show D ≠ Bo; omega)).trans HD3.out)
              have HME : Hid (lenV (((wr.setCell ⟨Bo, 0, none⟩ (.slice (some ⟨g, 0, none⟩) k cap)).cell? ⟨Bo, 0, none⟩).getD undef) = k) := Lib.hid (by rw [HBO2.out.cell]; rfl)
              have HME0 : Hid (lenV ((wr.cell? ⟨Bo, 0, none⟩).getD undef) = k + 1) := Lib.hid (by rw [HBO.out.cell]; rfl)
              clear hx
              gi_wp2_with fail
              go_roundw
              case rel => exact ⟨k, by omega, HBO2, HZ2, HR4, HB4, HD4⟩
              case measure => rw [HME.out, HME0.out]; omega
            · have hx0 : (x == 0) = false := by simpa using h0
              have HX := Lib.hid hx
              clear hx
              have HKT : Hid (trimZ FF = FF.take (k + 1)) := Lib.hid (trimZ_take FF (k + 1) (by have := HLL.out; omega) HZ.out (.inr ⟨x, by simpa using HX.out, h0⟩))
              gi_wp2
              refine ⟨by simp, .inl ⟨_, _, rfl, run_takeDeferred HD3.out, ?_⟩⟩
              refine ⟨_, results_tmp2 rfl _ _ _, ?_⟩
              refine ⟨_, rfl, ?_, HB3.out.trans (belowK_b (w := w) (Nat.le_refl _) wr D _ _ (by have := HDW.out; have := HORD.out; omega) HD3.out rfl rfl)⟩
              rw [HTT.out, HKT.out, List.length_take, Nat.min_eq_left (by have := HLL.out; omega), List.map_take]
              exact ownsRow_putObj (row_base (ownsRow_cut HR3.out _ (by omega)) (by have := HORD.out; omega)) _ HD3.out rfl
    · obtain ⟨cy, hcy⟩ : ∃ cy, cy = (digS h s (chks N b (chkM m b))).2 := ⟨_, rfl⟩
      obtain ⟨xs, hxs⟩ : ∃ xs, xs = (digS h s (chks N b (chkM m b))).1 := ⟨_, rfl⟩
      have hFx : FF = xs ++ [cy] := by rw [hFF, hxs, hcy]; unfold rawD; rw [if_neg hc0]
      have hlx := digS_len h s (chks N b (chkM m b))
      rw [chks_len] at hlx
      rw [← hcy] at hcc hc0 hcarry hb
      rw [← hxs] at hb hlx
      have hst : stepD h cy = (cy, 0) := by
        have := HH.out
        unfold stepD
        rw [if_neg (by omega), if_neg (by omega)]
      have hpost := put_any W6.heap.size Bh Bc Bo h cy cy v xs W hb (by have := HORD.out; omega) (by have := HORD.out; omega) (by have := HORD.out; omega) (by have := HORD.out; omega) (by have := HORD.out; omega) (by have := HORD.out; omega) HH.out.1 (by have := HH.out; omega) (by omega) (by omega) (by omega)
      have HPUT : Hid (Calls Try.prog 36 #[.int .i64 cy, .pointer (some ⟨Bh, 0, none⟩), .pointer (some ⟨Bc, 0, none⟩), .pointer (some ⟨Bo, 0, none⟩)] W fun e W' => (∃ r, e = .returned r) ∧ ∃ v', Boxes W' W6.heap.size Bh Bc Bo h 0 v' FF ∧ Below w.heap.size w W' ∧ W'.heap[D]? = some (.deferred (some []))) := Lib.hid (hpost.mono (by
        rintro e W' ⟨he, v', hb', hst'⟩
        rw [hst] at hb'
        exact ⟨he, v', by rw [hFx]; exact hb', h2.trans (hst'.2.1 w.heap.size (by have := HORD.out; omega) (by have := HORD.out; omega) h2.size), hst'.1.same _ _ hK rfl⟩))
      have hc1 : (cy == 0) = false := by simpa using hc0
      have hc2 : (cy != 0) = true := by simpa using hc0
      clear hc0 hFF hb h2 h3 hK hcarry hml hD hlx hst hpost hFx hxs hcy
      gi_wp2_with fail
      refine ⟨trivial, ?_⟩
      refine (callsIn_wide.2 HPUT.out).mono ?_
      rintro e WW ⟨⟨r, rfl⟩, v', hb, h2, hK⟩
      have HROW := Lib.hid hb
      have HBW := Lib.hid h2
      have HD2 := Lib.hid hK
      clear hb h2 hK
      have HBOX := Lib.hid HROW.out.2.2.1
      have HOWN := Lib.hid HROW.out.2.2.2.1
      have hco := HBOX.out.cell
      have hfo := HBOX.out.frozen
      clear HROW
      gi_wp2_with fail
      rcases HOWN.out.2 with ⟨hv0, h0⟩ | ⟨g, cap, cur, hv0, hgb, _⟩
      · subst hv0
        have HNIL : Hid (trimZ FF = []) := Lib.hid (by rw [List.eq_nil_of_length_eq_zero h0]; rfl)
        clear h0
        gi_loopw [53] (fun _ wr => wr = WW) (fun _ _ => 0)
        case atStart => exact rfl
        case round =>
          obtain rfl := hrel
          gi_wp2
          refine ⟨by simp, .inl ⟨_, _, rfl, run_takeDeferred HD2.out, ?_⟩⟩
          refine ⟨_, results_tmp2 rfl _ _ _, ?_⟩
          refine ⟨_, rfl, ?_, HBW.out.trans (belowK_b (w := w) (Nat.le_refl _) wr D _ _ (by have := HDW.out; have := HORD.out; omega) HD2.out rfl rfl)⟩
          rw [HTT.out, HNIL.out]
          exact World.ownsRow_nil _ _ _ _
      · subst hv0
        clear hco hfo
        have HGB := Lib.hid hgb
        clear hgb
        obtain ⟨L, hLL⟩ : ∃ L, L = FF.length := ⟨_, rfl⟩
        rw [← hLL] at HOWN HBOX hL
        have HLL := Lib.hid hLL
        clear hLL
        gi_loopw [53] (fun _ wr => ∃ k : Nat, k ≤ L ∧ Hid (Boxed wr Bo 27 (.slice (some ⟨g, 0, none⟩) k cap)) ∧ Hid (∀ x, x ∈ FF.drop k → x = 0) ∧ Hid (wr.ownsRow W6.heap.size 2 1 (.slice (some ⟨g, 0, none⟩) L cap) L (FF.map (Value.int .i64))) ∧ Hid (Below w.heap.size w wr) ∧ Hid (wr.heap[D]? = some (.deferred (some [])))) (fun _ wr => lenV ((wr.cell? ⟨Bo, 0, none⟩).getD undef))
        case atStart => exact ⟨L, Nat.le_refl _, HBOX, Lib.hid (fun x hx => by rw [HLL.out, List.drop_length] at hx; cases hx), HOWN, HBW, HD2⟩
        case round =>
          clear HBOX HOWN HBW HD2
          obtain ⟨k, hk, HBO, HZ, HR3, HB3, HD3⟩ := hrel
          have hco := HBO.out.cell
          have hfo := HBO.out.frozen
          have hkc : k ≤ cap := by
            rcases HR3.out.2 with ⟨h', _⟩ | ⟨g', cap', cur, h', _, _, hn, _⟩
            · simp at h'
            · injection h' with _ _ e3; omega
          rcases k with _ | k
          · have HKT : Hid (trimZ FF = FF.take 0) := Lib.hid (trimZ_take FF 0 (by have := HLL.out; omega) HZ.out (.inl rfl))
            gi_wp2
            refine ⟨by simp, .inl ⟨_, _, rfl, run_takeDeferred HD3.out, ?_⟩⟩
            refine ⟨_, results_tmp2 rfl _ _ _, ?_⟩
            refine ⟨_, rfl, ?_, HB3.out.trans (belowK_b (w := w) (Nat.le_refl _) wr D _ _ (by have := HDW.out; have := HORD.out; omega) HD3.out rfl rfl)⟩
            rw [HTT.out, HKT.out, List.length_take, Nat.min_eq_left (by have := HLL.out; omega), List.map_take]
            exact ownsRow_putObj (row_base (ownsRow_cut HR3.out _ (by omega)) (by have := HORD.out; omega)) _ HD3.out rfl
          · obtain ⟨x, hx⟩ : ∃ x, FF[k]? = some x := ⟨_, List.getElem?_eq_getElem (by have := HLL.out; omega)⟩
            have hcx : wr.cell? ⟨g, k, none⟩ = some (.int .i64 x) := by rw [World.ownsRow.cellAt HR3.out k (by omega), List.getElem?_map, hx]; rfl
            by_cases h0 : x = 0
            · subst h0
              have HZ2 := Lib.hid (drop_zero FF k hx HZ.out)
              have HBO2 := Lib.hid (HBO.out.set (.slice (some ⟨g, 0, none⟩) k cap))
              have HR4 := Lib.hid (HR3.out.kept (grownBy_setCell' wr Bo (.slice (some ⟨g, 0, none⟩) k cap)) (.inr (fun e => by have := row_ge HR3.out Bo e; have := HORD.out; omega)))
              have HB4 := Lib.hid (HB3.out.setCell (p := ⟨Bo, 0, none⟩) (by have := HORD.out; show w.heap.size ≤ Bo; omega) (.slice (some ⟨g, 0, none⟩) k cap))
              have HD4 : Hid ((wr.setCell ⟨Bo, 0, none⟩ (.slice (some ⟨g, 0, none⟩) k cap)).heap[D]? = some (.deferred (some []))) := Lib.hid ((Below.heap_setCell _ _ _ _ (by have := HDW.out; have := HORD.out; show D ≠ Bo; omega)).trans HD3.out)
              have HME : Hid (lenV (((wr.setCell ⟨Bo, 0, none⟩ (.slice (some ⟨g, 0, none⟩) k cap)).cell? ⟨Bo, 0, none⟩).getD undef) = k) := Lib.hid (by rw [HBO2.out.cell]; rfl)
              have HME0 : Hid (lenV ((wr.cell? ⟨Bo, 0, none⟩).getD undef) = k + 1) := Lib.hid (by rw [HBO.out.cell]; rfl)
              clear hx
              gi_wp2_with fail
              go_roundw
              case rel => exact ⟨k, by omega, HBO2, HZ2, HR4, HB4, HD4⟩
              case measure => rw [HME.out, HME0.out]; omega
            · have hx0 : (x == 0) = false := by simpa using h0
              have HX := Lib.hid hx
              clear hx
              have HKT : Hid (trimZ FF = FF.take (k + 1)) := Lib.hid (trimZ_take FF (k + 1) (by have := HLL.out; omega) HZ.out (.inr ⟨x, by simpa using HX.out, h0⟩))
              gi_wp2
              refine ⟨by simp, .inl ⟨_, _, rfl, run_takeDeferred HD3.out, ?_⟩⟩
              refine ⟨_, results_tmp2 rfl _ _ _, ?_⟩
              refine ⟨_, rfl, ?_, HB3.out.trans (belowK_b (w := w) (Nat.le_refl _) wr D _ _ (by have := HDW.out; have := HORD.out; omega) HD3.out rfl rfl)⟩
              rw [HTT.out, HKT.out, List.length_take, Nat.min_eq_left (by have := HLL.out; omega), List.map_take]
              exact ownsRow_putObj (row_base (ownsRow_cut HR3.out _ (by omega)) (by have := HORD.out; omega)) _ HD3.out rfl
  case stop =>
    rintro D c pre W _ _ h _
    exact h.elim
end Go.Proofs.Ytclnmheplecknaa

namespace Go.Proofs.Ytclnmheplecknaa
open Go.RowKit
theorem rright_any (s : Bool) (A : Option Addr) (n c : Nat) (l : List Int) (w : World) (hu : U w A n c l) (hn : n ≤ 1000000000000) :
    Calls Try.prog 38 #[.agg #[.bool s, .slice A n c]] w fun e w' => e = .returned (.bool (rightB s l)) ∧ Below w.heap.size w w' := by
  have HB := Lib.hid ((Below.refl w.heap.size w).alloc (Nat.le_refl _) (.cells #[.bool s, .slice A n c] 24))
  obtain ⟨T, hT⟩ : ∃ T, T = rightB s l := ⟨_, rfl⟩
  rw [← hT]
  have hl := hu.1
  unfold rightB at hT
  rw [hl] at hT
  rcases Nat.eq_zero_or_pos n with h0 | h0
  · rw [if_pos h0] at hT
    subst h0
    have HT := Lib.hid hT
    clear hT hl hu
    cases s
    · go_enter Try.func38, Try.ntmps38
      go_wp2
      go_ret
      exact ⟨by rw [HT.out]; rfl, HB.out⟩
    · go_enter Try.func38, Try.ntmps38
      go_wp2
      go_ret
      exact ⟨by rw [HT.out]; rfl, HB.out⟩
  · rw [if_neg (by omega)] at hT
    have hne : ((n : Int) == 0) = false := by simp; omega
    by_cases h4 : n ≤ 4096
    · obtain ⟨x, hx⟩ : ∃ x, l[n - 1]? = some x := ⟨_, List.getElem?_eq_getElem (by omega)⟩
      rw [hx, Option.getD_some, decide_eq_true h4, Bool.true_and] at hT
      obtain ⟨ad, rfl, hb, hc⟩ := hu.2.2.2 (n - 1) x hx
      obtain ⟨k, hk⟩ : ∃ k, n = k + 1 := ⟨n - 1, by omega⟩
      rw [show n - 1 = k by omega] at hc
      have hc2 : (w.alloc (.cells #[.bool s, .slice (some ad) n c] 24)).cell? (ad.add k) = some (.int .u64 x) := by
        rw [((Below.refl w.heap.size w).alloc (Nat.le_refl _) (.cells #[.bool s, .slice (some ad) n c] 24)).cell (by rw [add_block]; exact hb)]
        exact hc
      have hkn : k < n := by omega
      have hsub : (n : Int) - 1 = (k : Int) := by omega
      have HT := Lib.hid hT
      clear hT hl hu hx hc hb hn hk
      go_enter Try.func38, Try.ntmps38
      go_wp2
      go_ret
      refine ⟨?_, HB.out⟩
      rw [HT.out]
      first | rfl | (simp [bne])
    · rw [decide_eq_false h4, Bool.false_and] at hT
      have HT := Lib.hid hT
      have h5 : ¬ (n : Int) ≤ 4096 := by omega
      clear hT hl hu
      go_enter Try.func38, Try.ntmps38
      go_wp2
      go_ret
      exact ⟨by rw [HT.out]; rfl, HB.out⟩
namespace Nt
theorem chk_succ (N at_ i : Nat) : chkN N at_ (i + 1) = chkN N at_ i + 2 ^ i * chkN N (at_ + i) 1 := by
  unfold chkN
  rw [Nat.mod_pow_succ, Nat.pow_add 2 at_ i, Nat.div_div_eq_div_mul, Nat.pow_one]
theorem chk_high (l : List Int) (hd : Dig 18446744073709551616 l) (p b : Nat) (h : 64 * l.length ≤ p) : chkN (val 18446744073709551616 l) p b = 0 := by
  unfold chkN
  have h1 := val_lt_pow 18446744073709551616 (by decide) l hd
  rw [Nat.div_eq_of_lt, Nat.zero_mod]
  refine Nat.lt_of_lt_of_le h1 ?_
  rw [show (18446744073709551616 : Nat) = 2 ^ 64 by decide, ← Nat.pow_mul]
  exact Nat.pow_le_pow_right (by decide) h
theorem chk_lt (N p b : Nat) : chkN N p b < 2 ^ b := Nat.mod_lt _ (Nat.two_pow_pos b)
end Nt
set_option maxRecDepth 100000 in
set_option maxHeartbeats 2000000 in
theorem chunk_any (A : Option Addr) (n c : Nat) (l : List Int) (at0 b : Nat) (w : World) (hu : U w A n c l) (hd : Nt.Dig 18446744073709551616 l) (hn : n ≤ 1000000) (hb : b ≤ 30) (hat : at0 ≤ 100000000) :
    Calls Try.prog 40 #[.slice A n c, .int .i64 at0, .int .i64 b] w fun e w' => e = .returned (.int .i64 (chkN (Nt.val 18446744073709551616 l) at0 b)) ∧ w = w' := by
  have HU := Lib.hid hu
  have HD := Lib.hid hd
  have HLEN := Lib.hid hu.1
  obtain ⟨N, hN⟩ : ∃ N, N = Nt.val 18446744073709551616 l := ⟨_, rfl⟩
  rw [← hN]
  have HN := Lib.hid hN
  clear hu hd hN
  go_enter Try.func40, Try.ntmps40
  go_wp2_with fail
  go_loop [7, 8] (fun nv iv => ∃ i : Nat, i ≤ b ∧ iv = .int .i64 i ∧ nv = .int .i64 (chkN N at0 i)) (fun _ iv => b - (intOf iv).toNat)
  case atStart => exact ⟨0, Nat.zero_le _, rfl, by unfold chkN; simp [Nat.mod_one]⟩
  case round =>
    obtain ⟨i, hi, rfl, rfl⟩ := hrel
    obtain ⟨V, hV⟩ : ∃ V, V = chkN N at0 i := ⟨_, rfl⟩
    rw [← hV]
    have HV := Lib.hid hV
    have hVb : V < 1073741824 := by
      rw [hV]
      have h1 := Nt.chk_lt N at0 i
      have h2 : (2 : Nat) ^ i ≤ 2 ^ 30 := Nat.pow_le_pow_right (by decide) (by omega)
      have h3 : (2 : Nat) ^ 30 = 1073741824 := by decide
      omega
    clear hV
    by_cases hlt : i < b
    · have HS := Lib.hid (Nt.chk_succ N at0 i)
      obtain ⟨P, hP⟩ : ∃ P, P = at0 + i := ⟨_, rfl⟩
      rw [← hP] at HS
      have hadd : (at0 : Int) + (i : Int) = (P : Int) := by omega
      obtain ⟨W1, hW1⟩ : ∃ W1, W1 = P / 64 := ⟨_, rfl⟩
      obtain ⟨S, hSS⟩ : ∃ S, S = P % 64 := ⟨_, rfl⟩
      have hPS : P = 64 * W1 + S := by omega
      have hS64 : S < 64 := by omega
      have hdiv : (P : Int) / 64 = (W1 : Int) := by omega
      have hmod : (P : Int) % 64 = (S : Int) := by omega
      by_cases hwn : W1 < n
      · obtain ⟨x, hx⟩ : ∃ x, l[W1]? = some x := ⟨_, List.getElem?_eq_getElem (by have := HLEN.out; omega)⟩
        obtain ⟨ad, rfl, _, hc⟩ := HU.out.2.2.2 W1 x hx
        have hxd := HD.out x (List.mem_of_getElem? hx)
        obtain ⟨d0, hd0⟩ : ∃ d0 : Nat, d0 = x.toNat / 2 ^ S := ⟨_, rfl⟩
        have hsh : x / 2 ^ S = (d0 : Int) := by
          obtain ⟨xn, rfl⟩ : ∃ xn : Nat, x = xn := ⟨x.toNat, by omega⟩
          rw [hd0]; simp
        have hbit := Nt.chk_one l HD.out W1 S 1 x hx hS64 (.inl (by omega))
        rw [← hPS, ← HN.out, ← hd0, Nat.pow_one] at hbit
        have hcw : IntKind.u64.wrap (S : Int) = (S : Int) := by rw [IntKind.wrap_u64]; omega
        have hcw2 : IntKind.u64.wrap (i : Int) = (i : Int) := by rw [IntKind.wrap_u64]; omega
        rw [hbit] at HS
        by_cases hone : d0 % 2 = 1
        · have hb1 : ((d0 : Int) % 2 == 1) = true := by simp; omega
          have hm1 : (d0 : Int) % 2 = 1 := by omega
          obtain ⟨pw, hpw⟩ : ∃ pw : Nat, pw = 2 ^ i := ⟨_, rfl⟩
          have hpwb : pw ≤ 536870912 := by
            rw [hpw]
            have h2 : (2 : Nat) ^ i ≤ 2 ^ 29 := Nat.pow_le_pow_right (by decide) (by omega)
            have h3 : (2 : Nat) ^ 29 = 536870912 := by decide
            omega
          have hsl : IntKind.i64.wrap (2 ^ i) = (pw : Int) := by
            rw [show ((2 : Int) ^ i) = ((2 ^ i : Nat) : Int) by simp, ← hpw, IntKind.wrap_i64]; omega
          have HV2 : Hid (chkN N at0 (i + 1) = V + pw) := Lib.hid (by rw [HS.out, hone, Nat.mul_one, ← HV.out, hpw])
          have hsum : wrap64 ((V : Int) + (pw : Int)) = (V : Int) + (pw : Int) := by unfold wrap64; omega
          clear hP hW1 hSS hPS hxd hd0 hbit hx hone hpw hVb hpwb
          go_wp2_with fail
          go_round
          case rel => exact ⟨i + 1, hlt, by go_num, by rw [HV2.out, hsum]; simp⟩
          case measure => simp [intOf]; omega
        · have hb1 : ((d0 : Int) % 2 == 1) = false := by simp; omega
          have hm1 : (d0 : Int) % 2 = 0 := by omega
          have HV2 : Hid (chkN N at0 (i + 1) = V) := Lib.hid (by rw [HS.out, show d0 % 2 = 0 by omega, Nat.mul_zero, ← HV.out]; rfl)
          clear hP hW1 hSS hPS hxd hd0 hbit hx hone hVb
          go_wp2_with fail
          go_round
          case rel => exact ⟨i + 1, hlt, by go_num, by rw [HV2.out]⟩
          case measure => simp [intOf]; omega
      · have hz := Nt.chk_high l HD.out P 1 (by have := HLEN.out; omega)
        rw [← HN.out] at hz
        have HV2 : Hid (chkN N at0 (i + 1) = V) := Lib.hid (by rw [HS.out, hz, Nat.mul_zero, ← HV.out]; rfl)
        have hge : decide (W1 < n) = false := decide_eq_false hwn
        clear hP hW1 hSS hPS hz hVb
        go_wp2_with fail
        go_round
        case rel => exact ⟨i + 1, hlt, by go_num, by rw [HV2.out]⟩
        case measure => simp [intOf]; omega
    · obtain rfl : i = b := by omega
      go_wp2
      go_ret
      rw [← HV.out]
      exact ⟨rfl, rfl⟩
end Go.Proofs.Ytclnmheplecknaa

/-
  Walk: cut's Whole.
  The walks of the small float functions of edge, of its reference and of rosettekit: which floats are finite, the next float, the same floats.
  Walk: cut's spread.
  Walks: cut's trim, spread. Words: a slice of int64 that is only read; a row of the call's own with room behind.
-/
import Derived.Test.YtclnmheplecknaaW4
import Derived.Deep.CutBlock
import Derived.Deep.DeepCutAuto
set_option linter.unusedVariables false
set_option linter.unusedSimpArgs false
namespace Go.Proofs.Ytclnmheplecknaa
open Go.RowKit
/-- A slice whose cells are these int64, below the heap's end. -/
def UL (w : World) (A : Option Addr) (n c : Nat) (l : List Int) : Prop :=
  l.length = n ∧ n ≤ c ∧ (A = none → c = 0) ∧ ∀ k x, l[k]? = some x → ∃ ad, A = some ad ∧ ad.block < w.heap.size ∧ w.cell? (ad.add k) = some (.int .i64 x)
theorem UL.below {w w' : World} {A : Option Addr} {n c : Nat} {l : List Int} (h : UL w A n c l) (hb : Below w.heap.size w w') : UL w' A n c l := by
  obtain ⟨h1, h2, h3, h4⟩ := h
  refine ⟨h1, h2, h3, fun k x hk => ?_⟩
  obtain ⟨ad, e, hlt, hc⟩ := h4 k x hk
  exact ⟨ad, e, Nat.lt_of_lt_of_le hlt hb.size, (hb.cell (by rw [add_block]; exact hlt)).trans hc⟩
/-- int64 numbers. -/
def L64 (l : List Int) : Prop := ∀ x, x ∈ l → -9223372036854775808 ≤ x ∧ x ≤ 9223372036854775807
/-- A row with room behind it. -/
def RowC (w : World) (base g n c : Nat) (o : List Int) : Prop := w.ownsRow base 55 1 (.slice (some ⟨g, 0, none⟩) n c) n (o.map (Value.int .u64))
theorem RowC.of {w : World} {base g n : Nat} {o : List Int} (h : Row w base g n o) : RowC w base g n n o := h
theorem RowC.len {w : World} {base g n c : Nat} {o : List Int} (h : RowC w base g n c o) : o.length = n := by have := h.1; simpa using this
theorem RowC.room {w : World} {base g n c : Nat} {o : List Int} (h : RowC w base g n c o) : n ≤ c := by
  rcases h.2 with ⟨h', _⟩ | ⟨g', cap', cur, h', _, hg, hn, _⟩
  · simp at h'
  · injection h' with _ _ e; omega
theorem RowC.cell {w : World} {base g n c : Nat} {o : List Int} (h : RowC w base g n c o) (j : Nat) (u : Int) (hj : o[j]? = some u) : w.cell? ⟨g, j, none⟩ = some (.int .u64 u) := by
  have hl : j < n := by rw [← h.len]; exact (List.getElem?_eq_some_iff.1 hj).1
  rw [World.ownsRow.cellAt h j (by omega), List.getElem?_map, hj]; rfl
theorem RowC.free {w : World} {base g n c : Nat} {o : List Int} (h : RowC w base g n c o) (j : Nat) : w.frozen? ⟨g, j, none⟩ = false := World.ownsRow.frozenAt h j
theorem RowC.set {w : World} {base g n c : Nat} {o : List Int} (h : RowC w base g n c o) (j : Nat) (v : Int) : RowC (w.setCell ⟨g, j, none⟩ (.int .u64 v)) base g n c (o.set j v) := by
  have := (World.ownsRow.stored h j (.int .u64 v)).1
  rw [← List.map_set] at this
  exact this
theorem RowC.lt {w : World} {base g n c : Nat} {o : List Int} (h : RowC w base g n c o) : base ≤ g ∧ g < w.heap.size := World.ownsRow.lt h g rfl
theorem RowC.cut {w : World} {base g n c : Nat} {o : List Int} (h : RowC w base g n c o) (k : Nat) (hk : k ≤ n) : RowC w base g k c (o.take k) := by
  have hl := h.len
  refine ⟨by simp; omega, .inr ?_⟩
  rcases h.2 with ⟨h', _⟩ | ⟨g', cap', cur, h', hb, hg, hn, hm, hs, ht⟩
  · simp at h'
  · injection h' with e1 e2 e3
    injection e1 with e1
    injection e1 with e1
    subst e1
    subst e3
    refine ⟨g, c, cur, rfl, hb, hg, by omega, hm, hs, ?_⟩
    rw [List.map_take, ← ht, List.take_take]
    congr 1
    omega
theorem RowC.u {w : World} {base g n c : Nat} {o : List Int} (h : RowC w base g n c o) : U w (some ⟨g, 0, none⟩) n c o :=
  ⟨h.len, h.room, (fun e => by cases e), fun k x hk => ⟨_, rfl, h.lt.2, World.ownsRow.cells h rfl k _ (by rw [List.getElem?_map, hk]; rfl)⟩⟩
/-- Digits whose canonical ones are ahead. -/
theorem take_dg (o : List Int) (hd : Nt.Dig 18446744073709551616 o) : o.take (Nt.dg 18446744073709551616 (Nt.val 18446744073709551616 o)).length = Nt.dg 18446744073709551616 (Nt.val 18446744073709551616 o) ∧ (Nt.dg 18446744073709551616 (Nt.val 18446744073709551616 o)).length ≤ o.length := by
  have main : ∀ n : Nat, ∀ k, k ≤ o.length → o.length - k = n → True := fun _ _ _ _ => trivial
  have key : ∀ k : Nat, k ≤ o.length → (∀ x, x ∈ o.drop k → x = 0) → ∃ j, j ≤ k ∧ (∀ x, x ∈ o.drop j → x = 0) ∧ (j = 0 ∨ ∃ x, o[j - 1]? = some x ∧ x ≠ 0) := by
    intro k
    induction k with
    | zero => intro _ hz; exact ⟨0, Nat.le_refl _, hz, .inl rfl⟩
    | succ k ih =>
      intro hk hz
      obtain ⟨x, hx⟩ : ∃ x, o[k]? = some x := ⟨_, List.getElem?_eq_getElem (by omega)⟩
      by_cases h0 : x = 0
      · subst h0
        obtain ⟨j, h1, h2, h3⟩ := ih (by omega) (drop_zero o k hx hz)
        exact ⟨j, by omega, h2, h3⟩
      · exact ⟨k + 1, Nat.le_refl _, hz, .inr ⟨x, by simpa using hx, h0⟩⟩
  obtain ⟨j, h1, h2, h3⟩ := key o.length (Nat.le_refl _) (fun x hx => by rw [List.drop_length] at hx; cases hx)
  have h4 := trimmed o j hd h2 h3 h1
  rw [← h4]
  have h5 : (o.take j).length = j := by rw [List.length_take, Nat.min_eq_left h1]
  rw [h5]
  exact ⟨rfl, h1⟩
def lenV : Value → Nat
  | .slice _ n _ => n
  | _ => 0
theorem ctrim_any (base g n c : Nat) (o : List Int) (w : World) (hr : RowC w base g n c o) (hn : n ≤ 1000000000) (hd : Nt.Dig 18446744073709551616 o) :
    Calls Try.prog 43 #[.slice (some ⟨g, 0, none⟩) n c] w fun e w' => e = .returned (.slice (some ⟨g, 0, none⟩) (Nt.dg 18446744073709551616 (Nt.val 18446744073709551616 o)).length c) ∧ RowC w base g (Nt.dg 18446744073709551616 (Nt.val 18446744073709551616 o)).length c (Nt.dg 18446744073709551616 (Nt.val 18446744073709551616 o)) ∧ w = w' := by
  have hl := hr.len
  have hroom := hr.room
  obtain ⟨t1, t2⟩ := take_dg o hd
  have HOUT : Hid (RowC w base g (Nt.dg 18446744073709551616 (Nt.val 18446744073709551616 o)).length c (Nt.dg 18446744073709551616 (Nt.val 18446744073709551616 o))) := Lib.hid (by have := hr.cut _ (by rw [← hl]; exact t2); rw [t1] at this; exact this)
  have HD := Lib.hid hd
  have HK : Hid (∀ k : Nat, k ≤ n → (∀ x, x ∈ o.drop k → x = 0) → (k = 0 ∨ ∃ x, o[k - 1]? = some x ∧ x ≠ 0) → (Nt.dg 18446744073709551616 (Nt.val 18446744073709551616 o)).length = k) := Lib.hid (fun k hk hz ht => by
    rw [← trimmed o k HD.out hz ht (by omega), List.length_take, Nat.min_eq_left (by omega)])
  have HR := Lib.hid hr
  have HL := Lib.hid hl
  clear hr hd t1 t2 hl
  generalize (Nt.dg 18446744073709551616 (Nt.val 18446744073709551616 o)).length = T at *
  go_enter Try.func43, Try.ntmps43
  go_wp2_with fail
  go_loop [0] (fun v => ∃ k : Nat, k ≤ n ∧ v = .slice (some ⟨g, 0, none⟩) k c ∧ Hid (∀ x, x ∈ o.drop k → x = 0)) (fun v => lenV v)
  case atStart => exact ⟨n, Nat.le_refl _, rfl, Lib.hid (fun x hx => by rw [← HL.out, List.drop_length] at hx; cases hx)⟩
  case round =>
    obtain ⟨k, hk, rfl, HZ⟩ := hrel
    rcases k with _ | k
    · have HT : Hid (T = 0) := Lib.hid (HK.out 0 hk HZ.out (.inl rfl))
      go_wp2
      go_ret
      rw [HT.out]
      exact ⟨rfl, by rw [← HT.out]; exact HOUT.out, rfl⟩
    · obtain ⟨x, hx⟩ : ∃ x, o[k]? = some x := ⟨_, List.getElem?_eq_getElem (by have := HL.out; omega)⟩
      have hc := HR.out.cell k x hx
      by_cases h0 : x = 0
      · subst h0
        have HZ2 := Lib.hid (drop_zero o k hx HZ.out)
        clear hx
        go_wp2_with fail
        go_round
        case rel => exact ⟨k, by omega, rfl, HZ2⟩
        case measure => simp [lenV]
      · have HT : Hid (T = k + 1) := Lib.hid (HK.out (k + 1) hk HZ.out (.inr ⟨x, by simpa using hx, h0⟩))
        have hx0 : (x == 0) = false := by simpa using h0
        clear hx
        go_wp2
        go_ret
        rw [HT.out]
        exact ⟨rfl, by rw [← HT.out]; exact HOUT.out, rfl⟩
end Go.Proofs.Ytclnmheplecknaa

namespace Go.Proofs.Ytclnmheplecknaa
open Go.RowKit
namespace Nt
/-- Digits of any size put together: the first one is the lowest. -/
def sumP (P : Nat) (f : Int → Nat) : List Int → Nat
  | [] => 0
  | d :: l => f d + P * sumP P f l
theorem sumP_snoc (P : Nat) (f : Int → Nat) (x : Int) : ∀ l : List Int, sumP P f (l ++ [x]) = sumP P f l + P ^ l.length * f x
  | [] => by simp [sumP]
  | d :: l => by
    simp only [List.cons_append, sumP, sumP_snoc P f x l, List.length_cons, Nat.pow_succ]
    rw [Nat.mul_add, ← Nat.mul_assoc, Nat.mul_comm P (P ^ l.length)]
    omega
theorem sumP_take (P : Nat) (f : Int → Nat) (l : List Int) (i : Nat) (x : Int) (h : l[i]? = some x) : sumP P f (l.take (i + 1)) = sumP P f (l.take i) + P ^ i * f x := by
  have hi := (List.getElem?_eq_some_iff.1 h).1
  rw [List.take_add_one, h]
  simp only [Option.toList_some]
  rw [sumP_snoc, List.length_take, Nat.min_eq_left (by omega)]
theorem sumP_le (P M : Nat) (hP : 2 ≤ P) (f : Int → Nat) : ∀ l : List Int, (∀ x, x ∈ l → f x ≤ M) → sumP P f l + M ≤ M * P ^ l.length
  | [], _ => by simp [sumP]
  | d :: l, h => by
    have h1 := sumP_le P M hP f l (fun y hy => h y (List.mem_cons_of_mem _ hy))
    have h2 := h d (List.mem_cons_self ..)
    simp only [sumP, List.length_cons, Nat.pow_succ]
    have h3 := Nat.mul_le_mul_left P h1
    rw [Nat.mul_add] at h3
    have h4 : 2 * M ≤ P * M := Nat.mul_le_mul_right M hP
    have h5 : P * (M * P ^ l.length) = M * (P ^ l.length * P) := by
      rw [← Nat.mul_assoc, Nat.mul_comm P M, Nat.mul_assoc, Nat.mul_comm P]
    rw [h5] at h3
    omega
/-- What of a digit counts. -/
def pos (below : Bool) (d : Int) : Nat := if below then (-d).toNat else d.toNat
theorem pos_le (below : Bool) (d : Int) (h : -9223372036854775808 ≤ d ∧ d ≤ 9223372036854775807) : pos below d ≤ 9223372036854775808 := by
  unfold pos; split <;> omega
/-- A number at a place, over two limbs. -/
theorem two_limbs (N s W : Nat) (hs : s < 64) (hN : N < 18446744073709551616) : 2 ^ (64 * W + s) * N = 18446744073709551616 ^ W * (N * 2 ^ s % 18446744073709551616) + 18446744073709551616 ^ (W + 1) * (N / 2 ^ (64 - s)) := by
  obtain ⟨B, hB⟩ : ∃ B : Nat, B = 18446744073709551616 := ⟨_, rfl⟩
  rw [← hB]
  have eB : B = 2 ^ 64 := by rw [hB]
  have e2 : B = 2 ^ (64 - s) * 2 ^ s := by rw [eB, ← Nat.pow_add, Nat.sub_add_cancel (by omega)]
  have e3 : N / 2 ^ (64 - s) = N * 2 ^ s / B := by rw [e2, Nat.mul_div_mul_right _ _ (Nat.two_pow_pos s)]
  have e4 : 2 ^ (64 * W + s) = B ^ W * 2 ^ s := by rw [eB, ← Nat.pow_mul, ← Nat.pow_add]
  rw [e4, e3, Nat.pow_succ, Nat.mul_assoc, Nat.mul_assoc, ← Nat.mul_add, Nat.mul_comm (2 ^ s) N]
  congr 1
  exact (Nat.mod_add_div (N * 2 ^ s) B).symm
theorem spread_room (P Q b i len n : Nat) (f : Int → Nat) (l : List Int) (hl : l.length = len) (hf : ∀ x, x ∈ l → f x ≤ 9223372036854775808) (hb : 1 ≤ b) (hn : 64 * n ≥ len * b + 64) (hi : i ≤ len) : sumP (2 ^ b) f (l.take i) < 18446744073709551616 ^ n := by
  have h1 := sumP_le (2 ^ b) 9223372036854775808 (by have := Nat.pow_le_pow_right (show 1 ≤ 2 by decide) hb; simpa using this) f (l.take i) (fun x hx => hf x (List.mem_of_mem_take hx))
  rw [List.length_take, Nat.min_eq_left (by omega), ← Nat.pow_mul] at h1
  have h2 : (2 : Nat) ^ (b * i) ≤ 2 ^ (b * len) := Nat.pow_le_pow_right (by decide) (Nat.mul_le_mul_left b hi)
  have h3 : 9223372036854775808 * 2 ^ (b * i) ≤ 2 ^ 63 * 2 ^ (b * len) := Nat.mul_le_mul (by decide) h2
  rw [← Nat.pow_add] at h3
  have h4 : (2 : Nat) ^ (63 + b * len) ≤ 18446744073709551616 ^ n := by
    rw [show (18446744073709551616 : Nat) = 2 ^ 64 by decide, ← Nat.pow_mul]
    exact Nat.pow_le_pow_right (by decide) (by rw [Nat.mul_comm b len]; omega)
  omega
end Nt
/-- What spread tells: limbs of the call's own. -/
def SpreadPost (n V : Nat) (w : World) (e : Ending) (w' : World) : Prop := ∃ o, e = .returned (.slice (some ⟨w.heap.size, 0, none⟩) n n) ∧ Row w' w.heap.size w.heap.size n o ∧ Nt.Dig 18446744073709551616 o ∧ Nt.val 18446744073709551616 o = V ∧ Below w.heap.size w w'
set_option maxRecDepth 400000 in
set_option maxHeartbeats 4000000 in
theorem spread_any (A : Option Addr) (len c b : Nat) (l : List Int) (below : Bool) (w : World) (hu : UL w A len c l) (hl : L64 l) (hlen : len ≤ 1000000) (hb1 : 2 ≤ b) (hb2 : b ≤ 30) :
    Calls Try.prog 44 #[.slice A len c, .int .i64 b, .bool below] w (SpreadPost ((len * b + 63) / 64 + 2) (Nt.sumP (2 ^ b) (Nt.pos below) l) w) := by
  obtain ⟨i0, hi0, hz0, hz1, hz2⟩ := info_parts u64_info
  have HU := Lib.hid hu
  have HL := Lib.hid hl
  have HLEN := Lib.hid hu.1
  obtain ⟨Q, hQ⟩ : ∃ Q, Q = len * b := ⟨_, rfl⟩
  have hQb : Q ≤ 30000000 := by rw [hQ]; have := Nat.mul_le_mul hlen hb2; omega
  have HQ := Lib.hid hQ
  have hm0 : IntKind.i64.wrap ((len : Int) * (b : Int)) = (Q : Int) := by rw [← Int.natCast_mul, ← hQ, IntKind.wrap_i64]; omega
  rw [← hQ]
  obtain ⟨n, hn⟩ : ∃ n, n = (Q + 63) / 64 + 2 := ⟨_, rfl⟩
  have hnb : n ≤ 500000 ∧ Q + 64 ≤ 64 * n := by omega
  rw [← hn]
  have hm1 : ((Q : Int) + 63) / 64 + 2 = (n : Int) := by omega
  clear hu hl hQ hn
  go_enter Try.func44, Try.ntmps44
  go_wp2_with (refine wpList_make_full _ rfl (.tmp 19) (.tmp 19) 22 rfl w.heap.size 55 i0 _ 1 Try.underlying22 hi0 hz0 hz1 .i64 .i64 _ _ n rfl rfl rfl rfl (by rw [hz2]; omega) (by simp only [maxLen]; omega) (Nat.le_refl _) ?_; intro w1 hown1 hg1)
  have ROW := Lib.hid (Row.made hown1)
  have HB := Lib.hid ((Below.refl w.heap.size w).grown hg1 (Nat.le_refl _) (fun k hk => by cases hk))
  clear hown1 hg1
  go_wp2_with fail
  go_loopw [23] (fun t wr => ∃ (i : Nat) (o : List Int), t = .int .i64 i ∧ i ≤ len ∧ Row wr w.heap.size w.heap.size n o ∧ Hid (Nt.Dig 18446744073709551616 o) ∧ Hid (Nt.val 18446744073709551616 o = Nt.sumP (2 ^ b) (Nt.pos below) (l.take i)) ∧ Below w.heap.size w wr) (fun t _ => len - (intOf t).toNat)
  case atStart => exact ⟨0, List.replicate n 0, rfl, Nat.zero_le _, ROW.out, Lib.hid (fun z hz => by rw [(List.mem_replicate.1 hz).2]; decide), Lib.hid (by rw [Nt.val_zeros _ _ (fun z hz => (List.mem_replicate.1 hz).2)]; rfl), HB.out⟩
  case round =>
    clear ROW HB
    obtain ⟨i, o, rfl, hi, hrow, HD, HV, hb⟩ := hrel
    have HR := Lib.hid hrow
    have HB := Lib.hid hb
    clear hrow hb
    by_cases hlt : i < len
    · obtain ⟨d, hd⟩ : ∃ d, l[i]? = some d := ⟨_, List.getElem?_eq_getElem (by have := HLEN.out; omega)⟩
      obtain ⟨ad, rfl, _, hc⟩ := (HU.out.below HB.out).2.2.2 i d hd
      have hdl := HL.out d (List.mem_of_getElem? hd)
      have HS : Hid (Nt.sumP (2 ^ b) (Nt.pos below) (l.take (i + 1)) = Nt.sumP (2 ^ b) (Nt.pos below) (l.take i) + (2 ^ b) ^ i * Nt.pos below d) := Lib.hid (Nt.sumP_take _ _ _ _ _ hd)
      have HROOM : Hid (Nt.sumP (2 ^ b) (Nt.pos below) (l.take (i + 1)) < 18446744073709551616 ^ n) := Lib.hid (Nt.spread_room (2 ^ b) Q b (i + 1) len n (Nt.pos below) l HLEN.out (fun x hx => Nt.pos_le below x (HL.out x hx)) (by omega) (by rw [← HQ.out]; omega) hlt)
      obtain ⟨N, hN⟩ : ∃ N, N = Nt.pos below d := ⟨_, rfl⟩
      rw [← hN] at HS
      by_cases hz : N = 0
      · have HN : Hid (Nt.val 18446744073709551616 o = Nt.sumP (2 ^ b) (Nt.pos below) (l.take (i + 1))) := Lib.hid (by rw [HS.out, hz, Nat.mul_zero, Nat.add_zero]; exact HV.out)
        subst hz
        unfold Nt.pos at hN
        cases below
        · have hd0 : d ≤ 0 := by simp at hN; omega
          clear hN hd hdl HROOM HS
          by_cases hz0 : d = 0
          · subst hz0
            go_wp2_with fail
            refine ⟨⟨i + 1, o, by go_num, hlt, HR.out, HD, HN, HB.out⟩, by simp [intOf]; omega⟩
          · have hdn : d < 0 := by omega
            clear hd0 hz0
            go_wp2_with fail
            refine ⟨⟨i + 1, o, by go_num, hlt, HR.out, HD, HN, HB.out⟩, by simp [intOf]; omega⟩
        · have hd0 : 0 ≤ d := by simp at hN; omega
          have hd1 : ¬ d < 0 := by omega
          clear hN hd hdl HROOM HS
          by_cases hz0 : d = 0
          · subst hz0
            go_wp2_with fail
            refine ⟨⟨i + 1, o, by go_num, hlt, HR.out, HD, HN, HB.out⟩, by simp [intOf]; omega⟩
          · have hdn : 0 < d := by omega
            clear hd0 hz0
            go_wp2_with fail
            refine ⟨⟨i + 1, o, by go_num, hlt, HR.out, HD, HN, HB.out⟩, by simp [intOf]; omega⟩
      · obtain ⟨P, hP⟩ : ∃ P, P = i * b := ⟨_, rfl⟩
        have hPQ : P ≤ Q := by rw [hP, HQ.out]; exact Nat.mul_le_mul_right b hi
        obtain ⟨W, hW⟩ : ∃ W, W = P / 64 := ⟨_, rfl⟩
        obtain ⟨S, hSS⟩ : ∃ S, S = P % 64 := ⟨_, rfl⟩
        have hmul : IntKind.i64.wrap ((i : Int) * (b : Int)) = (P : Int) := by rw [← Int.natCast_mul, ← hP, IntKind.wrap_i64]; omega
        have hdiv : (P : Int) / 64 = (W : Int) := by omega
        have hmod : (P : Int) % 64 = (S : Int) := by omega
        have hWn : W + 1 < n := by omega
        have hS64 : S < 64 := by omega
        have hNb : N ≤ 9223372036854775808 := by rw [hN]; exact Nt.pos_le below d hdl
        have hsplit := Nt.two_limbs N S W hS64 (by omega)
        have hpl : 2 ^ (64 * W + S) = (2 ^ b) ^ i := by rw [← Nat.pow_mul]; congr 1; rw [Nat.mul_comm b i, ← hP]; omega
        rw [hpl] at hsplit
        obtain ⟨lo, hlo⟩ : ∃ lo, lo = N * 2 ^ S % 18446744073709551616 := ⟨_, rfl⟩
        obtain ⟨hi2, hhi⟩ : ∃ hi2, hi2 = N / 2 ^ (64 - S) := ⟨_, rfl⟩
        rw [← hlo, ← hhi] at hsplit
        have HLO : Hid (lo < 18446744073709551616) := Lib.hid (by rw [hlo]; exact Nat.mod_lt _ (by decide))
        have HHI : Hid (hi2 < 18446744073709551616) := Lib.hid (by rw [hhi]; exact Nat.lt_of_le_of_lt (Nat.div_le_self _ _) (by omega))
        have hs1 : IntKind.u64.wrap ((N : Int) * 2 ^ S) = (lo : Int) := by
          rw [hlo, IntKind.wrap_u64]; simp
        have hs2 : (N : Int) / 2 ^ (64 - S) = (hi2 : Int) := by rw [hhi]; simp
        obtain ⟨dv, hdv⟩ : ∃ dv : Int, dv = IntKind.u64.wrap d := ⟨_, rfl⟩
        obtain ⟨V1, hV1⟩ : ∃ V1, V1 = Nt.val 18446744073709551616 o + 18446744073709551616 ^ W * lo := ⟨_, rfl⟩
        have HV2 : Hid (V1 + 18446744073709551616 ^ (W + 1) * hi2 = Nt.sumP (2 ^ b) (Nt.pos below) (l.take (i + 1))) := Lib.hid (by rw [hV1, HV.out, HS.out, hsplit]; omega)
        have HV1 : Hid (V1 < 18446744073709551616 ^ n) := Lib.hid (by have h1 := HV2.out; have h2 := HROOM.out; omega)
        have HC1 : Hid (∀ wr, Row wr w.heap.size w.heap.size n o → Calls Try.prog 69 #[.slice (some ⟨w.heap.size, 0, none⟩) n n, .int .i64 (W : Int), .int .u64 (lo : Int)] wr (CarryPost w.heap.size w.heap.size n V1 wr)) := Lib.hid (fun wr hr => carry_any w.heap.size w.heap.size n W o lo V1 wr hr HD.out HLO.out (by omega) (by omega) hV1.symm HV1.out)
        obtain ⟨W2, hW2⟩ : ∃ W2, W2 = W + 1 := ⟨_, rfl⟩
        have HC2 : Hid (∀ o1 wr, Row wr w.heap.size w.heap.size n o1 → Nt.Dig 18446744073709551616 o1 → Nt.val 18446744073709551616 o1 = V1 → Calls Try.prog 69 #[.slice (some ⟨w.heap.size, 0, none⟩) n n, .int .i64 (W2 : Int), .int .u64 (hi2 : Int)] wr (CarryPost w.heap.size w.heap.size n (Nt.sumP (2 ^ b) (Nt.pos below) (l.take (i + 1))) wr)) := Lib.hid (fun o1 wr hr hd1 hv1 => carry_any w.heap.size w.heap.size n W2 o1 hi2 _ wr hr hd1 HHI.out (by omega) (by omega) (by rw [hv1, hW2]; exact HV2.out) HROOM.out)
        have HZ0 : Hid (S = 0 → hi2 = 0) := Lib.hid (fun h => by rw [hhi, h]; exact Nat.div_eq_of_lt (by omega))
        have hside : (below = false ∧ 0 < d ∧ IntKind.u64.wrap d = (N : Int)) ∨ (below = true ∧ d < 0 ∧ IntKind.u64.wrap (-dv) = (N : Int)) := by
          unfold Nt.pos at hN
          cases below
          · left; simp at hN; rw [IntKind.wrap_u64]; exact ⟨rfl, by omega, by omega⟩
          · right; simp at hN; rw [hdv, IntKind.wrap_u64, IntKind.wrap_u64]; exact ⟨rfl, by omega, by omega⟩
        have hdv2 := hdv.symm
        have hW1 : (W : Int) + 1 = (W2 : Int) := by omega
        have HV0 : Hid (S = 0 → V1 = Nt.sumP (2 ^ b) (Nt.pos below) (l.take (i + 1))) := Lib.hid (fun h => by have h1 := HV2.out; rw [HZ0.out h, Nat.mul_zero] at h1; omega)
        clear hW2
        clear hN hd hdl HROOM HS hz hsplit hpl hlo hhi hdv hV1 hP hW hSS
        rcases hside with ⟨rfl, hpos, hw1⟩ | ⟨rfl, hneg, hw1⟩
        · have hz1 : (d == 0) = false := by simp; omega
          have hz2 : decide (d < 0) = false := decide_eq_false (by omega)
          clear hdv2
          go_wp2_with fail
          refine (HC1.out _ HR.out).mono ?_
          rintro e w2 ⟨⟨v, rfl⟩, o1, hr1, hd1, hv1, hb1⟩
          have HR1 := Lib.hid hr1
          have HD1 := Lib.hid hd1
          have HV1' := Lib.hid hv1
          have HB1 := Lib.hid (HB.out.trans hb1)
          clear hr1 hd1 hv1 hb1
          by_cases hS0 : S = 0
          · subst hS0
            have HN : Hid (Nt.val 18446744073709551616 o1 = Nt.sumP (2 ^ b) (Nt.pos false) (l.take (i + 1))) := Lib.hid (by rw [HV1'.out]; exact HV0.out rfl)
            go_wp2_with fail
            refine ⟨⟨i + 1, o1, by go_num, hlt, HR1.out, HD1, HN, HB1.out⟩, by simp [intOf]; omega⟩
          · have hS1 : 0 < S := by omega
            clear hS0
            go_wp2_with fail
            refine (HC2.out o1 _ HR1.out HD1.out HV1'.out).mono ?_
            rintro e w3 ⟨⟨v, rfl⟩, o2, hr1, hd1, hv1, hb1⟩
            have HR2 := Lib.hid hr1
            have HD2 := Lib.hid hd1
            have HV2' := Lib.hid hv1
            have HB2 := Lib.hid (HB1.out.trans hb1)
            clear hr1 hd1 hv1 hb1
            go_wp2_with fail
            refine ⟨⟨i + 1, o2, by go_num, hlt, HR2.out, HD2, HV2', HB2.out⟩, by simp [intOf]; omega⟩
        · have hz1 : (d == 0) = false := by simp; omega
          have hz2 : decide (d < 0) = true := decide_eq_true (by omega)
          go_wp2_with fail
          refine (HC1.out _ HR.out).mono ?_
          rintro e w2 ⟨⟨v, rfl⟩, o1, hr1, hd1, hv1, hb1⟩
          have HR1 := Lib.hid hr1
          have HD1 := Lib.hid hd1
          have HV1' := Lib.hid hv1
          have HB1 := Lib.hid (HB.out.trans hb1)
          clear hr1 hd1 hv1 hb1
          by_cases hS0 : S = 0
          · subst hS0
            have HN : Hid (Nt.val 18446744073709551616 o1 = Nt.sumP (2 ^ b) (Nt.pos true) (l.take (i + 1))) := Lib.hid (by rw [HV1'.out]; exact HV0.out rfl)
            go_wp2_with fail
            refine ⟨⟨i + 1, o1, by go_num, hlt, HR1.out, HD1, HN, HB1.out⟩, by simp [intOf]; omega⟩
          · have hS1 : 0 < S := by omega
            clear hS0
            go_wp2_with fail
            refine (HC2.out o1 _ HR1.out HD1.out HV1'.out).mono ?_
            rintro e w3 ⟨⟨v, rfl⟩, o2, hr1, hd1, hv1, hb1⟩
            have HR2 := Lib.hid hr1
            have HD2 := Lib.hid hd1
            have HV2' := Lib.hid hv1
            have HB2 := Lib.hid (HB1.out.trans hb1)
            clear hr1 hd1 hv1 hb1
            go_wp2_with fail
            refine ⟨⟨i + 1, o2, by go_num, hlt, HR2.out, HD2, HV2', HB2.out⟩, by simp [intOf]; omega⟩
    · obtain rfl : i = len := by omega
      have HV2 : Hid (Nt.val 18446744073709551616 o = Nt.sumP (2 ^ b) (Nt.pos below) l) := Lib.hid (by rw [HV.out, List.take_of_length_le (by have := HLEN.out; omega)])
      go_wp2
      go_ret
      exact ⟨o, rfl, HR.out, HD.out, HV2.out, HB.out⟩
end Go.Proofs.Ytclnmheplecknaa

namespace Go.Proofs.Ytclnmheplecknaa
open Go.RowKit

/-- Only draws. -/
def Dr (w w' : World) : Prop := ∃ n, w' = w.drewN n
theorem Dr.refl (w : World) : Dr w w := ⟨0, rfl⟩
theorem Dr.drew (w : World) : Dr w w.drew := ⟨1, rfl⟩
theorem drewN_drewN (w : World) (n m : Nat) : (w.drewN n).drewN m = w.drewN (n + m) := by
  simp [World.drewN, Nat.add_assoc]
theorem Dr.trans {a b c : World} (h1 : Dr a b) (h2 : Dr b c) : Dr a c := by
  obtain ⟨n, rfl⟩ := h1; obtain ⟨m, rfl⟩ := h2; exact ⟨n + m, drewN_drewN _ _ _⟩

/-- The result is what the operation gave; the world has drawn at most. -/
def FlPost (o : Option Nat) (w : World) (e : Ending) (w' : World) : Prop := ∃ s, e = .returned (.float .f64 s) ∧ Fl.Is o s ∧ Dr w w'
def BPost (b : Bool) (w : World) (e : Ending) (w' : World) : Prop := e = .returned (.bool b) ∧ Dr w w'

/-- An operation on floats: its word, or a NaN that is drawn. -/
theorem run_float_any (op : BinOp) (t : TypeId) (x y : Nat) (w : World) (hop : op = .add ∨ op = .sub ∨ op = .mul ∨ op = .quo) :
    ∃ s w1, (binOp op t (.float .f64 x) (.float .f64 y)).run Try.prog w = .ok (.float .f64 s) w1 ∧ Fl.Is (floatBits op .f64 x y) s ∧ (w1 = w ∨ w1 = w.drew) := by
  cases h : floatBits op .f64 x y with
  | some r => exact ⟨r, w, run_float_arith w op t .f64 x y r h, rfl, .inl rfl⟩
  | none =>
    refine ⟨_, w.drew, ?_, Fl.nan_draw (w.tape w.drawn (.nanBits .f64 x y)), .inr rfl⟩
    rcases hop with rfl | rfl | rfl | rfl <;> (simp only [floatBits] at h; simp [binOp, Op.floatArith, h, Question.forced, Question.cut])

theorem fin_walk_yes (x : Nat) (hw : x < 2 * Fl.W) (h : Fl.rg x < Fl.I) (w : World) : (binOp .sub 71 (.float .f64 x) (.float .f64 x)).run Try.prog w = .ok (.float .f64 0) w :=
  run_float_arith w .sub _ .f64 x x 0 (Fl.sub_self_fin x hw h)

theorem finite_yes (x : Nat) (w : World) (hw : x < 2 * Fl.W) (h : Fl.rg x < Fl.I) : Calls Try.prog 117 #[.float .f64 x] w fun e w' => e = .returned (.bool true) ∧ w = w' := by
  have h1 := fin_walk_yes x hw h
  have h2 : FloatKind.f64.format.order 0 0 = some .eq := by decide
  go_enter Try.func117, Try.ntmps117
  go_wp2
  go_ret
  exact ⟨rfl, rfl⟩
theorem nan_order (s : Nat) (h : Fl.I < Fl.rg s) : FloatKind.f64.format.order s 0 = none := Fl.order_nan _ _ (.inl h)
theorem finite_no (x : Nat) (w : World) (h : ¬ Fl.rg x < Fl.I) : Calls Try.prog 117 #[.float .f64 x] w (BPost false w) := by
  obtain ⟨s, w1, hr, hs, hw1⟩ := run_float_any .sub 71 x x w (by simp)
  have hs1 : Fl.Is none s := by rw [← Fl.sub_self_not x h]; exact hs
  have ho := nan_order s hs1.1
  have HD : Hid (Dr w w1) := by rcases hw1 with rfl | rfl; exact Dr.refl _; exact Dr.drew _
  clear hs hs1 hw1 h
  go_enter Try.func117, Try.ntmps117
  go_wp2
  go_ret
  exact ⟨rfl, HD.out⟩
theorem finite_any (x : Nat) (w : World) (hw : x < 2 * Fl.W) : Calls Try.prog 117 #[.float .f64 x] w (BPost (Fl.fin x) w) := by
  by_cases h : Fl.rg x < Fl.I
  · rw [show Fl.fin x = true from decide_eq_true h]
    exact (finite_yes x w hw h).mono fun e w' ⟨h1, h2⟩ => ⟨h1, h2 ▸ Dr.refl w⟩
  · rw [show Fl.fin x = false from decide_eq_false h]
    exact finite_no x w h

/-- The float next to x. -/
def Fl.next (x : Nat) (up : Bool) : Nat :=
  if Fl.I < Fl.rg x then x
  else if Fl.rg x = Fl.I ∧ up = !Fl.sg x then x
  else if Fl.rg x = 0 then (if up then 1 else Fl.W + 1)
  else if up = !Fl.sg x then x + 1 else x - 1

end Go.Proofs.Ytclnmheplecknaa

namespace Go.Proofs.Ytclnmheplecknaa
open Go.RowKit
theorem cmay_any (b : Int) (w : World) : Calls Try.prog 35 #[.int .i64 b] w fun e w' => e = .returned (.bool (decide (2 ≤ b ∧ b ≤ 30))) ∧ w = w' := by
  obtain ⟨T, hT⟩ : ∃ T, T = decide (2 ≤ b ∧ b ≤ 30) := ⟨_, rfl⟩
  rw [← hT]
  have HT := Lib.hid hT
  clear hT
  by_cases h1 : 2 ≤ b
  · by_cases h2 : b ≤ 30
    · have HE : Hid (T = true) := Lib.hid (by rw [HT.out]; exact decide_eq_true ⟨h1, h2⟩)
      go_enter Try.func35, Try.ntmps35
      go_wp2
      go_ret
      exact ⟨by rw [HE.out]; rfl, rfl⟩
    · have HE : Hid (T = false) := Lib.hid (by rw [HT.out]; exact decide_eq_false (fun h => h2 h.2))
      go_enter Try.func35, Try.ntmps35
      go_wp2
      go_ret
      exact ⟨by rw [HE.out]; rfl, rfl⟩
  · have HE : Hid (T = false) := Lib.hid (by rw [HT.out]; exact decide_eq_false (fun h => h1 h.1))
    go_enter Try.func35, Try.ntmps35
    go_wp2
    go_ret
    exact ⟨by rw [HE.out]; rfl, rfl⟩
/-- A whole number by value: its sign, the canonical limbs of its size. -/
def IntV (w : World) (v : Value) (s : Bool) (N : Nat) : Prop := ∃ A c, v = .agg #[.bool s, .slice A (Nt.dg 18446744073709551616 N).length c] ∧ U w A (Nt.dg 18446744073709551616 N).length c (Nt.dg 18446744073709551616 N)
/-- The sum of digits. -/
def upN (b : Nat) (l : List Int) : Nat := Nt.sumP (2 ^ b) (Nt.pos false) l
def dnN (b : Nat) (l : List Int) : Nat := Nt.sumP (2 ^ b) (Nt.pos true) l
theorem Dr.below3 {w w' : World} (h : Dr w w') (B : Nat) : Below B w w' := by
  obtain ⟨n, rfl⟩ := h
  exact ⟨rfl, rfl, rfl, Nat.le_refl _, fun _ _ => rfl⟩
theorem RowC.below {w w' : World} {base g n c : Nat} {o : List Int} (h : RowC w base g n c o) (hb : Below w.heap.size w w') : RowC w' base g n c o := by
  obtain ⟨h1, h2⟩ := h
  refine ⟨h1, ?_⟩
  rcases h2 with h' | ⟨g', cap', cur, h', hb', hg, rest⟩
  · exact .inl h'
  · exact .inr ⟨g', cap', cur, h', hb', by rw [hb.block g' (Array.getElem?_eq_some_iff.1 hg).1]; exact hg, rest⟩
theorem RowC.base {w : World} {base base' g n c : Nat} {o : List Int} (h : RowC w base g n c o) (hb : base' ≤ g) : RowC w base' g n c o := by
  obtain ⟨h1, h2⟩ := h
  refine ⟨h1, ?_⟩
  rcases h2 with h' | ⟨g', cap', cur, h', hb', rest⟩
  · exact .inl h'
  · have e : g = g' := by injection h' with e1; injection e1 with e1; injection e1
    exact .inr ⟨g', cap', cur, h', by omega, rest⟩
theorem RowC.drewN {w : World} {base g n c : Nat} {o : List Int} (h : RowC w base g n c o) (m : Nat) : RowC (w.drewN m) base g n c o := h
/-- The two cells of a result that is not told yet. -/
def Cell2 (g : Nat) (w : World) : Prop := w.cell? ⟨g, 0, none⟩ = some (.bool false) ∧ w.cell? ⟨g, 1, none⟩ = some (.slice none 0 0) ∧ (∀ j, w.frozen? ⟨g, j, none⟩ = false) ∧ g < w.heap.size
theorem Cell2.below {g : Nat} {w w' : World} (h : Cell2 g w) (hb : Below w.heap.size w w') : Cell2 g w' :=
  ⟨(hb.cell (p := ⟨g, 0, none⟩) h.2.2.2).trans h.1, (hb.cell (p := ⟨g, 1, none⟩) h.2.2.2).trans h.2.1, fun j => (hb.frozen (p := ⟨g, j, none⟩) h.2.2.2).trans (h.2.2.1 j), Nat.lt_of_lt_of_le h.2.2.2 hb.size⟩
theorem Cell2.new (w : World) (t : TypeId) : Cell2 w.heap.size (w.alloc (.cells #[.bool false, .slice none 0 0] t)) := by
  refine ⟨by simp, by simp, fun j => by simp, by simp⟩
theorem int_store {w1 : World} {g : Nat} {b0 : Bool} {A0 : Option Addr} {n0 c0 : Nat} (h0 : w1.cell? ⟨g, 0, none⟩ = some (.bool b0)) (h1 : w1.cell? ⟨g, 1, none⟩ = some (.slice A0 n0 c0)) (v1 v2 : Value) :
    (∀ (A : Option Addr) (n c : Nat) (l : List Int), U w1 A n c l → U ((w1.setCell ⟨g, 0, none⟩ v1).setCell ⟨g, 1, none⟩ v2) A n c l) ∧ (∀ B (wb : World), B ≤ g → Below B wb w1 → Below B wb ((w1.setCell ⟨g, 0, none⟩ v1).setCell ⟨g, 1, none⟩ v2)) ∧
    ((w1.setCell ⟨g, 0, none⟩ v1).setCell ⟨g, 1, none⟩ v2).cell? ⟨g, 0, none⟩ = some v1 ∧ ((w1.setCell ⟨g, 0, none⟩ v1).setCell ⟨g, 1, none⟩ v2).cell? ⟨g, 1, none⟩ = some v2 := by
  have n01 : (⟨g, 0, none⟩ : Addr) ≠ ⟨g, 1, none⟩ := by simp
  have k1 : (w1.setCell ⟨g, 0, none⟩ v1).cell? ⟨g, 1, none⟩ = some (.slice A0 n0 c0) := (World.cell?_setCell_other _ _ _ _ n01).trans h1
  refine ⟨fun A n c l hu => (hu.store _ _ v1 h0 (fun x hx => by cases hx)).store _ _ v2 k1 (fun x hx => by cases hx), fun B wb hB hb => (hb.setCell (p := ⟨g, 0, none⟩) hB _).setCell (p := ⟨g, 1, none⟩) hB _, ?_, ?_⟩
  · rw [World.cell?_setCell_other _ _ _ _ n01.symm]; exact World.cell?_setCell_same _ _ _ h0
  · exact World.cell?_setCell_same _ _ _ k1
/-- The cells of a block are these limbs. -/
def CellsU (w : World) (g : Nat) (l : List Int) : Prop := ∀ j x, l[j]? = some x → w.cell? ⟨g, j, none⟩ = some (.int .u64 x)
theorem CellsU.of {w : World} {base g n c : Nat} {o : List Int} (h : RowC w base g n c o) : CellsU w g o := fun j x hj => h.cell j x hj
theorem CellsU.store {w : World} {g h j : Nat} {l : List Int} (hc : CellsU w h l) (hne : g ≠ h) (v : Value) : CellsU (w.setCell ⟨g, j, none⟩ v) h l := fun i x hx => by
  rw [setCell_block w g h j i v hne]; exact hc i x hx
theorem Cell2.store {g h : Nat} {w : World} {j : Nat} (hc : Cell2 h w) (hne : g ≠ h) (v : Value) : Cell2 h (w.setCell ⟨g, j, none⟩ v) :=
  ⟨by rw [setCell_block w g h j 0 v hne]; exact hc.1, by rw [setCell_block w g h j 1 v hne]; exact hc.2.1, fun i => by rw [World.frozen?_setCell]; exact hc.2.2.1 i, by rw [size_setCell]; exact hc.2.2.2⟩
namespace Nt
theorem take_set_succ (o : List Int) (i : Nat) (z : Int) (h : i < o.length) : (o.set i z).take (i + 1) = o.take i ++ [z] := by
  rw [List.take_add_one, List.getElem?_set_self (by simpa using h), List.take_set_of_le (Nat.le_refl i)]
  rfl
theorem drop_one (l : List Int) (i : Nat) : l.drop (i + 1) = (l.drop i).drop 1 := by rw [List.drop_drop]
theorem less_step (p r o : List Int) (i bw bw' : Nat) (u z : Int) (hu : p[i]? = some u) (ho : o.length = p.length) (hdp : Dig 18446744073709551616 p) (hdr : Dig 18446744073709551616 r) (hz : 0 ≤ z) (hstep : z + r[i]?.getD 0 + bw = u + 18446744073709551616 * bw')
    (hv : val 18446744073709551616 (o.take i) + val 18446744073709551616 (r.take i) = val 18446744073709551616 (p.take i) + 18446744073709551616 ^ i * bw) :
    val 18446744073709551616 ((o.set i z).take (i + 1)) + val 18446744073709551616 (r.take (i + 1)) = val 18446744073709551616 (p.take (i + 1)) + 18446744073709551616 ^ (i + 1) * bw' := by
  have hi : i < p.length := (List.getElem?_eq_some_iff.1 hu).1
  rw [take_set_succ o i z (by omega), val_snoc, val_take_succ _ r i hdr, val_take_succ _ p i hdp, hu, List.length_take, Nat.min_eq_left (by omega)]
  have hy := dig_get (by decide) hdr i
  have hu0 := (hdp u (List.mem_of_getElem? hu)).1
  simp only [Option.getD_some]
  have e : z.toNat + (r[i]?.getD 0).toNat + bw = u.toNat + 18446744073709551616 * bw' := by omega
  rw [Nat.pow_succ]
  generalize (r[i]?.getD 0).toNat = yy at *
  generalize z.toNat = zz at *
  generalize u.toNat = uu at *
  generalize (18446744073709551616 : Nat) ^ i = Q at *
  have e2 : Q * zz + Q * yy + Q * bw = Q * uu + Q * (18446744073709551616 * bw') := by rw [← Nat.mul_add, ← Nat.mul_add, e, Nat.mul_add]
  rw [Nat.mul_assoc]
  generalize Q * (18446744073709551616 * bw') = M at *
  omega
theorem less_end (P R bw n : Nat) (o : List Int) (hn : (dg 18446744073709551616 P).length = n) (hol : o.length = n) (hdo : Dig 18446744073709551616 o) (hRP : R ≤ P) (hbw : bw ≤ 1)
    (hv : val 18446744073709551616 (o.take n) + val 18446744073709551616 ((dg 18446744073709551616 R).take n) = val 18446744073709551616 ((dg 18446744073709551616 P).take n) + 18446744073709551616 ^ n * bw) :
    val 18446744073709551616 o = P - R := by
  have hR : (dg 18446744073709551616 R).length ≤ n := dg_len _ (by decide) n R (by
    have := val_lt_pow 18446744073709551616 (by decide) _ (dig_dg 18446744073709551616 (by decide) P)
    rw [val_dg _ (by decide), hn] at this; omega)
  rw [List.take_of_length_le (by omega), List.take_of_length_le hR, List.take_of_length_le (by omega), val_dg _ (by decide), val_dg _ (by decide)] at hv
  have h1 := val_lt_pow 18446744073709551616 (by decide) o hdo
  rw [hol] at h1
  rcases (by omega : bw = 0 ∨ bw = 1) with rfl | rfl
  · omega
  · rw [Nat.mul_one] at hv; omega
end Nt
/-- What Whole tells. -/
def WholePost (b : Nat) (l : List Int) (w : World) (e : Ending) (w' : World) : Prop :=
  ∃ v E, e = .returned (.tuple #[v, .int .i64 E]) ∧ Below w.heap.size w w' ∧
    ((E = 0 ∧ IntV w' v (decide (upN b l < dnN b l)) (max (upN b l) (dnN b l) - min (upN b l) (dnN b l)) ∧ (Nt.dg 18446744073709551616 (max (upN b l) (dnN b l) - min (upN b l) (dnN b l))).length ≤ 4096) ∨
     (E = 3 ∧ v = .agg #[.bool false, .slice none 0 0] ∧ 4096 < (Nt.dg 18446744073709551616 (max (upN b l) (dnN b l) - min (upN b l) (dnN b l))).length))
set_option maxRecDepth 400000 in
set_option maxHeartbeats 4000000 in
theorem cwhole_yes (A : Option Addr) (len c b : Nat) (l : List Int) (w : World) (hu : UL w A len c l) (hl : L64 l) (hlen : len ≤ 1000000) (hb1 : 2 ≤ b) (hb2 : b ≤ 30) :
    Calls Try.prog 18 #[.slice A len c, .int .i64 b] w (WholePost b l w) := by
  have HS1 := Lib.hid (fun w (h : UL w A len c l) => spread_any A len c b l false w h hl hlen hb1 hb2)
  have HS2 := Lib.hid (fun w (h : UL w A len c l) => spread_any A len c b l true w h hl hlen hb1 hb2)
  have HU := Lib.hid hu
  have hm := fun w => cmay_any (b : Int) w
  rw [decide_eq_true (by omega)] at hm
  have HM := Lib.hid hm
  have hn : (len * b + 63) / 64 + 2 ≤ 500000 := by have := Nat.mul_le_mul hlen hb2; omega
  obtain ⟨n, hn'⟩ : ∃ n, n = (len * b + 63) / 64 + 2 := ⟨_, rfl⟩
  rw [← hn'] at HS1 HS2 hn
  obtain ⟨X, hX⟩ : ∃ X, X = upN b l := ⟨_, rfl⟩
  obtain ⟨Y, hY⟩ : ∃ Y, Y = dnN b l := ⟨_, rfl⟩
  have HWP : Hid (WholePost b l w = fun e w' => ∃ v E, e = .returned (.tuple #[v, .int .i64 E]) ∧ Below w.heap.size w w' ∧
    ((E = 0 ∧ IntV w' v (decide (X < Y)) (max X Y - min X Y) ∧ (Nt.dg 18446744073709551616 (max X Y - min X Y)).length ≤ 4096) ∨
     (E = 3 ∧ v = .agg #[.bool false, .slice none 0 0] ∧ 4096 < (Nt.dg 18446744073709551616 (max X Y - min X Y)).length))) := Lib.hid (by rw [hX, hY]; rfl)
  unfold upN at hX
  unfold dnN at hY
  rw [← hX] at HS1
  rw [← hY] at HS2
  clear hu hl hm hn' hX hY
  go_enter Try.func18, Try.ntmps18
  go_wp2_with fail
  refine (HM.out _).mono ?_
  rintro e w' ⟨rfl, rfl⟩
  have hb0 := ((Below.refl w.heap.size w).alloc (Nat.le_refl _) (.cells #[.bool false, .slice none 0 0] 24))
  have hc0 := Cell2.new w 24
  generalize w.alloc (.cells #[.bool false, .slice none 0 0] 24) = W0 at hb0 hc0 ⊢
  have HB0 := Lib.hid hb0
  have HC0 := Lib.hid hc0
  clear hb0 hc0
  go_wp2_with fail
  refine (HS1.out _ (HU.out.below HB0.out)).mono ?_
  rintro e w1 ⟨o1, rfl, hr1, hd1, hv1, hb1⟩
  have HB1 := Lib.hid (HB0.out.trans (hb1.mono HB0.out.size))
  have HC1 := Lib.hid (HC0.out.below hb1)
  have hs1 : W0.heap.size < w1.heap.size := (RowC.of hr1).lt.2
  have ht := fun w2 (h : RowC w2 W0.heap.size W0.heap.size n n o1) => ctrim_any W0.heap.size W0.heap.size n n o1 w2 h (by omega) hd1
  rw [hv1] at ht
  have HT1 := Lib.hid (ht w1 hr1)
  have HG0 : Hid (w.heap.size < W0.heap.size) := Lib.hid HC0.out.2.2.2
  clear ht hd1 hv1 hr1 hb1
  go_wp2_with fail
  refine HT1.out.mono ?_
  rintro e w' ⟨rfl, hr1, rfl⟩
  have HR1 := Lib.hid hr1
  clear hr1 HT1
  go_wp2_with fail
  refine (HS2.out _ (HU.out.below HB1.out)).mono ?_
  rintro e w3 ⟨o2, rfl, hr2, hd2, hv2, hb2⟩
  have HB3 := Lib.hid (HB1.out.trans (hb2.mono HB1.out.size))
  have HC3 := Lib.hid (HC1.out.below hb2)
  have HR1' := Lib.hid (HR1.out.below hb2)
  have hs3 : w1.heap.size < w3.heap.size := (RowC.of hr2).lt.2
  have ht := fun w2 (h : RowC w2 w1.heap.size w1.heap.size n n o2) => ctrim_any w1.heap.size w1.heap.size n n o2 w2 h (by omega) hd2
  rw [hv2] at ht
  have HT2 := Lib.hid (ht w3 hr2)
  clear ht hd2 hv2 hr2 hb2
  go_wp2_with fail
  refine HT2.out.mono ?_
  rintro e w' ⟨rfl, hr2, rfl⟩
  have HR2 := Lib.hid hr2
  clear hr2 HT2 HR1 HB1 HC1 HS1 HS2 HM HB0 HC0 HU
  obtain ⟨x, hx⟩ : ∃ x, x = Nt.dg 18446744073709551616 X := ⟨_, rfl⟩
  obtain ⟨y, hy⟩ : ∃ y, y = Nt.dg 18446744073709551616 Y := ⟨_, rfl⟩
  have HH : Hid ((x.length < y.length → X < Y) ∧ (y.length < x.length → Y < X) ∧ (∀ (i : Nat) (p r : Int), x[i]? = some p → y[i]? = some r → x.drop (i + 1) = y.drop (i + 1) → p < r → X < Y) ∧ (∀ (i : Nat) (p r : Int), y[i]? = some p → x[i]? = some r → y.drop (i + 1) = x.drop (i + 1) → p < r → Y < X) ∧ (x = y → X = Y)) := Lib.hid (by
    have hdN := Nt.dig_dg 18446744073709551616 (by decide) X
    have hdM := Nt.dig_dg 18446744073709551616 (by decide) Y
    have vN := Nt.val_dg 18446744073709551616 (by decide) X
    have vM := Nt.val_dg 18446744073709551616 (by decide) Y
    have cmp1 := Nt.val_lt_of 18446744073709551616 (by decide) _ _ hdN hdM
    have cmp2 := Nt.val_lt_of 18446744073709551616 (by decide) _ _ hdM hdN
    rw [vN, vM] at cmp1
    rw [vN, vM] at cmp2
    rw [hx, hy]
    exact ⟨Nt.len_lt _ (by decide) X Y, Nt.len_lt _ (by decide) Y X, cmp1, cmp2, fun e => by rw [← vN, e, vM]⟩)
  rw [← hx] at HR1' ⊢
  rw [← hy] at HR2 ⊢
  have hxn : x.length ≤ n := HR1'.out.room
  have hyn : y.length ≤ n := HR2.out.room
  have HX := Lib.hid hx
  have HY := Lib.hid hy
  obtain ⟨k, hk⟩ : ∃ k, x.length = k := ⟨_, rfl⟩
  obtain ⟨q, hq⟩ : ∃ q, y.length = q := ⟨_, rfl⟩
  rw [hk] at HH hxn HR1' ⊢
  rw [hq] at HH hyn HR2 ⊢
  have HK := Lib.hid hk
  have HQ := Lib.hid hq
  clear hx hy hk hq
  go_upto_block 0 with fail
  go_cut [8, 29] (fun s8 s29 wx => s8 = .bool (decide (X < Y)) ∧ Dr w3 wx)
  case first =>
    have hw : wrap64 ((k : Int) - 1) = (k : Int) - 1 := by unfold wrap64; omega
    rcases Nat.lt_trichotomy k q with h0 | h0 | h0
    · have hne : ¬ k = q := by omega
      have HE := Lib.hid (HH.out.1 h0)
      go_wp2_with fail
      go_loopw [8, 9] (fun v8 v wr => v8 = .bool true ∧ ∃ i : Nat, i ≤ k ∧ v = .int .i64 ((i : Int) - 1) ∧ Dr w3 wr) (fun _ v _ => (intOf v + 1).toNat)
      case atStart => exact ⟨by simp [h0], k, Nat.le_refl _, rfl, Dr.refl _⟩
      case round =>
        obtain ⟨rfl, i, hi, rfl, hdr⟩ := hrel
        have HDW := Lib.hid hdr
        clear hdr
        rcases i with _ | i
        · go_wp2_with fail
          go_meet
          exact ⟨by rw [decide_eq_true HE.out], HDW.out⟩
        · go_wp2_with fail
          go_meet
          exact ⟨by rw [decide_eq_true HE.out], HDW.out⟩
    · have HKQ := Lib.hid h0
      have hkk : decide (k < q) = false := decide_eq_false (by omega)
      have hkq : (k == q) = true := by simpa using h0
      have hkq2 : ((k : Int) == (q : Int)) = true := by simp; omega
      clear h0
      rw [hkk]
      go_wp2_with fail
      go_loopw [8, 9] (fun v8 v wr => v8 = .bool false ∧ ∃ i : Nat, i ≤ k ∧ v = .int .i64 ((i : Int) - 1) ∧ Hid (x.drop i = y.drop i) ∧ Dr w3 wr) (fun _ v _ => (intOf v + 1).toNat)
      case atStart => exact ⟨by first | rfl | simp, k, Nat.le_refl _, rfl, Lib.hid (by rw [List.drop_eq_nil_of_le (Nat.le_of_eq HK.out), List.drop_eq_nil_of_le (by have := HQ.out; have := HKQ.out; omega)]), Dr.refl _⟩
      case round =>
        obtain ⟨rfl, i, hi, rfl, HDR, hdr⟩ := hrel
        have HDW := Lib.hid hdr
        clear hdr
        rcases i with _ | i
        · have HE : Hid (X = Y) := Lib.hid (HH.out.2.2.2.2 (by have := HDR.out; rwa [List.drop_zero, List.drop_zero] at this))
          go_wp2_with fail
          go_meet
          exact ⟨by rw [decide_eq_false (by have := HE.out; omega)], HDW.out⟩
        · obtain ⟨p, hp⟩ : ∃ p, x[i]? = some p := ⟨_, List.getElem?_eq_getElem (by have := HK.out; omega)⟩
          obtain ⟨r, hr⟩ : ∃ r, y[i]? = some r := ⟨_, List.getElem?_eq_getElem (by have := HQ.out; have := HKQ.out; omega)⟩
          have g1 := (HR1'.out.below (HDW.out.below3 _)).cell i p hp
          have g2 := (HR2.out.below (HDW.out.below3 _)).cell i r hr
          have HP := Lib.hid hp
          have HR := Lib.hid hr
          clear hp hr
          have hwi : wrap64 ((i : Int) - 1) = (i : Int) - 1 := by unfold wrap64; omega
          have hik : i < k := by omega
          have hiq : i < q := by have := HKQ.out; omega
          rcases Int.lt_trichotomy p r with hpr | hpr | hpr
          · have e : X < Y := HH.out.2.2.1 i p r HP.out HR.out HDR.out hpr
            have HE := Lib.hid e
            have hpe : (p == r) = false := by simp; omega
            clear e
            go_wp2_with fail
            go_region
            go_wp2_with fail
            go_region
            go_wp2_with fail
            all_goals
              go_meet
              exact ⟨by rw [decide_eq_true HE.out], (HDW.out.trans (Dr.drew _)).trans (Dr.drew _)⟩
          · subst hpr
            have hpp : ¬ p < p := Int.lt_irrefl p
            go_wp2_with fail
            go_region
            go_wp2_with fail
            go_roundw
            case rel =>
              have h1 := (List.getElem?_eq_some_iff.1 HP.out)
              have h2 := (List.getElem?_eq_some_iff.1 HR.out)
              have HDR2 : Hid (x.drop i = y.drop i) := Lib.hid (by rw [List.drop_eq_getElem_cons h1.1, List.drop_eq_getElem_cons h2.1, h1.2, h2.2, HDR.out])
              skip
              exact ⟨rfl, i, by omega, by go_num, HDR2, HDW.out.trans (Dr.drew _)⟩
            case measure => simp [intOf]
          · have e : Y < X := HH.out.2.2.2.1 i r p HR.out HP.out HDR.out.symm hpr
            have HE := Lib.hid e
            have hpe : (p == r) = false := by simp; omega
            have hpl : decide (p < r) = false := decide_eq_false (by omega)
            clear e
            go_wp2_with fail
            go_region
            go_wp2_with fail
            go_region
            go_wp2_with fail
            all_goals
              go_meet
              exact ⟨by rw [decide_eq_false (by have := HE.out; omega)], (HDW.out.trans (Dr.drew _)).trans (Dr.drew _)⟩
    · have hne : ¬ k = q := by omega
      have hnl : ¬ k < q := by omega
      have HE := Lib.hid (HH.out.2.1 h0)
      go_wp2_with fail
      go_loopw [8, 9] (fun v8 v wr => v8 = .bool false ∧ ∃ i : Nat, i ≤ k ∧ v = .int .i64 ((i : Int) - 1) ∧ Dr w3 wr) (fun _ v _ => (intOf v + 1).toNat)
      case atStart => exact ⟨by simp [hnl], k, Nat.le_refl _, rfl, Dr.refl _⟩
      case round =>
        obtain ⟨rfl, i, hi, rfl, hdr⟩ := hrel
        have HDW := Lib.hid hdr
        clear hdr
        rcases i with _ | i
        · go_wp2_with fail
          go_meet
          exact ⟨by rw [decide_eq_false (by have := HE.out; omega)], HDW.out⟩
        · go_wp2_with fail
          go_meet
          exact ⟨by rw [decide_eq_false (by have := HE.out; omega)], HDW.out⟩
  case rest =>
    obtain ⟨rfl, hdr⟩ := hcut
    have HBc := Lib.hid (HB3.out.trans (hdr.below3 _))
    have HCc := Lib.hid (HC3.out.below (hdr.below3 _))
    have HRx := Lib.hid (((HR1'.out.below (hdr.below3 _))).base (base' := w.heap.size) (Nat.le_of_lt HG0.out))
    have HRy := Lib.hid (((HR2.out.below (hdr.below3 _))).base (base' := w.heap.size) (by have := HG0.out; omega))
    have HG1 : Hid (W0.heap.size ≠ w1.heap.size ∧ w.heap.size < w1.heap.size) := Lib.hid (by have := HG0.out; omega)
    clear hdr HR1' HR2 HB3 HC3
    obtain ⟨T, hT⟩ : ∃ T, T = decide (X < Y) := ⟨_, rfl⟩
    rw [← hT]
    have HT := Lib.hid hT
    clear hT
    go_upto_if 62 with fail
    go_cut [6, 7, 62, 63, 64] (fun s6 s7 _ _ _ wx => wx = wc ∧ ∃ gp gr kp kr, s6 = .slice (some ⟨gp, 0, none⟩) kp n ∧ s7 = .slice (some ⟨gr, 0, none⟩) kr n ∧ gp ≠ gr ∧ w.heap.size < gp ∧ kp ≤ n ∧ kr ≤ n ∧ Hid (RowC wc w.heap.size gp kp n (Nt.dg 18446744073709551616 (max X Y))) ∧ Hid (CellsU wc gr (Nt.dg 18446744073709551616 (min X Y))) ∧ Hid ((Nt.dg 18446744073709551616 (min X Y)).length = kr))
    case first =>
      cases T
      · have hle : ¬ X < Y := by have := HT.out; simpa using this.symm
        have HM1 : Hid (max X Y = X) := Lib.hid (Nat.max_eq_left (by omega))
        have HM2 : Hid (min X Y = Y) := Lib.hid (Nat.min_eq_right (by omega))
        clear hle
        go_wp2_with fail
        go_meet
        exact ⟨rfl, _, _, _, _, rfl, rfl, HG1.out.1, HG0.out, hxn, hyn, Lib.hid (by rw [HM1.out, ← HX.out]; exact HRx.out), Lib.hid (by rw [HM2.out, ← HY.out]; exact CellsU.of HRy.out), Lib.hid (by rw [HM2.out, ← HY.out]; exact HQ.out)⟩
      · have hle : X < Y := by have := HT.out; simpa using this.symm
        have HM1 : Hid (max X Y = Y) := Lib.hid (Nat.max_eq_right (by omega))
        have HM2 : Hid (min X Y = X) := Lib.hid (Nat.min_eq_left (by omega))
        clear hle
        go_wp2_with fail
        go_meet
        exact ⟨rfl, _, _, _, _, rfl, rfl, HG1.out.1.symm, HG1.out.2, hyn, hxn, Lib.hid (by rw [HM1.out, ← HY.out]; exact HRy.out), Lib.hid (by rw [HM2.out, ← HX.out]; exact CellsU.of HRx.out), Lib.hid (by rw [HM2.out, ← HX.out]; exact HK.out)⟩
    case rest =>
      obtain ⟨hw, gp, gr, kp, kr, rfl, rfl, hne, hgp, hkp, hkr, HRP, HCR, HKR⟩ := hcut
      subst hw
      obtain ⟨p, hp⟩ : ∃ p, p = Nt.dg 18446744073709551616 (max X Y) := ⟨_, rfl⟩
      obtain ⟨r, hr⟩ : ∃ r, r = Nt.dg 18446744073709551616 (min X Y) := ⟨_, rfl⟩
      have HDP : Hid (Nt.Dig 18446744073709551616 p) := Lib.hid (by rw [hp]; exact Nt.dig_dg _ (by decide) _)
      have HDR : Hid (Nt.Dig 18446744073709551616 r) := Lib.hid (by rw [hr]; exact Nt.dig_dg _ (by decide) _)
      rw [← hp] at HRP
      rw [← hr] at HCR HKR
      have HPL : Hid (p.length = kp) := Lib.hid HRP.out.len
      have HEND : Hid (∀ (bw : Nat) (o : List Int), o.length = kp → Nt.Dig 18446744073709551616 o → bw ≤ 1 → Nt.val 18446744073709551616 (o.take kp) + Nt.val 18446744073709551616 (r.take kp) = Nt.val 18446744073709551616 (p.take kp) + 18446744073709551616 ^ kp * bw → Nt.val 18446744073709551616 o = max X Y - min X Y) := Lib.hid (fun bw o h1 h2 h3 h4 => Nt.less_end (max X Y) (min X Y) bw kp o (by rw [← hp]; exact HPL.out) h1 h2 (by omega) h3 (by rw [← hp, ← hr]; exact h4))
      clear hp hr
      go_wp2_with fail
      go_loopw [10, 67] (fun bv iv wr => ∃ (i bw : Nat) (o : List Int), iv = .int .i64 i ∧ bv = .int .u64 bw ∧ i ≤ kp ∧ bw ≤ 1 ∧ Hid (RowC wr w.heap.size gp kp n o) ∧ Hid (Nt.Dig 18446744073709551616 o) ∧ Hid (Nt.val 18446744073709551616 (o.take i) + Nt.val 18446744073709551616 (r.take i) = Nt.val 18446744073709551616 (p.take i) + 18446744073709551616 ^ i * bw) ∧ Hid (o.drop i = p.drop i) ∧ Hid (CellsU wr gr r) ∧ Hid (Cell2 w.heap.size wr) ∧ Hid (Below w.heap.size w wr)) (fun _ iv _ => kp - (intOf iv).toNat)
      case atStart => exact ⟨0, 0, p, rfl, rfl, Nat.zero_le _, by omega, HRP, HDP, Lib.hid (by simp [Nt.val]), Lib.hid rfl, HCR, HCc, HBc⟩
      case round =>
        clear HRP HCR HCc HBc HRx HRy
        obtain ⟨i, bw, o, rfl, rfl, hi, hbw, HR, HD, HV, HDR2, HC, HC2, HB⟩ := hrel
        by_cases hlt : i < kp
        · obtain ⟨u, hu⟩ : ∃ u, p[i]? = some u := ⟨_, List.getElem?_eq_getElem (by have := HPL.out; omega)⟩
          have hol := HR.out.len
          have hou : o[i]? = some u := by
            have h1 := HDR2.out
            have h2 : (o.drop i)[0]? = (p.drop i)[0]? := by rw [h1]
            rw [List.getElem?_drop, List.getElem?_drop, Nat.add_zero] at h2
            rw [h2, hu]
          have hcu := HR.out.cell i u hou
          have hfr := HR.out.free i
          have HUB := Lib.hid (HDP.out u (List.mem_of_getElem? hu))
          have HGO : Hid (∀ (z : Int) (bw' : Nat), 0 ≤ z → z < 18446744073709551616 → z + r[i]?.getD 0 + bw = u + 18446744073709551616 * bw' → ∀ wr', wr' = wr.setCell ⟨gp, i, none⟩ (.int .u64 z) →
              Hid (RowC wr' w.heap.size gp kp n (o.set i z)) ∧ Hid (Nt.Dig 18446744073709551616 (o.set i z)) ∧ Hid (Nt.val 18446744073709551616 ((o.set i z).take (i + 1)) + Nt.val 18446744073709551616 (r.take (i + 1)) = Nt.val 18446744073709551616 (p.take (i + 1)) + 18446744073709551616 ^ (i + 1) * bw') ∧ Hid ((o.set i z).drop (i + 1) = p.drop (i + 1)) ∧ Hid (CellsU wr' gr r) ∧ Hid (Cell2 w.heap.size wr') ∧ Hid (Below w.heap.size w wr')) := Lib.hid (by
            intro z bw' hz0 hz1 hst wr' hwr'
            subst hwr'
            refine ⟨Lib.hid (HR.out.set i z), Lib.hid (HD.out.set i z hz0 hz1), Lib.hid (Nt.less_step p r o i bw bw' u z hu (by rw [hol, HPL.out]) HDP.out HDR.out hz0 hst HV.out), Lib.hid ?_, Lib.hid (HC.out.store hne _), Lib.hid (HC2.out.store (by omega) _), Lib.hid (HB.out.setCell (p := ⟨gp, i, none⟩) (Nat.le_of_lt hgp) _)⟩
            rw [List.drop_set_of_lt (by omega)]
            have h1 := HDR2.out
            rw [Nt.drop_one o i, Nt.drop_one p i, h1])
          have HSAME : Hid (∀ (bw' : Nat), u + r[i]?.getD 0 + bw = u + 18446744073709551616 * bw' → Hid (Nt.val 18446744073709551616 (o.take (i + 1)) + Nt.val 18446744073709551616 (r.take (i + 1)) = Nt.val 18446744073709551616 (p.take (i + 1)) + 18446744073709551616 ^ (i + 1) * bw') ∧ Hid (o.drop (i + 1) = p.drop (i + 1))) := Lib.hid (by
            intro bw' hst
            have h0 := Nt.less_step p r o i bw bw' u u hu (by rw [hol, HPL.out]) HDP.out HDR.out HUB.out.1 hst HV.out
            have e : o.set i u = o := by
              obtain ⟨h3, h4⟩ := List.getElem?_eq_some_iff.1 hou
              subst h4; simp
            rw [e] at h0
            refine ⟨Lib.hid h0, Lib.hid ?_⟩
            have h1 := HDR2.out
            rw [Nt.drop_one o i, Nt.drop_one p i, h1])
          clear hu hou hol
          by_cases hir : i < kr
          · obtain ⟨y1, hy1⟩ : ∃ y1, r[i]? = some y1 := ⟨_, List.getElem?_eq_getElem (by have := HKR.out; omega)⟩
            have hcy := HC.out i y1 hy1
            have HYB := Lib.hid (HDR.out y1 (List.mem_of_getElem? hy1))
            rw [hy1, Option.getD_some] at HGO HSAME
            clear hy1
            by_cases hfull : y1 + bw < 18446744073709551616
            · obtain ⟨S, hS⟩ : ∃ S : Int, S = bw + y1 := ⟨_, rfl⟩
              have hw1 : IntKind.u64.wrap ((bw : Int) + y1) = S := by have := HYB.out; rw [IntKind.wrap_u64]; omega
              have hge : ¬ S < y1 := by omega
              have HSB : Hid (0 ≤ S ∧ S < 18446744073709551616) := Lib.hid (by have := HYB.out; omega)
              have HSE := Lib.hid hS
              clear hfull hS
              by_cases hus : u < S
              · obtain ⟨z, hz⟩ : ∃ z : Int, z = u - S + 18446744073709551616 := ⟨_, rfl⟩
                have hw2 : IntKind.u64.wrap (u - S) = z := by have := HUB.out; have := HSB.out; rw [IntKind.wrap_u64]; omega
                have HZ := Lib.hid (HGO.out z 1 (by have := HUB.out; have := HSB.out; omega) (by omega) (by have := HSE.out; omega) _ rfl)
                clear hz
                go_wp2_with fail
                obtain ⟨z1, z2, z3, z4, z5, z6, z7⟩ := HZ.out
                refine ⟨⟨i + 1, 1, _, by go_num, rfl, by omega, by omega, z1, z2, z3, z4, z5, z6, z7⟩, by simp [intOf]; omega⟩
              · obtain ⟨z, hz⟩ : ∃ z : Int, z = u - S := ⟨_, rfl⟩
                have hw2 : IntKind.u64.wrap (u - S) = z := by have := HUB.out; have := HSB.out; rw [IntKind.wrap_u64]; omega
                have HZ := Lib.hid (HGO.out z 0 (by omega) (by have := HUB.out; have := HSB.out; omega) (by have := HSE.out; omega) _ rfl)
                clear hz
                go_wp2_with fail
                obtain ⟨z1, z2, z3, z4, z5, z6, z7⟩ := HZ.out
                refine ⟨⟨i + 1, 0, _, by go_num, rfl, by omega, by omega, z1, z2, z3, z4, z5, z6, z7⟩, by simp [intOf]; omega⟩
            · have hbw1 : bw = 1 := by have := HYB.out; omega
              have hw1 : IntKind.u64.wrap (1 + y1) = 0 := by have := HYB.out; rw [IntKind.wrap_u64]; omega
              have hpos : 0 < y1 := by omega
              have HZ := Lib.hid (HSAME.out 1 (by have := HYB.out; omega))
              clear hfull
              subst hbw1
              go_wp2_with fail
              refine ⟨⟨i + 1, 1, o, by go_num, rfl, by omega, by omega, HR, HD, HZ.out.1, HZ.out.2, HC, HC2, HB⟩, by simp [intOf]; omega⟩
          · have hnone : r[i]? = none := List.getElem?_eq_none (by have := HKR.out; omega)
            rw [hnone, Option.getD_none] at HGO
            clear hnone HSAME
            by_cases hus : u < (bw : Int)
            · obtain ⟨z, hz⟩ : ∃ z : Int, z = u - bw + 18446744073709551616 := ⟨_, rfl⟩
              have hw2 : IntKind.u64.wrap (u - bw) = z := by have := HUB.out; rw [IntKind.wrap_u64]; omega
              have HZ := Lib.hid (HGO.out z 1 (by have := HUB.out; omega) (by omega) (by omega) _ rfl)
              clear hz
              go_wp2_with fail
              obtain ⟨z1, z2, z3, z4, z5, z6, z7⟩ := HZ.out
              refine ⟨⟨i + 1, 1, _, by go_num, rfl, by omega, by omega, z1, z2, z3, z4, z5, z6, z7⟩, by simp [intOf]; omega⟩
            · obtain ⟨z, hz⟩ : ∃ z : Int, z = u - bw := ⟨_, rfl⟩
              have hw2 : IntKind.u64.wrap (u - bw) = z := by have := HUB.out; rw [IntKind.wrap_u64]; omega
              have HZ := Lib.hid (HGO.out z 0 (by omega) (by have := HUB.out; omega) (by omega) _ rfl)
              clear hz
              go_wp2_with fail
              obtain ⟨z1, z2, z3, z4, z5, z6, z7⟩ := HZ.out
              refine ⟨⟨i + 1, 0, _, by go_num, rfl, by omega, by omega, z1, z2, z3, z4, z5, z6, z7⟩, by simp [intOf]; omega⟩
        · obtain rfl : i = kp := by omega
          have HVF : Hid (Nt.val 18446744073709551616 o = max X Y - min X Y) := Lib.hid (HEND.out bw o HR.out.len HD.out hbw HV.out)
          have ht := fun (h : RowC wr w.heap.size gp i n o) => ctrim_any w.heap.size gp i n o wr h (by omega) HD.out
          rw [HVF.out] at ht
          have HT3 := Lib.hid (ht HR.out)
          clear ht
          obtain ⟨D, hD⟩ : ∃ D, D = max X Y - min X Y := ⟨_, rfl⟩
          rw [← hD] at HT3
          have HDD := Lib.hid hD
          clear hD
          obtain ⟨m, hm⟩ : ∃ m, m = (Nt.dg 18446744073709551616 D).length := ⟨_, rfl⟩
          rw [← hm] at HT3
          go_wp2_with fail
          refine HT3.out.mono ?_
          rintro e w' ⟨rfl, hr4, rfl⟩
          have hmn : m ≤ n := hr4.room
          have HU4 := Lib.hid hr4.u
          have HM := Lib.hid hm
          obtain ⟨l4, hl4⟩ : ∃ l4, l4 = Nt.dg 18446744073709551616 D := ⟨_, rfl⟩
          rw [← hl4] at HU4
          have HL4 := Lib.hid hl4
          obtain ⟨k0, k1, k2, k3⟩ := HC2.out
          have k20 := k2 0
          have k21 := k2 1
          clear hr4 hm hl4 HT3 HR HD HV HDR2 HC HEND HPL HDP HDR HKR
          by_cases h4 : 4096 < m
          · have OUT := Lib.hid (int_store (w1 := wr) k0 k1 (.bool false) (.slice none 0 0))
            have H4 := Lib.hid h4
            go_wp2
            refine bodyPost_ret (v := .tuple #[.agg #[.bool false, .slice none 0 0], .int .i64 3]) (by simp [results, Try.results18, go_sem, OUT.out.2.2.1, OUT.out.2.2.2]) rfl ?_
            rw [HWP.out]
            exact ⟨_, 3, rfl, OUT.out.2.1 _ _ (Nat.le_refl _) HB.out, .inr ⟨rfl, rfl, by rw [← HDD.out, ← HM.out]; exact H4.out⟩⟩
          · have OUT := Lib.hid (int_store (w1 := wr) k0 k1 (.bool T) (.slice (some ⟨gp, 0, none⟩) m n))
            have H4 := Lib.hid h4
            go_wp2
            refine bodyPost_ret (v := .tuple #[.agg #[.bool T, .slice (some ⟨gp, 0, none⟩) m n], .int .i64 0]) (by simp [results, Try.results18, go_sem, OUT.out.2.2.1, OUT.out.2.2.2]) rfl ?_
            rw [HWP.out]
            refine ⟨_, 0, rfl, OUT.out.2.1 _ _ (Nat.le_refl _) HB.out, .inl ⟨rfl, ⟨some ⟨gp, 0, none⟩, n, ?_, ?_⟩, by rw [← HDD.out, ← HM.out]; have := H4.out; omega⟩⟩
            · rw [← HDD.out, ← HT.out, ← HM.out]
            · rw [← HDD.out, ← HM.out, ← HL4.out]; exact OUT.out.1 _ _ _ _ HU4.out
end Go.Proofs.Ytclnmheplecknaa

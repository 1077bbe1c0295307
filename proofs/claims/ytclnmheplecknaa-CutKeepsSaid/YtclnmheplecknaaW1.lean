/-
  Walk: halves.
  Walks: digit, limbs.
  Walk: NatTrim. Words: a slice of digits that is only read; a row that is new.
  Walks: NatOf, NatBits.
  Walk: NatCmp.
  Walks: digit, low, halves.
-/
import Derived.Test.YtclnmheplecknaaW0
import Derived.OwnWalk
import Derived.LoopTactic
import Derived.Below
import Derived.Laws.OwnMore
import Derived.Laws.AppendOwnNone
import Derived.Deep.AppendLies
import Derived.RegionTactic
import Derived.ChangeAlike
import Derived.Deep.RegionLaw
set_option linter.unusedVariables false
set_option linter.unusedSimpArgs false
namespace Go.Proofs.Ytclnmheplecknaa
open Go.RowKit

/-- A slice whose cells are these digits, below the heap's end. -/
def U (w : World) (A : Option Addr) (n c : Nat) (l : List Int) : Prop :=
  l.length = n ∧ n ≤ c ∧ (A = none → c = 0) ∧ ∀ k x, l[k]? = some x → ∃ ad, A = some ad ∧ ad.block < w.heap.size ∧ w.cell? (ad.add k) = some (.int .u64 x)
theorem add_block (a : Addr) (n : Nat) : (a.add n).block = a.block := by unfold Addr.add; split <;> rfl
theorem U.below {w w' : World} {A : Option Addr} {n c : Nat} {l : List Int} (h : U w A n c l) (hb : Below w.heap.size w w') : U w' A n c l := by
  obtain ⟨h1, h2, h3, h4⟩ := h
  refine ⟨h1, h2, h3, fun k x hk => ?_⟩
  obtain ⟨ad, e, hlt, hc⟩ := h4 k x hk
  exact ⟨ad, e, Nat.lt_of_lt_of_le hlt hb.size, (hb.cell (by rw [add_block]; exact hlt)).trans hc⟩
theorem U.news {w : World} {ad : Addr} {n c : Nat} {l : List Int} (h : U w (some ad) n c l) (m : Nat) (hm : m ≤ n) : ((l.take m).map (Value.int .u64)).length = m * 1 ∧ (∀ j u, ((l.take m).map (Value.int .u64))[j]? = some u → w.cell? (ad.add j) = some u) ∧ (∀ u ∈ (l.take m).map (Value.int .u64), u.oneCell' = true) := by
  obtain ⟨h1, h2, h3, h4⟩ := h
  refine ⟨by rw [List.length_map, List.length_take, Nat.min_eq_left (by omega)]; omega, fun j u hu => ?_, fun u hu => ?_⟩
  · rw [List.getElem?_map] at hu
    obtain ⟨y, hy, rfl⟩ := Option.map_eq_some_iff.1 hu
    have hj : j < m := by
      rcases Nat.lt_or_ge j m with h | h
      · exact h
      · rw [List.getElem?_take, if_neg (by omega)] at hy; cases hy
    rw [List.getElem?_take, if_pos hj] at hy
    obtain ⟨ad2, e2, _, hc2⟩ := h4 j y hy
    obtain rfl : ad = ad2 := Option.some.inj e2
    exact hc2
  · obtain ⟨y, _, rfl⟩ := List.mem_map.1 hu
    rfl
theorem U.of_own {w : World} {base : Nat} {e : TypeId} {v : Value} {n : Nat} {l : List Int} (h : w.ownsRow base e 1 v n (l.map (Value.int .u64))) : ∃ A c, v = .slice A n c ∧ U w A n c l := by
  have hl : l.length = n := by have := h.1; simp at this; omega
  rcases Nat.eq_zero_or_pos n with hn | hn
  · subst hn
    have hnil : l = [] := List.eq_nil_of_length_eq_zero hl
    subst hnil
    rcases h.2 with ⟨rfl, _⟩ | ⟨g, cap, cur, rfl, _⟩
    · exact ⟨_, _, rfl, rfl, Nat.le_refl _, fun _ => rfl, fun k x hk => by simp at hk⟩
    · exact ⟨_, _, rfl, rfl, Nat.zero_le _, (fun he => by cases he), fun k x hk => by simp at hk⟩
  · obtain ⟨g, cap, hv, hc, hlt⟩ := h.form hn
    refine ⟨_, _, hv, hl, ?_, (fun he => by cases he), fun k x hk => ⟨_, rfl, hlt, h.cells (g := g) (by rw [hv]; rfl) k _ (by rw [List.getElem?_map, hk]; rfl)⟩⟩
    rcases h.2 with ⟨rfl, h0⟩ | ⟨g', cap', cur, rfl, _, _, hnc, _⟩
    · omega
    · injection hv with _ _ hc2; omega
/-- What a function of natural numbers hands back: new memory, the canonical digits of N. -/
def NatPost (N : Nat) (w : World) (e : Ending) (w' : World) : Prop := ∃ A c, e = .returned (.slice A (Nt.dg 18446744073709551616 N).length c) ∧ U w' A (Nt.dg 18446744073709551616 N).length c (Nt.dg 18446744073709551616 N) ∧ Below w.heap.size w w'
theorem u64_info : (Try.prog.info? 55).map (fun i => (i.zero, i.size, i.bytes)) = some (some (.int .u64 0), 1, 8) := by kernel_rfl
/-- Digits cut behind the last that is not 0. -/
theorem trimmed (l : List Int) (k : Nat) (hd : Nt.Dig 18446744073709551616 l) (hz : ∀ x, x ∈ l.drop k → x = 0) (ht : k = 0 ∨ ∃ x, l[k - 1]? = some x ∧ x ≠ 0) (hk : k ≤ l.length) :
    l.take k = Nt.dg 18446744073709551616 (Nt.val 18446744073709551616 l) := by
  rw [← Nt.val_take 18446744073709551616 l k hz]
  refine Nt.dg_val 18446744073709551616 (by decide) _ (hd.take k) ?_
  rcases ht with rfl | ⟨x, hx, h0⟩
  · exact .inl (List.take_zero)
  · right
    rcases k with _ | k
    · rw [List.take_zero]; simp
    · have hx' : l[k]? = some x := by simpa using hx
      rw [List.getLast?_eq_getElem?, List.length_take, Nat.min_eq_left hk]
      rw [List.getElem?_take, if_pos (by omega)]
      rw [show k + 1 - 1 = k by omega, hx']
      intro he; exact h0 (Option.some.inj he)
theorem drop_zero (l : List Int) (k : Nat) (h : l[k]? = some 0) (hz : ∀ x, x ∈ l.drop (k + 1) → x = 0) : ∀ x, x ∈ l.drop k → x = 0 := by
  intro x hx
  have hk : k < l.length := (List.getElem?_eq_some_iff.1 h).1
  rw [List.drop_eq_getElem_cons hk] at hx
  rw [List.getElem?_eq_getElem hk] at h
  rcases List.mem_cons.1 hx with e | hx
  · rw [e]; exact Option.some.inj h
  · exact hz x hx
set_option maxRecDepth 100000 in
theorem trim_any (A : Option Addr) (n c : Nat) (l : List Int) (w : World) (h : U w A n c l) (hl : n ≤ 1000000000) (hd : Nt.Dig 18446744073709551616 l) :
    Calls Try.prog 107 #[.slice A n c] w (NatPost (Nt.val 18446744073709551616 l) w) := by
  obtain ⟨i0, hi0, hz0, hz1, hz2⟩ := info_parts u64_info
  have HU := Lib.hid h
  obtain ⟨h1, h2, h3, h4⟩ := h
  have HN := Lib.hid h1
  have H4 := Lib.hid h4
  have HD := Lib.hid hd
  clear h4 hd
  rcases A with _ | ad
  · have hc : c = 0 := h3 rfl
    subst hc
    have hn : n = 0 := by omega
    subst hn
    have hnil : l = [] := List.eq_nil_of_length_eq_zero h1
    subst hnil
    clear h1 h2 h3
    go_enter Try.func107, Try.ntmps107
    go_wp2_with fail
    refine wp_loop_rounds 1 ?_
    rw [rounds_succ]
    go_wp2
    go_ret
    have hnil : Nt.dg 18446744073709551616 (Nt.val 18446744073709551616 []) = [] := Nt.dg_zero _
    unfold NatPost
    rw [hnil]
    exact ⟨none, 0, rfl, ⟨rfl, Nat.le_refl _, fun _ => rfl, fun k x hk => by simp at hk⟩, Below.refl _ _⟩
  · clear h3 h1
    go_enter Try.func107, Try.ntmps107
    go_wp2_with fail
    go_loop [3] (fun v => ∃ k : Nat, k ≤ n ∧ v = .int .i64 k ∧ ∀ x, x ∈ l.drop k → x = 0) (fun v => (intOf v).toNat)
    case atStart => exact ⟨n, Nat.le_refl _, rfl, fun x hx => by rw [← HN.out, List.drop_length] at hx; cases hx⟩
    case round =>
      obtain ⟨k, hk, rfl, hz⟩ := hrel
      have HZ := Lib.hid hz
      clear hz
      have fin : ∀ (m : Nat) (v : Value) (w1 : World), m = k → (m = 0 ∨ ∃ x, l[m - 1]? = some x ∧ x ≠ 0) → w1.ownsRow w.heap.size 55 1 v (0 + m) ([] ++ (l.take m).map (Value.int .u64)) → w.grownBy w1 (Value.slice none 0 0).ownBlock → NatPost (Nt.val 18446744073709551616 l) w (.returned v) w1 := by
        intro m v w1 hm ht hown hg
        subst hm
        rw [Nat.zero_add, List.nil_append] at hown
        have ht2 := trimmed l m HD.out HZ.out ht (by have := HN.out; omega)
        have hlen : (l.take m).length = m := by rw [List.length_take, Nat.min_eq_left (by have := HN.out; omega)]
        obtain ⟨A', c', rfl, hu⟩ := U.of_own hown
        have hll : (Nt.dg 18446744073709551616 (Nt.val 18446744073709551616 l)).length = m := by rw [← ht2, hlen]
        unfold NatPost
        rw [hll]
        rw [← ht2]
        refine ⟨A', c', rfl, hu, (Below.refl _ _).grown hg (Nat.le_refl _) (fun k hk => by simp [Value.ownBlock] at hk)⟩
      have FIN := Lib.hid fin
      clear fin
      rcases k with _ | k
      · go_wp2_with (at_builtin; refine wpList_append_own _ rfl (.tmp 19) (.tmp 22) _ rfl w.heap.size 55 i0 _ 1 8 Try.underlying22 hi0 hz0 hz1 hz2 rfl (by omega) (.slice none 0 0) 0 [] rfl ⟨by simp, .inl ⟨rfl, rfl⟩⟩ ad 0 c ((l.take 0).map (Value.int .u64)) rfl (HU.out.news 0 (by omega)).1 (HU.out.news 0 (by omega)).2.1 (HU.out.news 0 (by omega)).2.2 (by simp only [maxLen]; omega) (by omega) (Nat.le_refl _) ?_; intro v1 w1 hown1 hg1 _)
        go_ret
        exact FIN.out 0 v1 w1 rfl (.inl rfl) hown1 hg1
      · obtain ⟨x, hx⟩ : ∃ x, l[k]? = some x := ⟨_, List.getElem?_eq_getElem (by have := HN.out; omega)⟩
        obtain ⟨ad', e, hb, hc⟩ := H4.out k x hx
        obtain rfl : ad = ad' := Option.some.inj e
        have HX := Lib.hid hx
        clear hx e
        by_cases h0 : x = 0
        · subst h0
          go_wp2
          go_round
          case rel => exact ⟨k, by omega, rfl, drop_zero l k HX.out HZ.out⟩
          case measure => simp [intOf]
        · go_wp2_with (at_builtin; refine wpList_append_own _ rfl (.tmp 19) (.tmp 22) _ rfl w.heap.size 55 i0 _ 1 8 Try.underlying22 hi0 hz0 hz1 hz2 rfl (by omega) (.slice none 0 0) 0 [] rfl ⟨by simp, .inl ⟨rfl, rfl⟩⟩ ad (k + 1) c ((l.take (k + 1)).map (Value.int .u64)) rfl (HU.out.news (k + 1) (by omega)).1 (HU.out.news (k + 1) (by omega)).2.1 (HU.out.news (k + 1) (by omega)).2.2 (by simp only [maxLen]; omega) (by omega) (Nat.le_refl _) ?_; intro v1 w1 hown1 hg1 _)
          go_ret
          exact FIN.out (k + 1) v1 w1 rfl (.inr ⟨x, by simpa using HX.out, h0⟩) hown1 hg1
end Go.Proofs.Ytclnmheplecknaa

namespace Go.Proofs.Ytclnmheplecknaa
open Go.RowKit

theorem cell_new (w : World) (cs : Array Value) (t : TypeId) (i : Nat) : (w.alloc (.cells cs t)).cell? ((⟨w.heap.size, 0, none⟩ : Addr).add i) = cs[i]? := by
  have h : (w.alloc (.cells cs t)).heap[w.heap.size]? = some (.cells cs t (0, 0)) := heap_alloc_new w _
  have e : (⟨w.heap.size, 0, none⟩ : Addr).add i = ⟨w.heap.size, i, none⟩ := by unfold Addr.add; split <;> simp_all
  rw [e]
  exact cell_of_row _ _ _ _ _ _ h
theorem alloc_lt (w : World) (o : Obj) : w.heap.size < (w.alloc o).heap.size := (Array.getElem?_eq_some_iff.1 (heap_alloc_new w o)).1
set_option maxRecDepth 100000 in
theorem natOf_any (x : Nat) (w : World) (hx : x < 18446744073709551616) : Calls Try.prog 75 #[.int .u64 x] w (NatPost x w) := by
  go_enter Try.func75, Try.ntmps75
  go_wp2_with fail
  have hv : Nt.val 18446744073709551616 [(x : Int)] = x := by simp [Nt.val]
  have hd : Nt.Dig 18446744073709551616 [(x : Int)] := Nt.Dig.one (by omega) (by omega)
  have hu : U (w.alloc (Obj.cells #[Value.int IntKind.u64 ↑x] 55)) (some ⟨w.heap.size, 0, none⟩) 1 1 [(x : Int)] := by
    refine ⟨rfl, Nat.le_refl _, (fun he => by cases he), fun k y hk => ⟨_, rfl, ?_, ?_⟩⟩
    · exact alloc_lt w _
    · rw [cell_new]
      rcases k with _ | k
      · simp at hk; subst hk; rfl
      · simp at hk
  refine (trim_any _ 1 1 [(x : Int)] _ hu (by decide) hd).mono ?_
  rintro e w1 ⟨A1, c1, rfl, hu1, hb1⟩
  have hb2 : Below w.heap.size w w1 := ((Below.refl w.heap.size w).alloc (Nat.le_refl _) _).trans (hb1.mono (((Below.refl w.heap.size w).alloc (Nat.le_refl _) _).size))
  rw [hv] at hu1 ⊢
  have HU := Lib.hid hu1
  have HB := Lib.hid hb2
  clear hu1 hb1 hb2
  go_wp2
  go_ret
  exact ⟨A1, c1, rfl, HU.out, HB.out⟩
/-- Bits up to the highest one. -/
def bitsN (n : Nat) : Nat := if n = 0 then 0 else n.log2 + 1
theorem bitsN_half (u : Nat) (h : 0 < u) : bitsN u = bitsN (u / 2) + 1 := by
  unfold bitsN
  rw [if_neg (by omega)]
  by_cases h1 : u / 2 = 0
  · have : u = 1 := by omega
    subst this; decide
  · rw [if_neg h1, Nat.log2_def, if_pos (by omega)]
theorem bitsN_le (t : Nat) (h : t < 18446744073709551616) : bitsN t ≤ 64 := by
  unfold bitsN
  split
  · exact Nat.zero_le _
  · rename_i h0
    have := (Nat.log2_lt h0).2 (show t < 2 ^ 64 by exact h)
    omega
/-- The highest digit. -/
theorem dg_top (B : Nat) (hB : 2 ≤ B) : ∀ N : Nat, N ≠ 0 → ∃ t m : Nat, (Nt.dg B N).length = m + 1 ∧ (Nt.dg B N)[m]? = some (t : Int) ∧ 0 < t ∧ t < B ∧ t * B ^ m ≤ N ∧ N < (t + 1) * B ^ m := by
  intro N
  induction N using Nat.strongRecOn with
  | _ N ih =>
    intro h
    rw [Nt.dg_pos B N hB h]
    by_cases h0 : N / B = 0
    · have hlt : N < B := by
        rcases Nat.lt_or_ge N B with h1 | h1
        · exact h1
        · have := Nat.div_pos h1 (by omega); omega
      refine ⟨N, 0, ?_, ?_, by omega, hlt, by simp, by simp⟩
      · rw [h0, Nt.dg_zero]; rfl
      · rw [Nat.mod_eq_of_lt hlt]; rfl
    · obtain ⟨t, m, h1, h2, h3, h4, h5, h6⟩ := ih (N / B) (Nat.div_lt_self (by omega) (by omega)) h0
      refine ⟨t, m + 1, by rw [List.length_cons, h1], by rw [List.getElem?_cons_succ]; exact h2, h3, h4, ?_, ?_⟩
      · rw [Nat.pow_succ, ← Nat.mul_assoc]
        exact (Nat.le_div_iff_mul_le (by omega)).1 h5
      · rw [Nat.pow_succ, ← Nat.mul_assoc]
        exact (Nat.div_lt_iff_lt_mul (by omega)).1 h6
theorem bits_top (N t m : Nat) (h3 : 0 < t) (h5 : t * 18446744073709551616 ^ m ≤ N) (h6 : N < (t + 1) * 18446744073709551616 ^ m) : bitsN N = 64 * m + bitsN t := by
  have e : (18446744073709551616 : Nat) ^ m = 2 ^ (64 * m) := by rw [Nat.pow_mul]
  rw [e] at h5 h6
  have hN : N ≠ 0 := by
    have := Nat.mul_pos h3 (Nat.two_pow_pos (64 * m)); omega
  unfold bitsN
  rw [if_neg hN, if_neg (by omega)]
  have l1 := Nat.log2_self_le (show t ≠ 0 by omega)
  have l2 := @Nat.lt_log2_self t
  have : N.log2 = 64 * m + t.log2 := by
    rw [Nat.log2_eq_iff hN]
    constructor
    · rw [Nat.pow_add, Nat.mul_comm]
      exact Nat.le_trans (Nat.mul_le_mul_right _ l1) h5
    · rw [Nat.add_assoc, Nat.pow_add, Nat.mul_comm]
      exact Nat.lt_of_lt_of_le h6 (Nat.mul_le_mul_right _ l2)
  omega
set_option maxRecDepth 100000 in
theorem natBits_any (A : Option Addr) (n c : Nat) (l : List Int) (w : World) (h : U w A n c l) (hl : n ≤ 1000000000) (hd : Nt.Dig 18446744073709551616 l) :
    Calls Try.prog 103 #[.slice A n c] w fun e w' => e = .returned (.int .i64 (bitsN (Nt.val 18446744073709551616 l))) ∧ Below w.heap.size w w' := by
  have hlen : (Nt.dg 18446744073709551616 (Nt.val 18446744073709551616 l)).length ≤ n := Nt.dg_len _ (by decide) n _ (by have := Nt.val_lt 18446744073709551616 (by decide) l hd; rwa [h.1] at this)
  have ht := trim_any A n c l w h hl hd
  clear h hd
  generalize Nt.val 18446744073709551616 l = N at *
  have HT := Lib.hid ht
  clear ht
  by_cases h0 : N = 0
  · subst h0
    clear hlen
    go_enter Try.func103, Try.ntmps103
    go_wp2_with fail
    refine HT.out.mono ?_
    rintro e w1 ⟨A1, c1, rfl, hu, hb⟩
    rw [Nt.dg_zero] at *
    have HB := Lib.hid hb
    clear hu hb
    go_wp2
    go_ret
    exact ⟨rfl, HB.out⟩
  · obtain ⟨t, m, t1, t2, t3, t4, t5, t6⟩ := dg_top 18446744073709551616 (by decide) N h0
    have hbits := Lib.hid (bits_top N t m t3 t5 t6)
    rw [t1] at hlen
    clear t5 t6
    go_enter Try.func103, Try.ntmps103
    go_wp2_with fail
    refine HT.out.mono ?_
    rintro e w1 ⟨A1, c1, rfl, hu, hb⟩
    rw [t1] at hu ⊢
    have HB := Lib.hid hb
    obtain ⟨ad, rfl, hblk, hcell⟩ := hu.2.2.2 m t t2
    have T4 := Lib.hid t4
    clear hu hb hblk t1 t2 HT t4 h0
    have hm : m < 1000000000 := by omega
    clear hlen hl t3
    have HBI := hbits
    clear hbits
    set_option maxRecDepth 400000 in go_wp2_with fail
    go_loop [4, 5] (fun b u => ∃ (j v : Nat), v ≤ t ∧ u = .int .u64 v ∧ b = .int .i64 j ∧ j + bitsN v = 64 * m + bitsN t) (fun _ u => (intOf u).toNat)
    case atStart => exact ⟨64 * m, t, Nat.le_refl _, rfl, by go_num, rfl⟩
    case round =>
      obtain ⟨j, v, hv, rfl, rfl, hj⟩ := hrel
      have hb64 := bitsN_le t T4.out
      have hjb : j ≤ 64000000064 := by omega
      have HJ := Lib.hid hj
      have hvb : v < 18446744073709551616 := Nat.lt_of_le_of_lt hv T4.out
      have HV := Lib.hid hvb
      have HVT := Lib.hid hv
      clear hj hb64 hvb hv
      rcases Nat.eq_zero_or_pos v with h0 | h0
      · subst h0
        go_wp2
        go_ret
        refine ⟨?_, HB.out⟩
        have h1 := HJ.out
        have h2 := HBI.out
        rw [show bitsN 0 = 0 from rfl] at h1
        rw [h2, ← h1]; rfl
      · have hw : IntKind.u64.wrap ((v : Int) / 2) = ((v / 2 : Nat) : Int) := by rw [IntKind.wrap_u64]; have := HV.out; omega
        go_wp2
        go_round
        case rel =>
          have h1 := bitsN_half v h0
          have h2 := HJ.out
          exact ⟨j + 1, v / 2, Nat.le_trans (Nat.div_le_self v 2) HVT.out, by go_num, by go_num, by omega⟩
        case measure =>


          simp [intOf]; omega
end Go.Proofs.Ytclnmheplecknaa

namespace Go.Proofs.Ytclnmheplecknaa
open Go.RowKit

namespace Nt
theorem val_split (B : Nat) (l : List Int) (i : Nat) (x : Int) (h : l[i]? = some x) : val B l = val B (l.take i) + B ^ i * (x.toNat + B * val B (l.drop (i + 1))) := by
  have hi : i < l.length := (List.getElem?_eq_some_iff.1 h).1
  have hx : l[i] = x := (List.getElem?_eq_some_iff.1 h).2
  conv => lhs; rw [← List.take_append_drop i l]
  rw [val_append, List.drop_eq_getElem_cons hi, hx, List.length_take, Nat.min_eq_left (Nat.le_of_lt hi)]
  rfl
/-- Numbers of the same digits above a place stand as the digits there. -/
theorem val_lt_of (B : Nat) (hB : 2 ≤ B) (a b : List Int) (ha : Dig B a) (hb : Dig B b) (i : Nat) (x y : Int) (h1 : a[i]? = some x) (h2 : b[i]? = some y) (hd : a.drop (i + 1) = b.drop (i + 1)) (hxy : x < y) : val B a < val B b := by
  rw [val_split B a i x h1, val_split B b i y h2, hd]
  have hl : val B (a.take i) < B ^ i := by
    have := val_lt B hB (a.take i) (ha.take i)
    have hi : i < a.length := (List.getElem?_eq_some_iff.1 h1).1
    rwa [List.length_take, Nat.min_eq_left (Nat.le_of_lt hi)] at this
  have hx : 0 ≤ x := (ha x (List.mem_of_getElem? h1)).1
  have hle : x.toNat + 1 ≤ y.toNat := by omega
  generalize B * val B (b.drop (i + 1)) = q
  have h3 : B ^ i * (x.toNat + 1 + q) ≤ B ^ i * (y.toNat + q) := Nat.mul_le_mul_left _ (by omega)
  have h4 : B ^ i * (x.toNat + 1 + q) = B ^ i * (x.toNat + q) + B ^ i := by rw [show x.toNat + 1 + q = (x.toNat + q) + 1 by omega, Nat.mul_add, Nat.mul_one]
  omega
theorem dg_lt_len (B : Nat) (hB : 2 ≤ B) (N : Nat) : N < B ^ (dg B N).length := by
  have := val_lt B hB (dg B N) (dig_dg B hB N)
  rwa [val_dg B hB N] at this
theorem len_lt (B : Nat) (hB : 2 ≤ B) (N M : Nat) (h : (dg B N).length < (dg B M).length) : N < M := by
  have h1 := dg_lt_len B hB N
  have hM : M ≠ 0 := by intro h0; subst h0; rw [dg_zero] at h; simp at h
  obtain ⟨t, m, t1, t2, t3, t4, t5, t6⟩ := dg_top B hB M hM
  have h2 : B ^ (dg B N).length ≤ B ^ m := Nat.pow_le_pow_right (by omega) (by omega)
  have h3 : B ^ m ≤ t * B ^ m := Nat.le_mul_of_pos_left _ t3
  omega
end Nt
/-- -1, 0 or 1. -/
def cmpI (N M : Nat) : Int := if N < M then -1 else if N = M then 0 else 1
set_option maxRecDepth 400000 in
theorem natCmp_any (A : Option Addr) (n c : Nat) (l : List Int) (A' : Option Addr) (n' c' : Nat) (l' : List Int) (w : World) (h : U w A n c l) (hl : n ≤ 1000000000) (hd : Nt.Dig 18446744073709551616 l) (h' : U w A' n' c' l') (hl' : n' ≤ 1000000000) (hd' : Nt.Dig 18446744073709551616 l') :
    Calls Try.prog 73 #[.slice A n c, .slice A' n' c'] w fun e w' => e = .returned (.int .i64 (cmpI (Nt.val 18446744073709551616 l) (Nt.val 18446744073709551616 l'))) ∧ Below w.heap.size w w' := by
  have hlen : (Nt.dg 18446744073709551616 (Nt.val 18446744073709551616 l)).length ≤ n := Nt.dg_len _ (by decide) n _ (by have := Nt.val_lt 18446744073709551616 (by decide) l hd; rwa [h.1] at this)
  have hlen' : (Nt.dg 18446744073709551616 (Nt.val 18446744073709551616 l')).length ≤ n' := Nt.dg_len _ (by decide) n' _ (by have := Nt.val_lt 18446744073709551616 (by decide) l' hd'; rwa [h'.1] at this)
  have ht := trim_any A n c l w h hl hd
  have ht' := fun w1 (hb : Below w.heap.size w w1) => trim_any A' n' c' l' w1 (h'.below hb) hl' hd'
  clear h hd h' hd'
  generalize Nt.val 18446744073709551616 l = N at *
  generalize Nt.val 18446744073709551616 l' = M at *
  have HT := Lib.hid ht
  have HT' := Lib.hid ht'
  clear ht ht'
  have hdN := Nt.dig_dg 18446744073709551616 (by decide) N
  have hdM := Nt.dig_dg 18446744073709551616 (by decide) M
  have lt1 := Nt.len_lt 18446744073709551616 (by decide) N M
  have lt2 := Nt.len_lt 18446744073709551616 (by decide) M N
  have vN := Nt.val_dg 18446744073709551616 (by decide) N
  have vM := Nt.val_dg 18446744073709551616 (by decide) M
  have cmp1 := Nt.val_lt_of 18446744073709551616 (by decide) _ _ hdN hdM
  have cmp2 := Nt.val_lt_of 18446744073709551616 (by decide) _ _ hdM hdN
  rw [vN, vM] at cmp1
  rw [vN, vM] at cmp2
  have same : Nt.dg 18446744073709551616 N = Nt.dg 18446744073709551616 M → N = M := fun e => by rw [← vN, e, vM]
  go_enter Try.func73, Try.ntmps73
  have HH := Lib.hid (And.intro lt1 (And.intro lt2 (And.intro cmp1 (And.intro cmp2 same))))
  clear lt1 lt2 cmp1 cmp2 same vN vM hdN hdM
  go_wp2_with fail
  refine HT.out.mono ?_
  rintro e w1 ⟨A1, c1, rfl, hu, hb⟩
  have HU := Lib.hid hu
  have HB := Lib.hid hb
  clear hu hb
  go_wp2_with fail
  refine (HT'.out _ HB.out).mono ?_
  rintro e w2 ⟨A2, c2, rfl, hu, hb⟩
  have HU1 := Lib.hid (HU.out.below hb)
  have HU2 := Lib.hid hu
  have HB2 := Lib.hid (HB.out.trans (hb.mono HB.out.size))
  clear hu hb
  generalize hx : Nt.dg 18446744073709551616 N = x at *
  generalize hy : Nt.dg 18446744073709551616 M = y at *
  have HX := Lib.hid hx
  have HY := Lib.hid hy
  clear hx hy HT HT'
  obtain ⟨k, hk⟩ : ∃ k, x.length = k := ⟨_, rfl⟩
  obtain ⟨q, hq⟩ : ∃ q, y.length = q := ⟨_, rfl⟩
  have hkb : k ≤ 1000000000 := by rw [← hk]; exact Nat.le_trans hlen hl
  have hqb : q ≤ 1000000000 := by rw [← hq]; exact Nat.le_trans hlen' hl'
  rw [hk, hq] at HH
  rw [hk] at HU HU1
  rw [hq] at HU2
  clear hlen hlen' hl hl'
  rw [hk, hq]
  have HK := Lib.hid hk
  have HQ := Lib.hid hq
  clear hk hq
  rcases Nat.lt_trichotomy k q with h0 | h0 | h0
  · have hne : ¬ k = q := by omega
    go_wp2
    go_ret
    refine ⟨?_, HB2.out⟩
    have h1 := HH.out.1 h0
    unfold cmpI; rw [if_pos h1]; rfl
  · subst h0
    have hw : wrap64 ((k : Int) - 1) = (k : Int) - 1 := by unfold wrap64; omega
    go_wp2_with fail
    go_loopw [7] (fun v wr => ∃ i : Nat, i ≤ k ∧ v = .int .i64 ((i : Int) - 1) ∧ x.drop i = y.drop i ∧ Below w2.heap.size w2 wr) (fun v _ => (intOf v + 1).toNat)
    case atStart => exact ⟨k, Nat.le_refl _, rfl, by rw [List.drop_eq_nil_of_le (Nat.le_of_eq HK.out), List.drop_eq_nil_of_le (Nat.le_of_eq HQ.out)], Below.refl _ _⟩
    case round =>
      obtain ⟨i, hi, rfl, hdr, hbr⟩ := hrel
      have HDR := Lib.hid hdr
      have HBR := Lib.hid hbr
      have U1 := Lib.hid (HU1.out.below HBR.out)
      have U2 := Lib.hid (HU2.out.below HBR.out)
      clear hdr hbr
      rcases i with _ | i
      · have e : N = M := by
          refine HH.out.2.2.2.2 ?_
          have := HDR.out
          rwa [List.drop_zero, List.drop_zero] at this
        have HE := Lib.hid e
        clear e
        go_wp2
        go_ret
        refine ⟨?_, HB2.out.trans (HBR.out.mono HB2.out.size)⟩
        unfold cmpI; rw [if_neg (by have := HE.out; omega), if_pos HE.out]; rfl
      · obtain ⟨p, hp⟩ : ∃ p, x[i]? = some p := ⟨_, List.getElem?_eq_getElem (by have := HK.out; omega)⟩
        obtain ⟨r, hr⟩ : ∃ r, y[i]? = some r := ⟨_, List.getElem?_eq_getElem (by have := HQ.out; omega)⟩
        obtain ⟨ad1, rfl, _, g1⟩ := U1.out.2.2.2 i p hp
        obtain ⟨ad2, rfl, _, g2⟩ := U2.out.2.2.2 i r hr
        have HP := Lib.hid hp
        have HR := Lib.hid hr
        clear hp hr
        have hwi : wrap64 ((i : Int) - 1) = (i : Int) - 1 := by unfold wrap64; omega
        have hik : i < k := by omega
        rcases Int.lt_trichotomy p r with hpr | hpr | hpr
        · have e : N < M := HH.out.2.2.1 i p r HP.out HR.out HDR.out hpr
          have HE := Lib.hid e
          clear e
          go_wp2_with fail
          go_region
          go_wp2
          go_ret
          refine ⟨?_, (HB2.out.trans (HBR.out.mono HB2.out.size)).drew⟩
          unfold cmpI; rw [if_pos HE.out]; rfl
        · subst hpr
          have hpp : ¬ p < p := Int.lt_irrefl p
          go_wp2_with fail
          go_region
          go_wp2_with fail
          go_region
          go_wp2
          go_roundw
          case rel =>
            refine ⟨i, by omega, by go_num, ?_, HBR.out.drew.drew⟩
            have h1 := (List.getElem?_eq_some_iff.1 HP.out)
            have h2 := (List.getElem?_eq_some_iff.1 HR.out)
            rw [List.drop_eq_getElem_cons h1.1, List.drop_eq_getElem_cons h2.1, h1.2, h2.2, HDR.out]
          case measure => simp [intOf]
        · have e : M < N := HH.out.2.2.2.1 i r p HR.out HP.out HDR.out.symm hpr
          have HE := Lib.hid e
          clear e
          have hnp : ¬ p < r := by omega
          go_wp2_with fail
          go_region
          go_wp2_with fail
          go_region
          go_wp2
          go_ret
          refine ⟨?_, ((HB2.out.trans (HBR.out.mono HB2.out.size)).drew).drew⟩
          unfold cmpI; rw [if_neg (by have := HE.out; omega), if_neg (by have := HE.out; omega)]; rfl
  · have hne : ¬ k = q := by omega
    have hnl : ¬ k < q := by omega
    go_wp2
    go_ret
    refine ⟨?_, HB2.out⟩
    have h1 := HH.out.2.1 h0
    unfold cmpI; rw [if_neg (by omega), if_neg (by omega)]; rfl
end Go.Proofs.Ytclnmheplecknaa

namespace Go.Proofs.Ytclnmheplecknaa
open Go.RowKit

namespace Nt
/-- Digits to 2^64 as digits to 2^32. -/
def hv : List Int → List Int
  | [] => []
  | x :: l => x % 4294967296 :: x / 4294967296 :: hv l
theorem hv_append : ∀ l m : List Int, hv (l ++ m) = hv l ++ hv m
  | [], _ => rfl
  | x :: l, m => by simp only [List.cons_append, hv, hv_append l m]
theorem hv_len : ∀ l : List Int, (hv l).length = 2 * l.length
  | [] => rfl
  | x :: l => by simp only [hv, List.length_cons, hv_len l]; omega
theorem hv_dig : ∀ l : List Int, Dig 18446744073709551616 l → Dig 4294967296 (hv l)
  | [], _ => fun y hy => by cases hy
  | x :: l, h => fun y hy => by
    have hx := h.head
    simp only [hv] at hy
    rcases List.mem_cons.1 hy with rfl | hy
    · omega
    · rcases List.mem_cons.1 hy with rfl | hy
      · omega
      · exact hv_dig l h.tail y hy
theorem hv_val : ∀ l : List Int, Dig 18446744073709551616 l → val 4294967296 (hv l) = val 18446744073709551616 l
  | [], _ => rfl
  | x :: l, h => by
    have hx := h.head
    simp only [hv, val, hv_val l h.tail]
    generalize val 18446744073709551616 l = v
    omega
theorem hv_take (l : List Int) (i : Nat) (x : Int) (h : l[i]? = some x) : hv (l.take (i + 1)) = hv (l.take i) ++ [x % 4294967296, x / 4294967296] := by
  have hi : i < l.length := (List.getElem?_eq_some_iff.1 h).1
  have hx : l[i] = x := (List.getElem?_eq_some_iff.1 h).2
  rw [List.take_succ_eq_append_getElem hi, hv_append, hx]; rfl
theorem trimB (B : Nat) (hB : 2 ≤ B) (l : List Int) (k : Nat) (hd : Dig B l) (hz : ∀ x, x ∈ l.drop k → x = 0) (ht : k = 0 ∨ ∃ x, l[k - 1]? = some x ∧ x ≠ 0) (hk : k ≤ l.length) :
    l.take k = dg B (val B l) := by
  rw [← val_take B l k hz]
  refine dg_val B hB _ (hd.take k) ?_
  rcases ht with rfl | ⟨x, hx, h0⟩
  · exact .inl (List.take_zero)
  · right
    rcases k with _ | k
    · rw [List.take_zero]; simp
    · have hx' : l[k]? = some x := by simpa using hx
      rw [List.getLast?_eq_getElem?, List.length_take, Nat.min_eq_left hk]
      rw [List.getElem?_take, if_pos (by omega)]
      rw [show k + 1 - 1 = k by omega, hx']
      intro he; exact h0 (Option.some.inj he)
end Nt
/-- New memory: the canonical digits of N to 2^32. -/
def HPost (N : Nat) (w : World) (e : Ending) (w' : World) : Prop := ∃ A c, e = .returned (.slice A (Nt.dg 4294967296 N).length c) ∧ U w' A (Nt.dg 4294967296 N).length c (Nt.dg 4294967296 N) ∧ Below w.heap.size w w'
theorem U.take {w : World} {A : Option Addr} {n c : Nat} {l : List Int} (h : U w A n c l) (k : Nat) (hk : k ≤ n) : U w A k c (l.take k) := by
  obtain ⟨h1, h2, h3, h4⟩ := h
  refine ⟨by rw [List.length_take, Nat.min_eq_left (by omega)], by omega, h3, fun j x hj => ?_⟩
  have hj2 : j < k := by
    rcases Nat.lt_or_ge j k with h | h
    · exact h
    · rw [List.getElem?_take, if_neg (by omega)] at hj; cases hj
  rw [List.getElem?_take, if_pos hj2] at hj
  exact h4 j x hj
set_option maxRecDepth 400000 in
theorem low_any (A : Option Addr) (n c : Nat) (l : List Int) (w : World) (h : U w A n c l) (hl : n ≤ 4000000000) (hd : Nt.Dig 4294967296 l) :
    Calls Try.prog 144 #[.slice A n c] w fun e w' => e = .returned (.slice A (Nt.dg 4294967296 (Nt.val 4294967296 l)).length c) ∧ U w A (Nt.dg 4294967296 (Nt.val 4294967296 l)).length c (Nt.dg 4294967296 (Nt.val 4294967296 l)) ∧ w' = w := by
  have HU := Lib.hid h
  obtain ⟨h1, h2, h3, h4⟩ := h
  have HN := Lib.hid h1
  have H4 := Lib.hid h4
  have HD := Lib.hid hd
  have fin : ∀ k : Nat, k ≤ n → (∀ x, x ∈ l.drop k → x = 0) → (k = 0 ∨ ∃ x, l[k - 1]? = some x ∧ x ≠ 0) → (Nt.dg 4294967296 (Nt.val 4294967296 l)).length = k ∧ U w A k c (Nt.dg 4294967296 (Nt.val 4294967296 l)) := by
    intro k hk hz ht
    have ht2 := Nt.trimB 4294967296 (by decide) l k hd hz ht (by omega)
    rw [← ht2]
    exact ⟨by rw [List.length_take, Nat.min_eq_left (by omega)], HU.out.take k hk⟩
  have FIN := Lib.hid fin
  clear h4 hd h1 fin
  go_enter Try.func144, Try.ntmps144
  go_wp2_with fail
  go_loop [3] (fun v => ∃ k : Nat, k ≤ n ∧ v = .int .i64 k ∧ ∀ x, x ∈ l.drop k → x = 0) (fun v => (intOf v).toNat)
  case atStart => exact ⟨n, Nat.le_refl _, rfl, fun x hx => by rw [← HN.out, List.drop_length] at hx; cases hx⟩
  case round =>
    obtain ⟨k, hk, rfl, hz⟩ := hrel
    have HZ := Lib.hid hz
    clear hz
    rcases k with _ | k
    · have hf := FIN.out 0 hk HZ.out (.inl rfl)
      have HF := Lib.hid hf
      clear hf
      rcases A with _ | ad
      · have hc : c = 0 := h3 rfl
        subst hc
        have hn : n = 0 := by omega
        subst hn
        clear h3
        go_wp2
        go_ret
        rw [HF.out.1]
        exact ⟨rfl, HF.out.2, rfl⟩
      · clear h3
        go_wp2
        go_ret
        rw [HF.out.1]
        exact ⟨rfl, HF.out.2, rfl⟩
    · obtain ⟨x, hx⟩ : ∃ x, l[k]? = some x := ⟨_, List.getElem?_eq_getElem (by have := HN.out; omega)⟩
      obtain ⟨ad, rfl, hb, hc⟩ := H4.out k x hx
      have HX := Lib.hid hx
      clear hx h3
      by_cases h0 : x = 0
      · subst h0
        go_wp2
        go_round
        case rel => exact ⟨k, by omega, rfl, drop_zero l k HX.out HZ.out⟩
        case measure => simp [intOf]
      · have hf := FIN.out (k + 1) hk HZ.out (.inr ⟨x, by simpa using HX.out, h0⟩)
        have HF := Lib.hid hf
        clear hf
        go_wp2
        go_ret
        rw [HF.out.1]
        exact ⟨rfl, HF.out.2, rfl⟩
end Go.Proofs.Ytclnmheplecknaa

namespace Go.Proofs.Ytclnmheplecknaa
open Go.RowKit

/-- Two cells that are new, as one appends them. -/
theorem two_cells (w : World) (p q : Int) (t : TypeId) : ([Value.int .u64 p, .int .u64 q] : List Value).length = 2 * 1 ∧ (∀ j u, ([Value.int .u64 p, .int .u64 q] : List Value)[j]? = some u → (w.alloc (.cells #[Value.int .u64 p, .int .u64 q] t)).cell? ((⟨w.heap.size, 0, none⟩ : Addr).add j) = some u) ∧ (∀ u ∈ ([Value.int .u64 p, .int .u64 q] : List Value), u.oneCell' = true) := by
  refine ⟨rfl, fun j u hu => ?_, fun u hu => ?_⟩
  · rw [cell_new]
    rcases j with _ | _ | j
    · simpa using hu
    · simpa using hu
    · simp at hu
  · simp at hu
    rcases hu with rfl | rfl <;> rfl
set_option maxRecDepth 400000 in
set_option maxHeartbeats 1000000 in
theorem halves_any (A : Option Addr) (n c : Nat) (l : List Int) (w : World) (h : U w A n c l) (hl : n ≤ 1000000000) (hd : Nt.Dig 18446744073709551616 l) :
    Calls Try.prog 104 #[.slice A n c] w (HPost (Nt.val 18446744073709551616 l) w) := by
  obtain ⟨i0, hi0, hz0, hz1, hz2⟩ := info_parts u64_info
  have HU := Lib.hid h
  have HN := Lib.hid h.1
  have HD := Lib.hid hd
  have HV := Lib.hid (Nt.hv_val l hd)
  have HVD := Lib.hid (Nt.hv_dig l hd)
  clear h hd
  go_enter Try.func104, Try.ntmps104
  go_wp2_with fail
  go_loopw [3, 4] (fun v i wr => ∃ k : Nat, k ≤ n ∧ i = .int .i64 k ∧ wr.ownsRow w.heap.size 55 1 v (2 * k) ((Nt.hv (l.take k)).map (Value.int .u64)) ∧ Below w.heap.size w wr) (fun _ i _ => n - (intOf i).toNat)
  case atStart => exact ⟨0, Nat.zero_le _, rfl, by rw [List.take_zero]; exact ⟨by simp [Nt.hv], .inl ⟨rfl, rfl⟩⟩, Below.refl _ _⟩
  case round =>
    obtain ⟨k, hk, rfl, hown, hb⟩ := hrel
    have HOWN := Lib.hid hown
    have HB := Lib.hid hb
    clear hown hb
    by_cases hlt : k < n
    · obtain ⟨x, hx⟩ : ∃ x, l[k]? = some x := ⟨_, List.getElem?_eq_getElem (by have := HN.out; omega)⟩
      have hxr := HD.out x (List.mem_of_getElem? hx)
      obtain ⟨ad, rfl, hblk, hc⟩ := (HU.out.below HB.out).2.2.2 k x hx
      have HX := Lib.hid hx
      have hr1 : Int.tmod x 4294967296 = x % 4294967296 := Int.tmod_eq_emod_of_nonneg hxr.1
      have hr2 : IntKind.u64.wrap (Int.tdiv x 4294967296) = x / 4294967296 := by rw [IntKind.wrap_u64, Int.tdiv_eq_ediv_of_nonneg hxr.1]; omega
      have HXR := Lib.hid hxr
      clear hx hblk hxr
      obtain ⟨v3, hv3⟩ : ∃ v3, v3 = u3 := ⟨_, rfl⟩
      have own2 : (wr.drew.alloc (.cells #[.int .u64 (x % 4294967296), .int .u64 (x / 4294967296)] 55)).ownsRow w.heap.size 55 1 u3 (2 * k) ((Nt.hv (l.take k)).map (Value.int .u64)) := HOWN.out.drew.alloc _
      have cells2 := two_cells wr.drew (x % 4294967296) (x / 4294967296) 55
      have size2 : w.heap.size ≤ (wr.drew.alloc (.cells #[.int .u64 (x % 4294967296), .int .u64 (x / 4294967296)] 55)).heap.size := Nat.le_trans HB.out.size (Nat.le_of_lt (alloc_lt wr.drew _))
      have OWN2 := Lib.hid own2
      have CELLS2 := Lib.hid cells2
      have SIZE2 := Lib.hid size2
      have h63 : 2 * k + 2 ≤ maxLen := by simp only [maxLen]; omega
      have H63 := Lib.hid h63
      clear own2 cells2 size2 h63 hv3
      go_wp2_with fail
      go_region_law (refine step_append_lies (wr.drew.alloc (.cells #[.int .u64 (x % 4294967296), .int .u64 (x / 4294967296)] 55)) rfl (.tmp 11) (.tmp 22) _ rfl w.heap.size 55 i0 _ 1 8 Try.underlying22 hi0 hz0 hz1 hz2 rfl (Nat.le_refl 1) u3 (2 * k) ((Nt.hv (l.take k)).map (Value.int .u64)) rfl OWN2.out ⟨wr.heap.size, 0, none⟩ 2 2 [Value.int .u64 (x % 4294967296), .int .u64 (x / 4294967296)] rfl CELLS2.out.1 CELLS2.out.2.1 CELLS2.out.2.2 (Nat.le_succ 1) H63.out (by omega) SIZE2.out _ rfl ?_; intro g cap w1 hown1 hg1 hor hgl)
      all_goals
        have hown3 : w1.ownsRow w.heap.size 55 1 (.slice (some ⟨g, 0, none⟩) (2 * (k + 1)) cap) (2 * (k + 1)) ((Nt.hv (l.take (k + 1))).map (Value.int .u64)) := by
          rw [Nt.hv_take l k x HX.out, List.map_append]
          exact hown1
        have hb3 : Below w.heap.size w w1 := ((HB.out.drew).alloc HB.out.size _).grown hg1 SIZE2.out (fun b hb => (OWN2.out.lt b hb).1)
        have HOWN3 := Lib.hid hown3
        have HB3 := Lib.hid hb3
        clear hown3 hb3 hown1 hg1 hor hgl
        go_frame
        go_wp2
        go_roundw
        case rel => exact ⟨k + 1, by omega, by go_num, HOWN3.out, HB3.out⟩
        case measure => simp [intOf]; omega
    · have hkn : k = n := by omega
      subst hkn
      have hown := HOWN.out
      rw [List.take_of_length_le (Nat.le_of_eq HN.out)] at hown
      obtain ⟨A', c', hv3, hu3⟩ := U.of_own hown
      have HU3 := Lib.hid hu3
      clear hu3 hown HOWN
      subst hv3
      go_wp2_with fail
      refine (low_any A' (2 * k) c' (Nt.hv l) _ HU3.out (by omega) HVD.out).mono ?_
      rintro e w4 ⟨rfl, hu4, rfl⟩
      rw [HV.out] at hu4 ⊢
      have HU4 := Lib.hid hu4
      clear hu4
      go_wp2
      go_ret
      exact ⟨A', c', rfl, HU4.out, HB.out⟩
end Go.Proofs.Ytclnmheplecknaa

namespace Go.Proofs.Ytclnmheplecknaa
open Go.RowKit

namespace Nt
/-- Digits to 2^32 as digits to 2^64. -/
def lm : List Int → List Int
  | [] => []
  | [x] => [x]
  | x :: y :: l => (x + 4294967296 * y) :: lm l
theorem lm_dig : ∀ l : List Int, Dig 4294967296 l → Dig 18446744073709551616 (lm l)
  | [], _ => fun y hy => by cases hy
  | [x], h => fun y hy => by
    have hx := h.head
    simp only [lm] at hy
    rcases List.mem_cons.1 hy with rfl | hy
    · omega
    · cases hy
  | x :: z :: l, h => fun y hy => by
    have hx := h.head
    have hz := h.tail.head
    simp only [lm] at hy
    rcases List.mem_cons.1 hy with rfl | hy
    · omega
    · exact lm_dig l h.tail.tail y hy
theorem lm_val : ∀ l : List Int, Dig 4294967296 l → val 18446744073709551616 (lm l) = val 4294967296 l
  | [], _ => rfl
  | [x], h => by simp [lm, val]
  | x :: y :: l, h => by
    have hx := h.head
    have hy := h.tail.head
    simp only [lm, val, lm_val l h.tail.tail]
    generalize val 4294967296 l = v
    omega
theorem lm_take : ∀ (j : Nat) (l : List Int) (h : 2 * j < l.length), lm (l.take (2 * (j + 1))) = lm (l.take (2 * j)) ++ [l[2 * j] + 4294967296 * (l[2 * j + 1]?.getD 0)]
  | 0, [], h => absurd h (by simp)
  | 0, [x], h => by simp [lm]
  | 0, x :: y :: l, h => by simp [lm]
  | j + 1, [], h => absurd h (by simp)
  | j + 1, [x], h => absurd h (by simp)
  | j + 1, x :: y :: l, h => by
    have hl : 2 * j < l.length := by simp at h; omega
    have ih := lm_take j l hl
    change lm (x :: y :: l.take (2 * (j + 1))) = lm (x :: y :: l.take (2 * j)) ++ [l[2 * j] + 4294967296 * (l[2 * j + 1]?.getD 0)]
    simp only [lm, List.cons_append, ih]
end Nt
set_option maxRecDepth 400000 in
theorem digit_yes (A : Option Addr) (n c : Nat) (l : List Int) (w : World) (i : Nat) (x : Int) (h : U w A n c l) (hl : n ≤ 4000000000) (hx : l[i]? = some x) : Calls Try.prog 106 #[.slice A n c, .int .i64 i] w fun e w' => e = .returned (.int .u64 x) ∧ w = w' := by
  have hi : i < n := by rw [← h.1]; exact (List.getElem?_eq_some_iff.1 hx).1
  obtain ⟨ad, rfl, _, hc⟩ := h.2.2.2 i x hx
  clear h hx
  go_enter Try.func106, Try.ntmps106
  go_wp2
  go_ret
  exact ⟨rfl, rfl⟩
set_option maxRecDepth 400000 in
theorem digit_no (A : Option Addr) (n c : Nat) (w : World) (i : Nat) (hi : n ≤ i) (hb : i < 4000000000) : Calls Try.prog 106 #[.slice A n c, .int .i64 i] w fun e w' => e = .returned (.int .u64 0) ∧ w = w' := by
  have hi2 : ¬ i < n := by omega
  go_enter Try.func106, Try.ntmps106
  go_wp2
  go_ret
  exact ⟨rfl, rfl⟩
theorem one_cell (w : World) (p : Int) (t : TypeId) : ([Value.int .u64 p] : List Value).length = 1 * 1 ∧ (∀ j u, ([Value.int .u64 p] : List Value)[j]? = some u → (w.alloc (.cells #[Value.int .u64 p] t)).cell? ((⟨w.heap.size, 0, none⟩ : Addr).add j) = some u) ∧ (∀ u ∈ ([Value.int .u64 p] : List Value), u.oneCell' = true) := by
  refine ⟨rfl, fun j u hu => ?_, fun u hu => ?_⟩
  · rw [cell_new]
    rcases j with _ | j
    · simpa using hu
    · simp at hu
  · simp at hu
    subst hu; rfl
set_option maxRecDepth 400000 in
set_option maxHeartbeats 1000000 in
theorem limbs_any (A : Option Addr) (n c : Nat) (l : List Int) (w : World) (h : U w A n c l) (hl : n ≤ 1000000000) (hd : Nt.Dig 4294967296 l) :
    Calls Try.prog 105 #[.slice A n c] w (NatPost (Nt.val 4294967296 l) w) := by
  obtain ⟨i0, hi0, hz0, hz1, hz2⟩ := info_parts u64_info
  have HU := Lib.hid h
  have HN := Lib.hid h.1
  have HD := Lib.hid hd
  have HV := Lib.hid (Nt.lm_val l hd)
  have HVD := Lib.hid (Nt.lm_dig l hd)
  clear h hd
  go_enter Try.func105, Try.ntmps105
  go_wp2_with fail
  go_loopw [3, 4] (fun v i wr => ∃ j : Nat, 2 * j ≤ n + 1 ∧ i = .int .i64 ((2 * j : Nat) : Int) ∧ wr.ownsRow w.heap.size 55 1 v j ((Nt.lm (l.take (2 * j))).map (Value.int .u64)) ∧ Below w.heap.size w wr) (fun _ i _ => n + 1 - (intOf i).toNat)
  case atStart => exact ⟨0, Nat.zero_le _, rfl, by rw [List.take_zero]; exact ⟨by simp [Nt.lm], .inl ⟨rfl, rfl⟩⟩, Below.refl _ _⟩
  case round =>
    obtain ⟨j, hj, rfl, hown, hb⟩ := hrel
    have HOWN := Lib.hid hown
    have HB := Lib.hid hb
    clear hown hb
    have hlow : ∀ z v : Int, 0 ≤ z → z < 4294967296 → 0 ≤ v → v < 4294967296 → IntKind.u64.wrap (4294967296 * z) = 4294967296 * z ∧ IntKind.u64.wrap (v + 4294967296 * z) = v + 4294967296 * z := fun z v h1 h2 h3 h4 => by rw [IntKind.wrap_u64, IntKind.wrap_u64]; omega
    have HLOW := Lib.hid hlow
    clear hlow
    have step : ∀ (hlt : 2 * j < n) (q : Int), q = l[2 * j]'(by have := HN.out; omega) + 4294967296 * (l[2 * j + 1]?.getD 0) → ∀ (w0 : World) (v1 : Value) (w1 : World), w0 = wr.alloc (.cells #[.int .u64 q] 55) → w1.ownsRow w.heap.size 55 1 v1 (j + 1) ((Nt.lm (l.take (2 * j))).map (Value.int .u64) ++ [.int .u64 q]) → w0.grownBy w1 u3.ownBlock → w1.ownsRow w.heap.size 55 1 v1 (j + 1) ((Nt.lm (l.take (2 * (j + 1)))).map (Value.int .u64)) ∧ Below w.heap.size w w1 := by
      intro hlt q hq w0 v1 w1 hw0 hown1 hg1
      constructor
      · rw [Nt.lm_take j l (by have := HN.out; omega), List.map_append, ← hq]; exact hown1
      · subst hw0
        exact ((HB.out).alloc HB.out.size _).grown hg1 (Nat.le_trans HB.out.size (Nat.le_of_lt (alloc_lt _ _))) (fun b hb => (HOWN.out.lt b hb).1)
    have STEP := Lib.hid step
    clear step
    by_cases hlt : 2 * j < n
    · obtain ⟨x, hx⟩ : ∃ x, l[2 * j]? = some x := ⟨_, List.getElem?_eq_getElem (by have := HN.out; omega)⟩
      have hxr := HD.out x (List.mem_of_getElem? hx)
      obtain ⟨ad, rfl, hblk, hc⟩ := (HU.out.below HB.out).2.2.2 (2 * j) x hx
      have hxe : l[2 * j]'(by have := HN.out; omega) = x := (List.getElem?_eq_some_iff.1 hx).2
      have HXE := Lib.hid hxe
      have HXR := Lib.hid hxr
      clear hx hblk hxe hxr
      by_cases hodd : 2 * j + 1 < n
      · obtain ⟨z, hz⟩ : ∃ z, l[2 * j + 1]? = some z := ⟨_, List.getElem?_eq_getElem (by have := HN.out; omega)⟩
        have hzr := HD.out z (List.mem_of_getElem? hz)
        obtain ⟨ad', e, hblk, hc2⟩ := (HU.out.below HB.out).2.2.2 (2 * j + 1) z hz
        obtain rfl : ad = ad' := Option.some.inj e
        have hc3 : wr.cell? ⟨ad.block, ad.off + (2 * j + 1), none⟩ = some (.int .u64 z) := by
          have h0 := hc2; unfold Addr.add at h0; rw [if_neg (by omega)] at h0; exact h0
        have HZ := Lib.hid hz
        obtain ⟨hw1, hw2⟩ := HLOW.out z x (by have := hzr.1; exact this) (by have := hzr.2; exact this) (by have := HXR.out.1; exact this) (by have := HXR.out.2; exact this)
        have OWN2 := Lib.hid (HOWN.out.alloc (.cells #[.int .u64 (x + 4294967296 * z)] 55))
        have CELLS2 := Lib.hid (one_cell wr (x + 4294967296 * z) 55)
        have SIZE2 := Lib.hid (Nat.le_trans HB.out.size (Nat.le_of_lt (alloc_lt wr (.cells #[.int .u64 (x + 4294967296 * z)] 55))))
        have H63 := Lib.hid (show j + 1 ≤ maxLen by simp only [maxLen]; omega)
        clear hz hblk e hzr
        go_wp2_with (at_builtin; refine wpList_append_own _ rfl (.tmp 29) (.tmp 31) _ rfl w.heap.size 55 i0 _ 1 8 Try.underlying22 hi0 hz0 hz1 hz2 rfl (Nat.le_refl 1) u3 j ((Nt.lm (l.take (2 * j))).map (Value.int .u64)) rfl OWN2.out ⟨wr.heap.size, 0, none⟩ 1 1 [Value.int .u64 (x + 4294967296 * z)] rfl CELLS2.out.1 CELLS2.out.2.1 CELLS2.out.2.2 H63.out (by omega) SIZE2.out ?_; intro v1 w1 hown1 hg1 _)
        have hs := STEP.out hlt _ (by rw [HXE.out, HZ.out]; rfl) _ v1 w1 rfl hown1 hg1
        have HS := Lib.hid hs
        clear hs hown1 hg1
        go_roundw
        case rel => exact ⟨j + 1, by omega, by go_num, HS.out.1, HS.out.2⟩
        case measure => simp [intOf]; omega
      · have hz : l[2 * j + 1]? = none := List.getElem?_eq_none (by have := HN.out; omega)
        have HZ := Lib.hid hz
        have OWN2 := Lib.hid (HOWN.out.alloc (.cells #[.int .u64 x] 55))
        have CELLS2 := Lib.hid (one_cell wr x 55)
        have SIZE2 := Lib.hid (Nat.le_trans HB.out.size (Nat.le_of_lt (alloc_lt wr (.cells #[.int .u64 x] 55))))
        have H63 := Lib.hid (show j + 1 ≤ maxLen by simp only [maxLen]; omega)
        clear hz
        go_wp2_with (at_builtin; refine wpList_append_own _ rfl (.tmp 29) (.tmp 31) _ rfl w.heap.size 55 i0 _ 1 8 Try.underlying22 hi0 hz0 hz1 hz2 rfl (Nat.le_refl 1) u3 j ((Nt.lm (l.take (2 * j))).map (Value.int .u64)) rfl OWN2.out ⟨wr.heap.size, 0, none⟩ 1 1 [Value.int .u64 x] rfl CELLS2.out.1 CELLS2.out.2.1 CELLS2.out.2.2 H63.out (by omega) SIZE2.out ?_; intro v1 w1 hown1 hg1 _)
        have hs := STEP.out hlt x (by rw [HXE.out, HZ.out]; simp) _ v1 w1 rfl hown1 hg1
        have HS := Lib.hid hs
        clear hs hown1 hg1
        go_roundw
        case rel => exact ⟨j + 1, by omega, by go_num, HS.out.1, HS.out.2⟩
        case measure => simp [intOf]; omega
    · have hown := HOWN.out
      rw [List.take_of_length_le (by have := HN.out; omega)] at hown
      obtain ⟨A', c', hv3, hu3⟩ := U.of_own hown
      have HU3 := Lib.hid hu3
      clear hu3 hown HOWN STEP
      subst hv3
      go_wp2_with fail
      refine (trim_any A' j c' (Nt.lm l) _ HU3.out (by omega) HVD.out).mono ?_
      rintro e w4 ⟨A4, c4, rfl, hu4, hb4⟩
      rw [HV.out] at hu4 ⊢
      have HU4 := Lib.hid hu4
      have HB4 := Lib.hid (HB.out.trans (hb4.mono HB.out.size))
      clear hu4 hb4
      go_wp2
      go_ret
      exact ⟨A4, c4, rfl, HU4.out, HB4.out⟩
end Go.Proofs.Ytclnmheplecknaa

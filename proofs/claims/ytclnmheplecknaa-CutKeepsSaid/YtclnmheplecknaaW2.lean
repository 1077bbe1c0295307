/-
  Walks: product, NatMul.
  Walk: NatUp.
  Walk: NatAdd.
  Walk: NatSub.
-/
import Derived.Test.YtclnmheplecknaaW1
import Derived.Deep.QuietTactic
import Derived.BigQuiet
import Derived.IntWalk
import Derived.OwnWalk
set_option linter.unusedVariables false
set_option linter.unusedSimpArgs false
namespace Go.Proofs.Ytclnmheplecknaa
open Go.RowKit

theorem digit_any (A : Option Addr) (n c : Nat) (l : List Int) (w : World) (i : Nat) (h : U w A n c l) (hl : n ≤ 4000000000) (hb : i < 4000000000) : Calls Try.prog 106 #[.slice A n c, .int .i64 i] w fun e w' => e = .returned (.int .u64 (l[i]?.getD 0)) ∧ w = w' := by
  cases hx : l[i]? with
  | some x => exact digit_yes A n c l w i x h hl hx
  | none =>
    have : n ≤ i := by rw [← h.1]; exact List.getElem?_eq_none_iff.1 hx
    exact digit_no A n c w i this hb
namespace Nt
theorem sq_pow (n : Nat) : (18446744073709551616 : Nat) ^ n = 4294967296 ^ (2 * n) := by rw [Nat.pow_mul]
/-- One digit more. -/
theorem val_take_succ (B : Nat) (l : List Int) (i : Nat) (hd : Dig B l) : val B (l.take (i + 1)) = val B (l.take i) + B ^ i * (l[i]?.getD 0).toNat := by
  by_cases hi : i < l.length
  · rw [List.take_succ_eq_append_getElem hi, val_append, List.length_take, Nat.min_eq_left (Nat.le_of_lt hi), List.getElem?_eq_getElem hi]
    simp [val]
  · rw [List.getElem?_eq_none (by omega), List.take_of_length_le (by omega), List.take_of_length_le (by omega)]; simp
theorem dig_get {B : Nat} {l : List Int} (hB : 0 < B) (hd : Dig B l) (i : Nat) : 0 ≤ l[i]?.getD 0 ∧ l[i]?.getD 0 < (B : Int) := by
  cases hx : l[i]? with
  | some x => exact hd x (List.mem_of_getElem? hx)
  | none => exact ⟨Int.le_refl _, by simpa using hB⟩
theorem val_snoc (B : Nat) (o : List Int) (x : Int) : val B (o ++ [x]) = val B o + B ^ o.length * x.toNat := by
  rw [val_append]; simp [val]
theorem add_step (x y o : List Int) (i cy : Nat) (S : Int) (hdx : Dig 4294967296 x) (hdy : Dig 4294967296 y) (hS : S = x[i]?.getD 0 + y[i]?.getD 0 + cy) (hol : o.length = i)
    (hval : val 4294967296 o + 4294967296 ^ i * cy = val 4294967296 (x.take i) + val 4294967296 (y.take i)) :
    val 4294967296 (o ++ [S % 4294967296]) + 4294967296 ^ (i + 1) * (S / 4294967296).toNat = val 4294967296 (x.take (i + 1)) + val 4294967296 (y.take (i + 1)) := by
  have h1 := dig_get (by decide) hdx i
  have h2 := dig_get (by decide) hdy i
  rw [val_snoc, val_take_succ _ x i hdx, val_take_succ _ y i hdy, hol, Nat.pow_succ]
  generalize x[i]?.getD 0 = a at *
  generalize y[i]?.getD 0 = b at *
  have h3 : (S % 4294967296).toNat + 4294967296 * (S / 4294967296).toNat = a.toNat + b.toNat + cy := by omega
  generalize (S % 4294967296).toNat = r at *
  generalize (S / 4294967296).toNat = q at *
  generalize a.toNat = a' at *
  generalize b.toNat = b' at *
  generalize (4294967296 : Nat) ^ i = P at *
  have h4 : P * (r + 4294967296 * q) = P * (a' + b' + cy) := by rw [h3]
  rw [Nat.mul_add, Nat.mul_add, Nat.mul_add] at h4
  rw [Nat.mul_assoc]
  omega
end Nt
set_option maxRecDepth 400000 in
set_option maxHeartbeats 2000000 in
theorem natAdd_any (A : Option Addr) (n c : Nat) (l : List Int) (A' : Option Addr) (n' c' : Nat) (l' : List Int) (w : World) (h : U w A n c l) (hl : n ≤ 100000000) (hd : Nt.Dig 18446744073709551616 l) (h' : U w A' n' c' l') (hl' : n' ≤ 100000000) (hd' : Nt.Dig 18446744073709551616 l') :
    Calls Try.prog 72 #[.slice A n c, .slice A' n' c'] w (NatPost (Nt.val 18446744073709551616 l + Nt.val 18446744073709551616 l') w) := by
  obtain ⟨i0, hi0, hz0, hz1, hz2⟩ := info_parts u64_info
  have len1 : (Nt.dg 4294967296 (Nt.val 18446744073709551616 l)).length ≤ 2 * n := Nt.dg_len _ (by decide) _ _ (by have h9 := Nt.val_lt 18446744073709551616 (by decide) l hd; rw [h.1] at h9; rwa [Nt.sq_pow] at h9)
  have len2 : (Nt.dg 4294967296 (Nt.val 18446744073709551616 l')).length ≤ 2 * n' := Nt.dg_len _ (by decide) _ _ (by have h9 := Nt.val_lt 18446744073709551616 (by decide) l' hd'; rw [h'.1] at h9; rwa [Nt.sq_pow] at h9)
  have hv1 := halves_any A n c l w h (by omega) hd
  have hv2 := fun w1 (hb : Below w.heap.size w w1) => halves_any A' n' c' l' w1 (h'.below hb) (by omega) hd'
  clear h h' hd hd'
  generalize Nt.val 18446744073709551616 l = N at *
  generalize Nt.val 18446744073709551616 l' = M at *
  have HV1 := Lib.hid hv1
  have HV2 := Lib.hid hv2
  clear hv1 hv2
  go_enter Try.func72, Try.ntmps72
  go_wp2_with fail
  refine HV1.out.mono ?_
  rintro e w1 ⟨A1, c1, rfl, hu, hb⟩
  have HU := Lib.hid hu
  have HB := Lib.hid hb
  clear hu hb
  go_wp2_with fail
  refine (HV2.out _ HB.out).mono ?_
  rintro e w2 ⟨A2, c2, rfl, hu, hb⟩
  have HU1 := Lib.hid (HU.out.below hb)
  have HU2 := Lib.hid hu
  have HB2 := Lib.hid (HB.out.trans (hb.mono HB.out.size))
  clear hu hb HU HV1 HV2
  have HDX := Lib.hid (Nt.dig_dg 4294967296 (by decide) N)
  have HDY := Lib.hid (Nt.dig_dg 4294967296 (by decide) M)
  have HVX := Lib.hid (Nt.val_dg 4294967296 (by decide) N)
  have HVY := Lib.hid (Nt.val_dg 4294967296 (by decide) M)
  generalize Nt.dg 4294967296 N = x at *
  generalize Nt.dg 4294967296 M = y at *
  obtain ⟨p, hp⟩ : ∃ p, x.length = p := ⟨_, rfl⟩
  obtain ⟨q, hq⟩ : ∃ q, y.length = q := ⟨_, rfl⟩
  rw [hp, hq]
  rw [hp] at len1 HU1
  rw [hq] at len2 HU2
  have HP := Lib.hid hp
  have HQ := Lib.hid hq
  clear hp hq
  obtain ⟨m, hm⟩ : ∃ m, m = max p q := ⟨_, rfl⟩
  have hpm : p ≤ m := by omega
  have hqm : q ≤ m := by omega
  have hmb : m ≤ 200000000 := by omega
  clear hm len1 len2
  go_wp2_with fail
  go_loopw [7, 8, 9] (fun v u t wr => ∃ (i cy : Nat) (o : List Int), t = .int .i64 i ∧ u = .int .u64 cy ∧ cy ≤ 1 ∧ (i ≤ m ∨ (i = m + 1 ∧ cy = 0)) ∧ o.length = i ∧ wr.ownsRow w2.heap.size 55 1 v i (o.map (Value.int .u64)) ∧ Nt.Dig 4294967296 o ∧ Nt.val 4294967296 o + 4294967296 ^ i * cy = Nt.val 4294967296 (x.take i) + Nt.val 4294967296 (y.take i) ∧ Below w2.heap.size w2 wr) (fun _ _ t _ => m + 2 - (intOf t).toNat)
  case atStart => exact ⟨0, 0, [], rfl, rfl, by omega, .inl (Nat.zero_le _), rfl, ⟨by simp, .inl ⟨rfl, rfl⟩⟩, (fun z hz => by cases hz), by simp [Nt.val], Below.refl _ _⟩
  case round =>
    obtain ⟨i, cy, o, rfl, rfl, hcy, him, hol, hown, hdo, hval, hb2⟩ := hrel
    have HOL := Lib.hid hol
    have HOWN := Lib.hid hown
    have HDO := Lib.hid hdo
    have HVAL := Lib.hid hval
    have HBB := Lib.hid hb2
    clear hol hown hdo hval hb2
    rcases (show (i < p) ∨ (¬ i < p ∧ i < q) ∨ (¬ i < p ∧ ¬ i < q ∧ 0 < cy) ∨ (¬ i < p ∧ ¬ i < q ∧ cy = 0) from by omega) with k1 | ⟨k1, k2⟩ | ⟨k1, k2, k3⟩ | ⟨k1, k2, k3⟩
    iterate 3
      · have him2 : i ≤ m := by omega
        have r1 := Nt.dig_get (by decide) HDX.out i
        have r2 := Nt.dig_get (by decide) HDY.out i
        have HI1 := Lib.hid (HU1.out.below HBB.out)
        have HI2 := Lib.hid (HU2.out.below HBB.out)
        have hst := fun S hS => Nt.add_step x y o i cy S HDX.out HDY.out hS HOL.out HVAL.out
        have hd1 := digit_any A1 p c1 x wr i HI1.out (by omega) (by omega)
        have hd2 := digit_any A2 q c2 y wr i HI2.out (by omega) (by omega)
        have hz : i = m → x[i]?.getD 0 = 0 ∧ y[i]?.getD 0 = 0 := fun e => by
          rw [List.getElem?_eq_none (by have := HP.out; omega), List.getElem?_eq_none (by have := HQ.out; omega)]; exact ⟨rfl, rfl⟩
        generalize x[i]?.getD 0 = a at *
        generalize y[i]?.getD 0 = b at *
        have HZ := Lib.hid hz
        clear hz
        have hs1 : IntKind.u64.wrap (a + b) = a + b := by rw [IntKind.wrap_u64]; omega
        obtain ⟨S, hS⟩ : ∃ S : Int, S = a + b + (cy : Int) := ⟨_, rfl⟩
        have hs2 : IntKind.u64.wrap (a + b + (cy : Int)) = S := by rw [IntKind.wrap_u64]; omega
        have hst1 := hst S hS
        have hSb : 0 ≤ S ∧ S < 8589934592 := by omega
        have hr1 : Int.tmod S 4294967296 = S % 4294967296 := Int.tmod_eq_emod_of_nonneg hSb.1
        have hr2 : IntKind.u64.wrap (Int.tdiv S 4294967296) = S / 4294967296 := by rw [IntKind.wrap_u64, Int.tdiv_eq_ediv_of_nonneg hSb.1]; omega
        have HS := Lib.hid hS
        have HST := Lib.hid hst1
        have HSB := Lib.hid hSb
        have HD1 := Lib.hid hd1
        have HD2 := Lib.hid hd2
        have OWN2 := Lib.hid (HOWN.out.alloc (.cells #[.int .u64 (S % 4294967296)] 55))
        have CELLS2 := Lib.hid (one_cell wr (S % 4294967296) 55)
        have SIZE2 := Lib.hid (Nat.le_trans HBB.out.size (Nat.le_of_lt (alloc_lt wr (.cells #[.int .u64 (S % 4294967296)] 55))))
        have H63 := Lib.hid (show i + 1 ≤ maxLen by simp only [maxLen]; omega)
        clear hst hst1 hSb hd1 hd2 hS r1 r2
        go_wp2_with fail
        refine HD1.out.mono ?_
        rintro e w' ⟨rfl, rfl⟩
        go_wp2_with fail
        refine HD2.out.mono ?_
        rintro e w' ⟨rfl, rfl⟩
        go_wp2_with (at_builtin; refine wpList_append_own _ rfl (.tmp 40) (.tmp 43) _ rfl w2.heap.size 55 i0 _ 1 8 Try.underlying22 hi0 hz0 hz1 hz2 rfl (Nat.le_refl 1) u7 i (o.map (Value.int .u64)) rfl OWN2.out ⟨wr.heap.size, 0, none⟩ 1 1 [Value.int .u64 (S % 4294967296)] rfl CELLS2.out.1 CELLS2.out.2.1 CELLS2.out.2.2 H63.out (by omega) SIZE2.out ?_; intro v1 w4 hown1 hg1 _)
        have own3 : w4.ownsRow w2.heap.size 55 1 v1 (i + 1) ((o ++ [S % 4294967296]).map (Value.int .u64)) := by rw [List.map_append]; exact hown1
        have hdo3 : Nt.Dig 4294967296 (o ++ [S % 4294967296]) := HDO.out.append (Nt.Dig.one (by omega) (by omega))
        have hbb3 : Below w2.heap.size w2 w4 := ((HBB.out).alloc HBB.out.size _).grown hg1 (Nat.le_trans HBB.out.size (Nat.le_of_lt (alloc_lt wr _))) (fun b hb => (OWN2.out.lt b hb).1)
        have OWN3 := Lib.hid own3
        have DO3 := Lib.hid hdo3
        have BB3 := Lib.hid hbb3
        clear own3 hdo3 hbb3 hown1 hg1
        go_wp2
        go_roundw
        case rel => exact ⟨i + 1, (S / 4294967296).toNat, o ++ [S % 4294967296], by go_num, by have := HSB.out; rw [Int.toNat_of_nonneg (by omega)], by have := HSB.out; omega, (by
            have g1 := HSB.out; have g2 := HS.out
            rcases Nat.lt_or_ge i m with g3 | g3
            · exact .inl g3
            · obtain ⟨g4, g5⟩ := HZ.out (by omega)
              right; constructor <;> omega), by rw [List.length_append, HOL.out]; rfl, OWN3.out, DO3.out, HST.out, BB3.out⟩
        case measure => simp [intOf]; omega
    · subst k3
      have hv : Nt.val 4294967296 o = N + M := by
        have h9 := HVAL.out
        rw [List.take_of_length_le (by have := HP.out; omega), List.take_of_length_le (by have := HQ.out; omega), HVX.out, HVY.out] at h9
        omega
      obtain ⟨A', c', hv3, hu3⟩ := U.of_own HOWN.out
      have HU3 := Lib.hid hu3
      have HV3 := Lib.hid hv
      clear hu3 hv HOWN
      subst hv3
      go_wp2_with fail
      refine (limbs_any A' i c' o _ HU3.out (by omega) HDO.out).mono ?_
      rintro e w4 ⟨A4, c4, rfl, hu4, hb4⟩
      rw [HV3.out] at hu4 ⊢
      have HU4 := Lib.hid hu4
      have HB4 := Lib.hid (HB2.out.trans ((HBB.out.trans (hb4.mono HBB.out.size)).mono HB2.out.size))
      clear hu4 hb4
      go_wp2
      go_ret
      exact ⟨A4, c4, rfl, HU4.out, HB4.out⟩
end Go.Proofs.Ytclnmheplecknaa

namespace Go.Proofs.Ytclnmheplecknaa
open Go.RowKit

namespace Nt
theorem sub_step (x y o : List Int) (i b : Nat) (S : Int) (hdx : Dig 4294967296 x) (hdy : Dig 4294967296 y) (hb : b ≤ 1) (hS : S = 4294967296 + x[i]?.getD 0 - y[i]?.getD 0 - b) (hol : o.length = i)
    (hval : val 4294967296 o + val 4294967296 (y.take i) = val 4294967296 (x.take i) + 4294967296 ^ i * b) :
    val 4294967296 (o ++ [S % 4294967296]) + val 4294967296 (y.take (i + 1)) = val 4294967296 (x.take (i + 1)) + 4294967296 ^ (i + 1) * (1 - S / 4294967296).toNat := by
  have h1 := dig_get (by decide) hdx i
  have h2 := dig_get (by decide) hdy i
  rw [val_snoc, val_take_succ _ x i hdx, val_take_succ _ y i hdy, hol, Nat.pow_succ]
  generalize x[i]?.getD 0 = a at *
  generalize y[i]?.getD 0 = c at *
  have h3 : (S % 4294967296).toNat + c.toNat + b = a.toNat + 4294967296 * (1 - S / 4294967296).toNat := by omega
  generalize (S % 4294967296).toNat = r at *
  generalize (1 - S / 4294967296).toNat = q at *
  generalize a.toNat = a' at *
  generalize c.toNat = c' at *
  generalize (4294967296 : Nat) ^ i = P at *
  have h4 : P * (r + c' + b) = P * (a' + 4294967296 * q) := by rw [h3]
  rw [Nat.mul_add, Nat.mul_add, Nat.mul_add] at h4
  rw [Nat.mul_assoc]
  omega
theorem sub_end (x y o : List Int) (p b N M : Nat) (hx : x = dg 4294967296 N) (hy : y = dg 4294967296 M) (hMN : M ≤ N) (hp : x.length = p) (hol : o.length = p) (hdo : Dig 4294967296 o)
    (hval : val 4294967296 o + val 4294967296 (y.take p) = val 4294967296 (x.take p) + 4294967296 ^ p * b) : val 4294967296 o = N - M := by
  have hN : N < 4294967296 ^ p := by
    have := val_lt 4294967296 (by decide) x (by rw [hx]; exact dig_dg _ (by decide) N)
    rw [hp, hx, val_dg _ (by decide)] at this; exact this
  have hyl : y.length ≤ p := by rw [hy]; exact dg_len _ (by decide) p M (by omega)
  rw [List.take_of_length_le hyl, List.take_of_length_le (by omega), hx, hy, val_dg _ (by decide), val_dg _ (by decide)] at hval
  have ho := val_lt 4294967296 (by decide) o hdo
  rw [hol] at ho
  generalize (4294967296 : Nat) ^ p = P at *
  rcases b with _ | b
  · rw [Nat.mul_zero] at hval; omega
  · rw [Nat.mul_add, Nat.mul_one] at hval; omega
end Nt
theorem ownsRow_drewN {w : World} {base : Nat} {e : TypeId} {size : Nat} {v : Value} {n : Nat} {xs : List Value} (h : w.ownsRow base e size v n xs) (nq : Nat) : (w.drewN nq).ownsRow base e size v n xs := h
set_option maxRecDepth 400000 in
set_option maxHeartbeats 2000000 in
theorem natSub_any (A : Option Addr) (n c : Nat) (l : List Int) (A' : Option Addr) (n' c' : Nat) (l' : List Int) (w : World) (h : U w A n c l) (hl : n ≤ 100000000) (hd : Nt.Dig 18446744073709551616 l) (h' : U w A' n' c' l') (hl' : n' ≤ 100000000) (hd' : Nt.Dig 18446744073709551616 l') (hle : Nt.val 18446744073709551616 l' ≤ Nt.val 18446744073709551616 l) :
    Calls Try.prog 74 #[.slice A n c, .slice A' n' c'] w (NatPost (Nt.val 18446744073709551616 l - Nt.val 18446744073709551616 l') w) := by
  obtain ⟨i0, hi0, hz0, hz1, hz2⟩ := info_parts u64_info
  have len1 : (Nt.dg 4294967296 (Nt.val 18446744073709551616 l)).length ≤ 2 * n := Nt.dg_len _ (by decide) _ _ (by have h9 := Nt.val_lt 18446744073709551616 (by decide) l hd; rw [h.1] at h9; rwa [Nt.sq_pow] at h9)
  have len2 : (Nt.dg 4294967296 (Nt.val 18446744073709551616 l')).length ≤ 2 * n' := Nt.dg_len _ (by decide) _ _ (by have h9 := Nt.val_lt 18446744073709551616 (by decide) l' hd'; rw [h'.1] at h9; rwa [Nt.sq_pow] at h9)
  have hv1 := halves_any A n c l w h (by omega) hd
  have hv2 := fun w1 (hb : Below w.heap.size w w1) => halves_any A' n' c' l' w1 (h'.below hb) (by omega) hd'
  clear h h' hd hd'
  generalize Nt.val 18446744073709551616 l = N at *
  generalize Nt.val 18446744073709551616 l' = M at *
  have HV1 := Lib.hid hv1
  have HV2 := Lib.hid hv2
  have HLE := Lib.hid hle
  clear hv1 hv2 hle
  go_enter Try.func74, Try.ntmps74
  go_wp2_with fail
  refine HV1.out.mono ?_
  rintro e w1 ⟨A1, c1, rfl, hu, hb⟩
  have HU := Lib.hid hu
  have HB := Lib.hid hb
  clear hu hb
  go_wp2_with fail
  refine (HV2.out _ HB.out).mono ?_
  rintro e w2 ⟨A2, c2, rfl, hu, hb⟩
  have HU1 := Lib.hid (HU.out.below hb)
  have HU2 := Lib.hid hu
  have HB2 := Lib.hid (HB.out.trans (hb.mono HB.out.size))
  clear hu hb HU HV1 HV2
  have HDX := Lib.hid (Nt.dig_dg 4294967296 (by decide) N)
  have HDY := Lib.hid (Nt.dig_dg 4294967296 (by decide) M)
  obtain ⟨x, hx⟩ : ∃ x, x = Nt.dg 4294967296 N := ⟨_, rfl⟩
  obtain ⟨y, hy⟩ : ∃ y, y = Nt.dg 4294967296 M := ⟨_, rfl⟩
  rw [← hx] at HDX HU1 len1 ⊢
  rw [← hy] at HDY HU2 len2 ⊢
  have HX := Lib.hid hx
  have HY := Lib.hid hy
  clear hx hy
  obtain ⟨p, hp⟩ : ∃ p, x.length = p := ⟨_, rfl⟩
  obtain ⟨q, hq⟩ : ∃ q, y.length = q := ⟨_, rfl⟩
  rw [hp, hq]
  rw [hp] at len1 HU1
  rw [hq] at len2 HU2
  have HP := Lib.hid hp
  have HQ := Lib.hid hq
  clear hp hq
  have hpb : p ≤ 200000000 := by omega
  have hqb : q ≤ 200000000 := by omega
  clear len1 len2
  go_wp2_with fail
  go_loopw [7, 8, 9] (fun v u t wr => ∃ (i b : Nat) (o : List Int), t = .int .i64 i ∧ u = .int .u64 b ∧ b ≤ 1 ∧ i ≤ p ∧ o.length = i ∧ wr.ownsRow w2.heap.size 55 1 v i (o.map (Value.int .u64)) ∧ Nt.Dig 4294967296 o ∧ Nt.val 4294967296 o + Nt.val 4294967296 (y.take i) = Nt.val 4294967296 (x.take i) + 4294967296 ^ i * b ∧ Below w2.heap.size w2 wr) (fun _ _ t _ => p - (intOf t).toNat)
  case atStart => exact ⟨0, 0, [], rfl, rfl, by omega, Nat.zero_le _, rfl, ⟨by simp, .inl ⟨rfl, rfl⟩⟩, (fun z hz => by cases hz), by simp [Nt.val], Below.refl _ _⟩
  case round =>
    obtain ⟨i, b, o, rfl, rfl, hcy, him, hol, hown, hdo, hval, hb2⟩ := hrel
    have HOL := Lib.hid hol
    have HOWN := Lib.hid hown
    have HDO := Lib.hid hdo
    have HVAL := Lib.hid hval
    have HBB := Lib.hid hb2
    clear hol hown hdo hval hb2
    by_cases hlt : i < p
    · have r1 := Nt.dig_get (by decide) HDX.out i
      have r2 := Nt.dig_get (by decide) HDY.out i
      have HI1 := Lib.hid (HU1.out.below HBB.out)
      have HI2 := Lib.hid (HU2.out.below HBB.out)
      have hst := fun S hS => Nt.sub_step x y o i b S HDX.out HDY.out hcy hS HOL.out HVAL.out
      have hd2 := fun nq => Calls.quiet_of_same ((digit_any A2 q c2 y (wr.drewN nq) i (HI2.out.below (below_drewN (Below.refl _ _) nq)) (by omega) (by omega)).mono (fun _ _ he => ⟨he.1, he.2.symm⟩))
      obtain ⟨a, ha⟩ : ∃ a, x[i]? = some a := ⟨_, List.getElem?_eq_getElem (by have := HP.out; omega)⟩
      obtain ⟨ad, rfl, _, hc⟩ := HI1.out.2.2.2 i a ha
      rw [ha] at r1 hst
      simp only [Option.getD_some] at r1 hst
      clear ha
      generalize y[i]?.getD 0 = d at *
      have hs1 : IntKind.u64.wrap (4294967296 + a) = 4294967296 + a := by rw [IntKind.wrap_u64]; omega
      have hs3 : IntKind.u64.wrap (4294967296 + a - d) = 4294967296 + a - d := by rw [IntKind.wrap_u64]; omega
      obtain ⟨S, hS⟩ : ∃ S : Int, S = 4294967296 + a - d - (b : Int) := ⟨_, rfl⟩
      have hs2 : IntKind.u64.wrap (4294967296 + a - d - (b : Int)) = S := by rw [IntKind.wrap_u64]; omega
      have hst1 := hst S hS
      have hSb : 0 ≤ S ∧ S < 8589934592 := by omega
      have hr1 : Int.tmod S 4294967296 = S % 4294967296 := Int.tmod_eq_emod_of_nonneg hSb.1
      have hr2 : IntKind.u64.wrap (Int.tdiv S 4294967296) = S / 4294967296 := by rw [IntKind.wrap_u64, Int.tdiv_eq_ediv_of_nonneg hSb.1]; omega
      have hr3 : IntKind.u64.wrap (1 - S / 4294967296) = 1 - S / 4294967296 := by rw [IntKind.wrap_u64]; omega
      have HS := Lib.hid hS
      have HST := Lib.hid hst1
      have HSB := Lib.hid hSb
      have HD2 := Lib.hid hd2
      have OWN2 : Hid (∀ nq, ((wr.drewN nq).alloc (.cells #[.int .u64 (S % 4294967296)] 55)).ownsRow w2.heap.size 55 1 u7 i (o.map (Value.int .u64))) := Lib.hid (fun nq => ownsRow_drewN HOWN.out nq |>.alloc _)
      have CELLS2 := Lib.hid (fun nq => one_cell (wr.drewN nq) (S % 4294967296) 55)
      have SIZE2 : Hid (∀ nq, w2.heap.size ≤ ((wr.drewN nq).alloc (.cells #[.int .u64 (S % 4294967296)] 55)).heap.size) := Lib.hid (fun nq => Nat.le_trans (below_drewN HBB.out nq).size (Nat.le_of_lt (alloc_lt (wr.drewN nq) (.cells #[.int .u64 (S % 4294967296)] 55))))
      have H63 := Lib.hid (show i + 1 ≤ maxLen by simp only [maxLen]; omega)
      clear hst hst1 hSb hd2 hS r1 r2
      go_wp2_with fail
      go_quiet ((go_at_call 106; exact HD2.out _))
      rename_i nq
      go_wp2_with (at_builtin; refine wpList_append_own _ rfl (.tmp 32) (.tmp 35) _ rfl w2.heap.size 55 i0 _ 1 8 Try.underlying22 hi0 hz0 hz1 hz2 rfl (Nat.le_refl 1) u7 i (o.map (Value.int .u64)) rfl (OWN2.out nq) ⟨wr.heap.size, 0, none⟩ 1 1 [Value.int .u64 (S % 4294967296)] rfl (CELLS2.out nq).1 (CELLS2.out nq).2.1 (CELLS2.out nq).2.2 H63.out (by omega) (SIZE2.out nq) ?_; intro v1 w4 hown1 hg1 _)
      have own3 : w4.ownsRow w2.heap.size 55 1 v1 (i + 1) ((o ++ [S % 4294967296]).map (Value.int .u64)) := by rw [List.map_append]; exact hown1
      have hdo3 : Nt.Dig 4294967296 (o ++ [S % 4294967296]) := HDO.out.append (Nt.Dig.one (by omega) (by omega))
      have hbb3 : Below w2.heap.size w2 w4 := ((below_drewN HBB.out nq).alloc HBB.out.size _).grown hg1 (SIZE2.out nq) (fun b hb => ((OWN2.out 0).lt b hb).1)
      have OWN3 := Lib.hid own3
      have DO3 := Lib.hid hdo3
      have BB3 := Lib.hid hbb3
      clear own3 hdo3 hbb3 hown1 hg1
      go_wp2
      go_roundw
      case rel => exact ⟨i + 1, (1 - S / 4294967296).toNat, o ++ [S % 4294967296], by go_num, by have := HSB.out; rw [Int.toNat_of_nonneg (by omega)], by have := HSB.out; omega, by omega, by rw [List.length_append, HOL.out]; rfl, OWN3.out, DO3.out, HST.out, BB3.out⟩
      case measure => simp [intOf]; omega
    · have hip : i = p := by omega
      have hv := Nt.sub_end x y o i b N M HX.out HY.out HLE.out (by rw [HP.out, hip]) HOL.out HDO.out HVAL.out
      clear hip
      obtain ⟨A', c', hv3, hu3⟩ := U.of_own HOWN.out
      have HU3 := Lib.hid hu3
      have HV3 := Lib.hid hv
      clear hu3 hv HOWN
      subst hv3
      go_wp2_with fail
      refine (limbs_any A' i c' o _ HU3.out (by omega) HDO.out).mono ?_
      rintro e w4 ⟨A4, c4, rfl, hu4, hb4⟩
      rw [HV3.out] at hu4 ⊢
      have HU4 := Lib.hid hu4
      have HB4 := Lib.hid (HB2.out.trans ((HBB.out.trans (hb4.mono HBB.out.size)).mono HB2.out.size))
      clear hu4 hb4
      go_wp2
      go_ret
      exact ⟨A4, c4, rfl, HU4.out, HB4.out⟩
end Go.Proofs.Ytclnmheplecknaa

namespace Go.Proofs.Ytclnmheplecknaa
open Go.RowKit

namespace Nt
theorem val_set (B : Nat) : ∀ (l : List Int) (j : Nat) (v u : Int), l[j]? = some u → val B (l.set j v) + B ^ j * u.toNat = val B l + B ^ j * v.toNat
  | [], _, _, _, h => by simp at h
  | x :: l, 0, v, u, h => by
    simp at h; subst h
    simp [val]; omega
  | x :: l, j + 1, v, u, h => by
    have ih := val_set B l j v u (by simpa using h)
    simp only [List.set_cons_succ, val, Nat.pow_succ]
    have e : B * (val B (l.set j v) + B ^ j * u.toNat) = B * (val B l + B ^ j * v.toNat) := by rw [ih]
    rw [Nat.mul_add, Nat.mul_add] at e
    rw [Nat.mul_comm (B ^ j) B, Nat.mul_assoc, Nat.mul_assoc]
    omega
theorem Dig.set {B : Nat} {l : List Int} (h : Dig B l) (j : Nat) (v : Int) (h0 : 0 ≤ v) (h1 : v < (B : Int)) : Dig B (l.set j v) := by
  intro x hx
  rcases List.mem_or_eq_of_mem_set hx with hx | rfl
  · exact h x hx
  · exact ⟨h0, h1⟩
/-- One step of the inner loop. -/
theorem mul_step (x y o o1 : List Int) (i k cy : Nat) (a b u S : Int) (ha : x[i]? = some a) (hb : y[k]? = some b) (hu : o1[i + k]? = some u) (hdy : Dig 4294967296 y)
    (ha0 : 0 ≤ a) (hb0 : 0 ≤ b) (hu0 : 0 ≤ u) (hS : S = a * b + u + cy)
    (hval : val 4294967296 o1 + 4294967296 ^ (i + k) * cy = val 4294967296 o + a.toNat * 4294967296 ^ i * val 4294967296 (y.take k)) :
    val 4294967296 (o1.set (i + k) (S % 4294967296)) + 4294967296 ^ (i + (k + 1)) * (S / 4294967296).toNat = val 4294967296 o + a.toNat * 4294967296 ^ i * val 4294967296 (y.take (k + 1)) := by
  have h1 := val_set 4294967296 o1 (i + k) (S % 4294967296) u hu
  have hyk : y[k]?.getD 0 = b := by rw [hb]; rfl
  rw [val_take_succ _ y k hdy, hyk]
  have hS0 : 0 ≤ S := by have := Int.mul_nonneg ha0 hb0; omega
  have h3 : (S % 4294967296).toNat + 4294967296 * (S / 4294967296).toNat = a.toNat * b.toNat + u.toNat + cy := by
    have e : (a.toNat * b.toNat : Int) = a * b := by rw [Int.toNat_of_nonneg ha0, Int.toNat_of_nonneg hb0]
    have e2 : ((a.toNat * b.toNat : Nat) : Int) = a * b := by rw [← e]; simp
    generalize a.toNat * b.toNat = p at *
    generalize a * b = q at *
    omega
  rw [show i + (k + 1) = (i + k) + 1 by omega, Nat.pow_succ]
  have e5 : (4294967296 : Nat) ^ (i + k) = 4294967296 ^ i * 4294967296 ^ k := Nat.pow_add _ _ _
  generalize (S % 4294967296).toNat = r at *
  generalize (S / 4294967296).toNat = q at *
  generalize a.toNat = a' at *
  generalize b.toNat = b' at *
  generalize u.toNat = u' at *
  generalize val 4294967296 (o1.set (i + k) (S % 4294967296)) = V at *
  rw [e5] at *
  generalize (4294967296 : Nat) ^ i = P at *
  generalize (4294967296 : Nat) ^ k = Q at *
  generalize val 4294967296 (y.take k) = Y at *
  have h4 : P * Q * (r + 4294967296 * q) = P * Q * (a' * b' + u' + cy) := by rw [h3]
  grind
end Nt
/-- A row of the call's own, of digits, known by its block. -/
def Row (w : World) (base g n : Nat) (o : List Int) : Prop := w.ownsRow base 55 1 (.slice (some ⟨g, 0, none⟩) n n) n (o.map (Value.int .u64))
theorem Row.len {w : World} {base g n : Nat} {o : List Int} (h : Row w base g n o) : o.length = n := by have := h.1; simpa using this
theorem Row.cell {w : World} {base g n : Nat} {o : List Int} (h : Row w base g n o) (j : Nat) (u : Int) (hj : o[j]? = some u) : w.cell? ⟨g, j, none⟩ = some (.int .u64 u) := by
  have hl : j < n := by rw [← h.len]; exact (List.getElem?_eq_some_iff.1 hj).1
  rw [World.ownsRow.cellAt h j (by omega), List.getElem?_map, hj]; rfl
theorem Row.free {w : World} {base g n : Nat} {o : List Int} (h : Row w base g n o) (j : Nat) : w.frozen? ⟨g, j, none⟩ = false := World.ownsRow.frozenAt h j
theorem Row.set {w : World} {base g n : Nat} {o : List Int} (h : Row w base g n o) (j : Nat) (v : Int) : Row (w.setCell ⟨g, j, none⟩ (.int .u64 v)) base g n (o.set j v) := by
  have := (World.ownsRow.stored h j (.int .u64 v)).1
  rw [← List.map_set] at this
  exact this
theorem Row.base_le {w : World} {base g n : Nat} {o : List Int} (h : Row w base g n o) : base ≤ g := (World.ownsRow.lt h g rfl).1
theorem Row.drewN {w : World} {base g n : Nat} {o : List Int} (h : Row w base g n o) (m : Nat) : Row (w.drewN m) base g n o := h
theorem Row.made {w : World} {base n m : Nat} (h : w.ownsRow base 55 1 (.slice (some ⟨m, 0, none⟩) n n) n (madeCells (Value.int .u64 0).cells (n * 1)).toList) : Row w base m n (List.replicate n 0) := by
  have e : (madeCells (Value.int .u64 0).cells (n * 1)).toList = (List.replicate n (0 : Int)).map (Value.int .u64) := by
    rw [show (Value.int .u64 0).cells = #[Value.int .u64 0] from rfl, toList_madeCells_one, Nat.mul_one, List.map_replicate]
  rw [e] at h; exact h
set_option maxRecDepth 400000 in
set_option maxHeartbeats 4000000 in
theorem product_any (A : Option Addr) (n c : Nat) (x : List Int) (A' : Option Addr) (n' c' : Nat) (y : List Int) (w : World) (h : U w A n c x) (hl : n ≤ 200000000) (hd : Nt.Dig 4294967296 x) (h' : U w A' n' c' y) (hl' : n' ≤ 200000000) (hd' : Nt.Dig 4294967296 y) :
    Calls Try.prog 165 #[.slice A n c, .slice A' n' c'] w (HPost (Nt.val 4294967296 x * Nt.val 4294967296 y) w) := by
  obtain ⟨i0, hi0, hz0, hz1, hz2⟩ := info_parts u64_info
  have HX := Lib.hid h
  have HY := Lib.hid h'
  have HDX := Lib.hid hd
  have HDY := Lib.hid hd'
  have HP := Lib.hid h.1
  have HQ := Lib.hid h'.1
  clear h h' hd hd'
  go_enter Try.func165, Try.ntmps165
  go_wp2_with (refine wpList_make_full _ rfl (.tmp 14) (.tmp 14) 22 rfl w.heap.size 55 i0 _ 1 Try.underlying22 hi0 hz0 hz1 .i64 .i64 _ _ (n + n') rfl rfl (by omega) (by omega) (by rw [hz2]; omega) (by simp only [maxLen]; omega) (Nat.le_refl _) ?_; intro w1 hown1 hg1)
  have ROW := Lib.hid (Row.made hown1)
  have HB := Lib.hid ((Below.refl w.heap.size w).grown hg1 (Nat.le_refl _) (fun k hk => by cases hk))
  clear hown1 hg1
  go_wp2_with fail
  go_loopw [6] (fun t wr => ∃ (i : Nat) (o : List Int), t = .int .i64 i ∧ i ≤ n ∧ Row wr w.heap.size w.heap.size (n + n') o ∧ Nt.Dig 4294967296 o ∧ Nt.val 4294967296 o = Nt.val 4294967296 (x.take i) * Nt.val 4294967296 y ∧ (∀ j u, i + n' ≤ j → o[j]? = some u → u = 0) ∧ Below w.heap.size w wr) (fun t _ => n - (intOf t).toNat)
  case atStart => exact ⟨0, List.replicate (n + n') 0, rfl, Nat.zero_le _, ROW.out, (fun z hz => by rw [(List.mem_replicate.1 hz).2]; decide), by rw [Nt.val_zeros _ _ (fun z hz => (List.mem_replicate.1 hz).2)]; simp [Nt.val], (fun j u _ hu => (List.mem_replicate.1 (List.mem_of_getElem? hu)).2), HB.out⟩
  case round =>
    clear ROW HB
    obtain ⟨i, o, rfl, him, hrow, hdo, hval, hz, hb⟩ := hrel
    obtain ⟨wo, rfl⟩ : ∃ wo : World, wo = wr := ⟨_, rfl⟩
    have ROW := Lib.hid hrow
    have HDO := Lib.hid hdo
    have HVAL := Lib.hid hval
    have HZ := Lib.hid hz
    have HB := Lib.hid hb
    clear hrow hdo hval hz hb
    by_cases hlt : i < n
    · obtain ⟨a, ha⟩ : ∃ a, x[i]? = some a := ⟨_, List.getElem?_eq_getElem (by have := HP.out; omega)⟩
      have HA := Lib.hid ha
      clear ha
      go_wp2_with fail
      go_loopw [7, 8] (fun cv kv wr => ∃ (k cy : Nat) (o1 : List Int), kv = .int .i64 k ∧ cv = .int .u64 cy ∧ k ≤ n' ∧ cy < 4294967296 ∧ Row wr w.heap.size w.heap.size (n + n') o1 ∧ Nt.Dig 4294967296 o1 ∧ Nt.val 4294967296 o1 + 4294967296 ^ (i + k) * cy = Nt.val 4294967296 o + a.toNat * 4294967296 ^ i * Nt.val 4294967296 (y.take k) ∧ (∀ j u, i + k ≤ j → o1[j]? = some u → o[j]? = some u) ∧ Below w.heap.size w wr) (fun _ kv _ => n' - (intOf kv).toNat)
      case atStart => exact ⟨0, 0, o, rfl, rfl, Nat.zero_le _, by decide, ROW.out, HDO.out, by simp [Nt.val], (fun j u _ hu => hu), HB.out⟩
      case round =>
        obtain ⟨k, cy, o1, rfl, rfl, hkm, hcy, hrow1, hdo1, hval1, hz1', hb1⟩ := hrel
        have ROW1 := Lib.hid hrow1
        have HDO1 := Lib.hid hdo1
        have HVAL1 := Lib.hid hval1
        have HZ1 := Lib.hid hz1'
        have HB1 := Lib.hid hb1
        clear hrow1 hdo1 hval1 hz1' hb1
        by_cases hk : k < n'
        · obtain ⟨b, hb⟩ : ∃ b, y[k]? = some b := ⟨_, List.getElem?_eq_getElem (by have := HQ.out; omega)⟩
          obtain ⟨u, hu⟩ : ∃ u, o1[i + k]? = some u := ⟨_, List.getElem?_eq_getElem (by have := ROW1.out.len; omega)⟩
          obtain ⟨ad1, rfl, _, hc1⟩ := (HX.out.below HB1.out).2.2.2 i a HA.out
          obtain ⟨ad2, rfl, _, hc2⟩ := (HY.out.below HB1.out).2.2.2 k b hb
          have hc3 := ROW1.out.cell (i + k) u hu
          have hfr := ROW1.out.free (i + k)
          have ra := HDX.out a (List.mem_of_getElem? HA.out)
          have rb := HDY.out b (List.mem_of_getElem? hb)
          have ru := HDO1.out u (List.mem_of_getElem? hu)
          have hab : 0 ≤ a * b ∧ a * b ≤ 18446744065119617025 := by
            refine ⟨Int.mul_nonneg ra.1 rb.1, ?_⟩
            have := Int.mul_le_mul (show a ≤ 4294967295 by omega) (show b ≤ 4294967295 by omega) rb.1 (by decide)
            omega
          obtain ⟨S, hS⟩ : ∃ S : Int, S = a * b + u + (cy : Int) := ⟨_, rfl⟩
          have hst := Nt.mul_step x y o o1 i k cy a b u S HA.out hb hu HDY.out ra.1 rb.1 ru.1 hS HVAL1.out
          have hs1 : IntKind.u64.wrap (a * b) = a * b := by rw [IntKind.wrap_u64]; omega
          have hs2 : IntKind.u64.wrap (a * b + u) = a * b + u := by rw [IntKind.wrap_u64]; omega
          have hs3 : IntKind.u64.wrap (a * b + u + (cy : Int)) = S := by rw [IntKind.wrap_u64]; omega
          have hSb : 0 ≤ S ∧ S < 18446744073709551616 := by omega
          have hr1 : Int.tmod S 4294967296 = S % 4294967296 := Int.tmod_eq_emod_of_nonneg hSb.1
          have hr2 : IntKind.u64.wrap (Int.tdiv S 4294967296) = S / 4294967296 := by rw [IntKind.wrap_u64, Int.tdiv_eq_ediv_of_nonneg hSb.1]; omega
          have HST := Lib.hid hst
          have HSB := Lib.hid hSb
          clear hst hSb hS hb hu ra rb ru hab
          go_wp2_with fail
          go_quiet (fail)
          go_wp2_with fail
          rename_i nq _
          have HR2 := Lib.hid ((ROW1.out.drewN nq).set (i + k) (S % 4294967296))
          have HB2 := Lib.hid ((below_drewN HB1.out nq).setCell (p := ⟨w.heap.size, i + k, none⟩) (Nat.le_refl _) (Value.int IntKind.u64 (S % 4294967296)))
          refine ⟨⟨k + 1, (S / 4294967296).toNat, o1.set (i + k) (S % 4294967296), by go_num, by have := HSB.out; rw [Int.toNat_of_nonneg (by omega)], hk, by have := HSB.out; omega, HR2.out, HDO1.out.set _ _ (by omega) (by omega), HST.out, (fun j u hj hu => ?_), HB2.out⟩, by simp [intOf]; omega⟩
          rw [List.getElem?_set_ne (by omega)] at hu
          exact HZ1.out j u (by omega) hu
        · have hkn : k = n' := by omega
          subst hkn
          obtain ⟨u, hu⟩ : ∃ u, o1[i + k]? = some u := ⟨_, List.getElem?_eq_getElem (by have := ROW1.out.len; omega)⟩
          have hu0 : u = 0 := HZ.out (i + k) u (Nat.le_refl _) (HZ1.out _ _ (Nat.le_refl _) hu)
          subst hu0
          have hc3 := ROW1.out.cell (i + k) 0 hu
          have hfr := ROW1.out.free (i + k)
          have hfin : Nt.val 4294967296 (o1.set (i + k) (cy : Int)) = Nt.val 4294967296 (x.take (i + 1)) * Nt.val 4294967296 y := by
            have h1 := Nt.val_set 4294967296 o1 (i + k) (cy : Int) 0 hu
            have h2 := HVAL1.out
            rw [List.take_of_length_le (by have := HQ.out; omega)] at h2
            rw [Nt.val_take_succ _ x i HDX.out, HA.out, Nat.add_mul, ← HVAL.out]
            simp only [Option.getD_some]
            rw [Int.toNat_natCast, Int.toNat_zero, Nat.mul_zero, Nat.add_zero] at h1
            rw [h1, h2, Nat.mul_comm a.toNat]
          have HFIN := Lib.hid hfin
          clear hu hfin
          go_wp2_with fail
          have HR2 := Lib.hid (ROW1.out.set (i + k) (cy : Int))
          have HB2 := Lib.hid (HB1.out.setCell (p := ⟨w.heap.size, i + k, none⟩) (Nat.le_refl _) (Value.int IntKind.u64 (cy : Int)))
          refine ⟨⟨i + 1, o1.set (i + k) (cy : Int), by go_num, hlt, HR2.out, HDO1.out.set _ _ (by omega) (by omega), HFIN.out, (fun j u hj hu => ?_), HB2.out⟩, by simp [intOf]; omega⟩
          rw [List.getElem?_set_ne (by omega)] at hu
          exact HZ.out j u (by omega) (HZ1.out j u (by omega) hu)
    · have hin : i = n := by omega
      subst hin
      have hv := HVAL.out
      rw [List.take_of_length_le (Nat.le_of_eq HP.out)] at hv
      have HV := Lib.hid hv
      obtain ⟨A3, c3, e3, hu3⟩ := U.of_own ROW.out
      injection e3 with e4 e5 e6
      subst e4
      subst e6
      have HU3 := Lib.hid hu3
      clear hv hu3 e5
      go_wp2_with fail
      refine (low_any _ _ _ o _ HU3.out (by omega) HDO.out).mono ?_
      rintro e w4 ⟨rfl, hu4, rfl⟩
      rw [HV.out] at hu4 ⊢
      have HU4 := Lib.hid hu4
      clear hu4
      go_wp2
      go_ret
      exact ⟨_, _, rfl, HU4.out, HB.out⟩
namespace Nt
theorem dg32_len (l : List Int) (n : Nat) (hn : l.length = n) (hd : Dig 18446744073709551616 l) : (dg 4294967296 (val 18446744073709551616 l)).length ≤ 2 * n :=
  dg_len _ (by decide) _ _ (by have h9 := val_lt 18446744073709551616 (by decide) l hd; rw [hn] at h9; rwa [sq_pow] at h9)
end Nt
set_option maxRecDepth 400000 in
theorem natMul_any (A : Option Addr) (n c : Nat) (l : List Int) (A' : Option Addr) (n' c' : Nat) (l' : List Int) (w : World) (h : U w A n c l) (hl : n ≤ 100000000) (hd : Nt.Dig 18446744073709551616 l) (h' : U w A' n' c' l') (hl' : n' ≤ 100000000) (hd' : Nt.Dig 18446744073709551616 l') :
    Calls Try.prog 160 #[.slice A n c, .slice A' n' c'] w (NatPost (Nt.val 18446744073709551616 l * Nt.val 18446744073709551616 l') w) := by
  have len1 := Nt.dg32_len l n h.1 hd
  have len2 := Nt.dg32_len l' n' h'.1 hd'
  have HV1 := Lib.hid (halves_any A n c l w h (by omega) hd)
  have HV2 := Lib.hid (fun w1 (hb : Below w.heap.size w w1) => halves_any A' n' c' l' w1 (h'.below hb) (by omega) hd')
  clear h h' hd hd'
  generalize Nt.val 18446744073709551616 l = N at *
  generalize Nt.val 18446744073709551616 l' = M at *
  go_enter Try.func160, Try.ntmps160
  go_wp2_with fail
  refine HV1.out.mono ?_
  rintro e w1 ⟨A1, c1, rfl, hu, hb⟩
  have HU := Lib.hid hu
  have HB := Lib.hid hb
  clear hu hb
  go_wp2_with fail
  refine (HV2.out _ HB.out).mono ?_
  rintro e w2 ⟨A2, c2, rfl, hu, hb⟩
  have HU1 := Lib.hid (HU.out.below hb)
  have HU2 := Lib.hid hu
  have HB2 := Lib.hid (HB.out.trans (hb.mono HB.out.size))
  clear hu hb HU HV1 HV2
  go_wp2_with fail
  refine (product_any _ _ _ _ _ _ _ _ _ HU1.out (by omega) (Nt.dig_dg 4294967296 (by decide) N) HU2.out (by omega) (Nt.dig_dg 4294967296 (by decide) M)).mono ?_
  rintro e w3 ⟨A3, c3, rfl, hu, hb⟩
  rw [Nt.val_dg _ (by decide), Nt.val_dg _ (by decide)] at hu ⊢
  have len3 : (Nt.dg 4294967296 (N * M)).length ≤ 2 * n + 2 * n' := by
    refine Nt.dg_len _ (by decide) _ _ ?_
    have e1 := Nt.val_lt 4294967296 (by decide) _ (Nt.dig_dg 4294967296 (by decide) N)
    have e2 := Nt.val_lt 4294967296 (by decide) _ (Nt.dig_dg 4294967296 (by decide) M)
    rw [Nt.val_dg _ (by decide)] at e1 e2
    have e3 : N * M < 4294967296 ^ (Nt.dg 4294967296 N).length * 4294967296 ^ (Nt.dg 4294967296 M).length := Nat.mul_lt_mul'' e1 e2
    rw [← Nat.pow_add] at e3
    exact Nat.lt_of_lt_of_le e3 (Nat.pow_le_pow_right (by decide) (by omega))
  have HU3 := Lib.hid hu
  have HB3 := Lib.hid (HB2.out.trans (hb.mono HB2.out.size))
  clear hu hb
  go_wp2_with fail
  refine (limbs_any _ _ _ _ _ HU3.out (by omega) (Nt.dig_dg 4294967296 (by decide) (N * M))).mono ?_
  rintro e w4 ⟨A4, c4, rfl, hu, hb⟩
  rw [Nt.val_dg _ (by decide)] at hu ⊢
  have HU4 := Lib.hid hu
  have HB4 := Lib.hid (HB3.out.trans (hb.mono HB3.out.size))
  clear hu hb
  go_wp2
  go_ret
  exact ⟨A4, c4, rfl, HU4.out, HB4.out⟩
end Go.Proofs.Ytclnmheplecknaa

namespace Go.Proofs.Ytclnmheplecknaa
open Go.RowKit

namespace Nt
/-- One digit times a factor, with what is carried. -/
theorem up_step (x o : List Int) (i m cy Y : Nat) (a S : Int) (ha : x[i]? = some a) (hd : Dig 4294967296 x) (ha0 : 0 ≤ a) (hol : o.length = m + i) (hS : S = a * Y + cy)
    (hval : val 4294967296 o + 4294967296 ^ (m + i) * cy = 4294967296 ^ m * (Y * val 4294967296 (x.take i))) :
    val 4294967296 (o ++ [S % 4294967296]) + 4294967296 ^ (m + (i + 1)) * (S / 4294967296).toNat = 4294967296 ^ m * (Y * val 4294967296 (x.take (i + 1))) := by
  have hxi : x[i]?.getD 0 = a := by rw [ha]; rfl
  rw [val_snoc, val_take_succ _ x i hd, hxi, hol, show m + (i + 1) = (m + i) + 1 by omega, Nat.pow_succ]
  have hS0 : 0 ≤ S := by have := Int.mul_nonneg ha0 (Int.natCast_nonneg Y); omega
  have h3 : (S % 4294967296).toNat + 4294967296 * (S / 4294967296).toNat = a.toNat * Y + cy := by
    have e : ((a.toNat * Y : Nat) : Int) = a * Y := by simp [Int.toNat_of_nonneg ha0]
    generalize a.toNat * Y = p at *
    generalize a * (Y : Int) = q at *
    omega
  have e5 : (4294967296 : Nat) ^ (m + i) = 4294967296 ^ m * 4294967296 ^ i := Nat.pow_add _ _ _
  generalize (S % 4294967296).toNat = r at *
  generalize (S / 4294967296).toNat = q at *
  generalize a.toNat = a' at *
  rw [e5] at hval ⊢
  generalize (4294967296 : Nat) ^ i = P at *
  generalize (4294967296 : Nat) ^ m = Q at *
  have h4 : Q * P * (r + 4294967296 * q) = Q * P * (a' * Y + cy) := by rw [h3]
  have e1 : Q * (Y * (P * a')) = Q * P * (a' * Y) := by ac_rfl
  rw [Nat.mul_add, Nat.mul_add] at h4
  rw [Nat.mul_add, Nat.mul_add, e1, Nat.mul_assoc (Q * P)]
  omega
end Nt
theorem tdiv_nat (n : Nat) (k : Nat) : Int.tdiv (n : Int) (k : Int) = ((n / k : Nat) : Int) := by rw [Int.tdiv_eq_ediv_of_nonneg (by omega)]; simp
set_option maxRecDepth 400000 in
set_option maxHeartbeats 4000000 in
theorem natUp_any (A : Option Addr) (n c : Nat) (l : List Int) (m : Nat) (w : World) (h : U w A n c l) (hl : n ≤ 100000000) (hd : Nt.Dig 18446744073709551616 l) (hm : m ≤ 1000000000) :
    Calls Try.prog 71 #[.slice A n c, .int .i64 m] w (NatPost (Nt.val 18446744073709551616 l * 2 ^ m) w) := by
  obtain ⟨i0, hi0, hz0, hz1, hz2⟩ := info_parts u64_info
  have len1 := Nt.dg32_len l n h.1 hd
  have HV1 := Lib.hid (halves_any A n c l w h (by omega) hd)
  clear h hd
  generalize Nt.val 18446744073709551616 l = N at *
  by_cases hN : N = 0
  · subst hN
    go_enter Try.func71, Try.ntmps71
    go_wp2_with fail
    refine HV1.out.mono ?_
    rintro e w1 ⟨A1, c1, rfl, hu, hb⟩
    rw [Nt.dg_zero] at hu ⊢
    have HB := Lib.hid hb
    clear hu hb
    go_wp2
    go_ret
    unfold NatPost
    rw [Nat.zero_mul, Nt.dg_zero]
    exact ⟨none, 0, rfl, ⟨rfl, Nat.le_refl _, fun _ => rfl, fun k x hk => by simp at hk⟩, HB.out⟩
  · go_enter Try.func71, Try.ntmps71
    go_wp2_with fail
    refine HV1.out.mono ?_
    rintro e w1 ⟨A1, c1, rfl, hu, hb⟩
    have HU := Lib.hid hu
    have HB := Lib.hid hb
    clear hu hb HV1
    have HDX := Lib.hid (Nt.dig_dg 4294967296 (by decide) N)
    have HVX := Lib.hid (Nt.val_dg 4294967296 (by decide) N)
    have hne : (Nt.dg 4294967296 N).length ≠ 0 := by rw [Nt.dg_pos _ _ (by decide) hN]; simp
    generalize Nt.dg 4294967296 N = x at *
    obtain ⟨p, hp⟩ : ∃ p, x.length = p := ⟨_, rfl⟩
    rw [hp] at len1 HU hne ⊢
    have HP := Lib.hid hp
    have hpn : 0 < p := by omega
    have hpz : ((p : Int) == 0) = false := by simp; omega
    obtain ⟨q, hq⟩ : ∃ q, q = m / 32 := ⟨_, rfl⟩
    obtain ⟨r, hr⟩ : ∃ r, r = m % 32 := ⟨_, rfl⟩
    have HQI := Lib.hid (show (m : Int) / 32 = (q : Int) by omega)
    have hqb : q ≤ 31250000 := by omega
    have hrb : r < 32 := by omega
    have HR := Lib.hid hr
    have HQR := Lib.hid (show m = 32 * q + r by omega)
    clear hp hN hq hr hne
    go_wp2_with (refine wpList_make_full _ rfl (.tmp 18) (.tmp 18) 22 rfl w1.heap.size 55 i0 _ 1 Try.underlying22 hi0 hz0 hz1 .i64 .i64 _ _ q rfl rfl HQI.out HQI.out (by rw [hz2]; omega) (by simp only [maxLen]; omega) (Nat.le_refl _) ?_; intro w2 hown1 hg1)
    have hrow := Row.made hown1
    have HB2 := Lib.hid ((Below.refl w1.heap.size w1).grown hg1 (Nat.le_refl _) (fun k hk => by cases hk))
    clear hown1 hg1
    unfold Row at hrow
    have HOWN0 := Lib.hid hrow
    clear hrow
    obtain ⟨v0, hv0⟩ : ∃ v0, v0 = Value.slice (some ⟨w1.heap.size, 0, none⟩) q q := ⟨_, rfl⟩
    rw [← hv0] at HOWN0
    have HV0 := Lib.hid hv0
    clear hv0
    go_loop [8, 9] (fun b t => ∃ j : Nat, j ≤ r ∧ t = .int .i64 j ∧ b = .int .u64 ((2 ^ j : Nat) : Int)) (fun _ t => r - (intOf t).toNat)
    case atStart => exact ⟨0, Nat.zero_le _, rfl, rfl⟩
    case round =>
      obtain ⟨j, hj, rfl, rfl⟩ := hrel
      by_cases hlt : j < r
      · have h1 : (j : Int) < (m : Int) % 32 := by have := HR.out; omega
        have hp2 : 2 ^ j ≤ 2147483648 := Nat.le_trans (Nat.pow_le_pow_right (n := 2) (by decide) (show _ ≤ 31 by omega)) (by decide)
        have HE := Lib.hid (show 2 * 2 ^ j = 2 ^ (j + 1) by rw [Nat.pow_succ]; omega)
        generalize 2 ^ j = Y at *
        go_wp2
        go_round
        case rel => exact ⟨j + 1, hlt, by go_num, by rw [← HE.out]; go_num⟩
        case measure => simp [intOf]; omega
      · have h1 : ¬ (j : Int) < (m : Int) % 32 := by have := HR.out; omega
        have hjr : j = r := by omega
        subst hjr
        have hp2 : 2 ^ j ≤ 2147483648 := Nat.le_trans (Nat.pow_le_pow_right (n := 2) (by decide) (show _ ≤ 31 by omega)) (by decide)
        obtain ⟨Y, hY⟩ : ∃ Y, 2 ^ j = Y := ⟨_, rfl⟩
        rw [hY] at hp2 ⊢
        have HY := Lib.hid hY
        have hY0 : 0 < Y := by rw [← hY]; exact Nat.two_pow_pos _
        clear hY
        go_wp2_with fail
        go_loopw [6, 7, 10] (fun v u t wr => ∃ (i cy : Nat) (o : List Int), t = .int .i64 i ∧ u = .int .u64 cy ∧ i ≤ p ∧ cy < Y ∧ o.length = q + i ∧ wr.ownsRow w1.heap.size 55 1 v (q + i) (o.map (Value.int .u64)) ∧ Nt.Dig 4294967296 o ∧ Nt.val 4294967296 o + 4294967296 ^ (q + i) * cy = 4294967296 ^ q * (Y * Nt.val 4294967296 (x.take i)) ∧ Below w1.heap.size w1 wr) (fun _ _ t _ => p - (intOf t).toNat)
        case atStart => exact ⟨0, 0, List.replicate q 0, rfl, rfl, Nat.zero_le _, hY0, by simp, by rw [← HV0.out]; exact HOWN0.out, (fun z hz => by rw [(List.mem_replicate.1 hz).2]; decide), by rw [Nt.val_zeros _ _ (fun z hz => (List.mem_replicate.1 hz).2)]; simp [Nt.val], HB2.out⟩
        case round =>
          obtain ⟨i, cy, o, rfl, rfl, hip, hcy, hol, hown, hdo, hval, hb⟩ := hrel
          have HOL := Lib.hid hol
          have HOWN := Lib.hid hown
          have HDO := Lib.hid hdo
          have HVAL := Lib.hid hval
          have HBB := Lib.hid hb
          clear hol hown hdo hval hb
          by_cases hi : i < p
          · obtain ⟨a, ha⟩ : ∃ a, x[i]? = some a := ⟨_, List.getElem?_eq_getElem (by have := HP.out; omega)⟩
            obtain ⟨ad, rfl, _, hc⟩ := (HU.out.below HBB.out).2.2.2 i a ha
            have ra := HDX.out a (List.mem_of_getElem? ha)
            have hab : 0 ≤ a * (Y : Int) ∧ a * (Y : Int) ≤ 4294967295 * (Y : Int) := ⟨Int.mul_nonneg ra.1 (by omega), Int.mul_le_mul_of_nonneg_right (by omega) (by omega)⟩
            obtain ⟨S, hS⟩ : ∃ S : Int, S = a * (Y : Int) + (cy : Int) := ⟨_, rfl⟩
            have hst := Nt.up_step x o i q cy Y a S ha HDX.out ra.1 HOL.out hS HVAL.out
            have hs1 : IntKind.u64.wrap (a * (Y : Int)) = a * (Y : Int) := by rw [IntKind.wrap_u64]; omega
            have hs2 : IntKind.u64.wrap (a * (Y : Int) + (cy : Int)) = S := by rw [IntKind.wrap_u64]; omega
            have hSb : 0 ≤ S ∧ S < 4294967296 * (Y : Int) := by omega
            have hr1 : Int.tmod S 4294967296 = S % 4294967296 := Int.tmod_eq_emod_of_nonneg hSb.1
            have hr2 : IntKind.u64.wrap (Int.tdiv S 4294967296) = S / 4294967296 := by rw [IntKind.wrap_u64, Int.tdiv_eq_ediv_of_nonneg hSb.1]; omega
            have HST := Lib.hid hst
            have HSB := Lib.hid hSb
            have OWN2 := Lib.hid (HOWN.out.alloc (.cells #[.int .u64 (S % 4294967296)] 55))
            have CELLS2 := Lib.hid (one_cell wr (S % 4294967296) 55)
            have SIZE2 := Lib.hid (Nat.le_trans HBB.out.size (Nat.le_of_lt (alloc_lt wr (.cells #[.int .u64 (S % 4294967296)] 55))))
            have H63 := Lib.hid (show q + i + 1 ≤ maxLen by simp only [maxLen]; omega)
            clear hst hSb hS ra hab ha
            go_wp2_with (at_builtin; refine wpList_append_own _ rfl (.tmp 42) (.tmp 45) _ rfl w1.heap.size 55 i0 _ 1 8 Try.underlying22 hi0 hz0 hz1 hz2 rfl (Nat.le_refl 1) u6 (q + i) (o.map (Value.int .u64)) rfl OWN2.out ⟨wr.heap.size, 0, none⟩ 1 1 [Value.int .u64 (S % 4294967296)] rfl CELLS2.out.1 CELLS2.out.2.1 CELLS2.out.2.2 H63.out (by omega) SIZE2.out ?_; intro v1 w4 hown1 hg1 _)
            have own3 : w4.ownsRow w1.heap.size 55 1 v1 (q + (i + 1)) ((o ++ [S % 4294967296]).map (Value.int .u64)) := by rw [List.map_append]; exact hown1
            have hdo3 : Nt.Dig 4294967296 (o ++ [S % 4294967296]) := HDO.out.append (Nt.Dig.one (by omega) (by omega))
            have hbb3 : Below w1.heap.size w1 w4 := ((HBB.out).alloc HBB.out.size _).grown hg1 (Nat.le_trans HBB.out.size (Nat.le_of_lt (alloc_lt wr _))) (fun b hb => (OWN2.out.lt b hb).1)
            have OWN3 := Lib.hid own3
            have DO3 := Lib.hid hdo3
            have BB3 := Lib.hid hbb3
            clear own3 hdo3 hbb3 hown1 hg1
            go_wp2
            go_roundw
            case rel => exact ⟨i + 1, (S / 4294967296).toNat, o ++ [S % 4294967296], by go_num, by have := HSB.out; rw [Int.toNat_of_nonneg (by omega)], hi, by have := HSB.out; omega, by rw [List.length_append, HOL.out]; rfl, OWN3.out, DO3.out, HST.out, BB3.out⟩
            case measure => simp [intOf]; omega
          · have hip2 : i = p := by omega
            subst hip2
            have hfin : Nt.val 4294967296 (o ++ [(cy : Int)]) = N * 2 ^ m := by
              have h9 := HVAL.out
              rw [List.take_of_length_le (by have := HP.out; omega), HVX.out] at h9
              rw [Nt.val_snoc, HOL.out, Int.toNat_natCast, h9, HQR.out, Nat.pow_add, Nat.pow_mul, HY.out, show (2 : Nat) ^ 32 = 4294967296 from rfl]
              ac_rfl
            have HF := Lib.hid hfin
            have HD9 := Lib.hid (HDO.out.append (Nt.Dig.one (x := (cy : Int)) (by omega) (by omega)))
            have OWN2 := Lib.hid (HOWN.out.alloc (.cells #[.int .u64 (cy : Int)] 55))
            have CELLS2 := Lib.hid (one_cell wr (cy : Int) 55)
            have SIZE2 := Lib.hid (Nat.le_trans HBB.out.size (Nat.le_of_lt (alloc_lt wr (.cells #[.int .u64 (cy : Int)] 55))))
            have H63 := Lib.hid (show q + i + 1 ≤ maxLen by simp only [maxLen]; omega)
            clear hfin
            go_wp2_with (at_builtin; refine wpList_append_own _ rfl (.tmp 49) (.tmp 51) _ rfl w1.heap.size 55 i0 _ 1 8 Try.underlying22 hi0 hz0 hz1 hz2 rfl (Nat.le_refl 1) u6 (q + i) (o.map (Value.int .u64)) rfl OWN2.out ⟨wr.heap.size, 0, none⟩ 1 1 [Value.int .u64 (cy : Int)] rfl CELLS2.out.1 CELLS2.out.2.1 CELLS2.out.2.2 H63.out (by omega) SIZE2.out ?_; intro v1 w4 hown1 hg1 _)
            have own3 : w4.ownsRow w1.heap.size 55 1 v1 (q + i + 1) ((o ++ [(cy : Int)]).map (Value.int .u64)) := by rw [List.map_append]; exact hown1
            have BB3 := Lib.hid (((HBB.out).alloc HBB.out.size _).grown hg1 (Nat.le_trans HBB.out.size (Nat.le_of_lt (alloc_lt wr _))) (fun b hb => (OWN2.out.lt b hb).1))
            obtain ⟨A', c', hv3, hu3⟩ := U.of_own own3
            have HU3 := Lib.hid hu3
            clear hu3 own3 hown1 hg1
            subst hv3
            go_wp2_with fail
            refine (limbs_any A' (q + i + 1) c' (o ++ [(cy : Int)]) _ HU3.out (by omega) HD9.out).mono ?_
            rintro e w5 ⟨A4, c4, rfl, hu4, hb4⟩
            rw [HF.out] at hu4 ⊢
            have HU4 := Lib.hid hu4
            have HB4 := Lib.hid (HB.out.trans ((BB3.out.trans (hb4.mono BB3.out.size)).mono HB.out.size))
            clear hu4 hb4
            go_wp2
            go_ret
            exact ⟨A4, c4, rfl, HU4.out, HB4.out⟩
end Go.Proofs.Ytclnmheplecknaa

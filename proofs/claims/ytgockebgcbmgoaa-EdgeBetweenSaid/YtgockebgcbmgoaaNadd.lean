/-
  Walk: NatAdd.
  Walk: NatSub.
-/
import Derived.Test.YtgockebgcbmgoaaHalv
import Derived.Deep.QuietTactic
import Derived.BigQuiet
import Derived.IntWalk
set_option linter.unusedVariables false
set_option linter.unusedSimpArgs false
namespace Go.Proofs.Ytgockebgcbmgoaa
open Go.RowKit

theorem digit_any (A : Option Addr) (n c : Nat) (l : List Int) (w : World) (i : Nat) (h : U w A n c l) (hl : n ≤ 4000000000) (hb : i < 4000000000) : Calls Try.prog 86 #[.slice A n c, .int .i64 i] w fun e w' => e = .returned (.int .u64 (l[i]?.getD 0)) ∧ w = w' := by
  cases hx : l[i]? with
  | some x => exact digit_yes A n c l w i x h hl hx
  | none =>
    have : n ≤ i := by rw [← h.1]; exact List.getElem?_eq_none_iff.1 hx
    exact digit_no A n c w i this hb
namespace Nt
theorem sq_pow (n : Nat) : (18446744073709551616 : Nat) ^ n = 4294967296 ^ (2 * n) := by rw [Nat.pow_mul]
/-- One digit more. -/
theorem val_take_succ (B : Nat) (l : List Int) (i : Nat) (hd : Dig B l) : val B (l.take (i + 1)) = val B (l.take i) + B ^ i * (l[i]?.getD 0).toNat := by
  by_cases hi : i < l.length
  · rw [List.take_succ_eq_append_getElem hi, val_append, List.length_take, Nat.min_eq_left (Nat.le_of_lt hi), List.getElem?_eq_getElem hi]
    simp [val]
  · rw [List.getElem?_eq_none (by omega), List.take_of_length_le (by omega), List.take_of_length_le (by omega)]; simp
theorem dig_get {B : Nat} {l : List Int} (hB : 0 < B) (hd : Dig B l) (i : Nat) : 0 ≤ l[i]?.getD 0 ∧ l[i]?.getD 0 < (B : Int) := by
  cases hx : l[i]? with
  | some x => exact hd x (List.mem_of_getElem? hx)
  | none => exact ⟨Int.le_refl _, by simpa using hB⟩
theorem val_snoc (B : Nat) (o : List Int) (x : Int) : val B (o ++ [x]) = val B o + B ^ o.length * x.toNat := by
  rw [val_append]; simp [val]
theorem add_step (x y o : List Int) (i cy : Nat) (S : Int) (hdx : Dig 4294967296 x) (hdy : Dig 4294967296 y) (hS : S = x[i]?.getD 0 + y[i]?.getD 0 + cy) (hol : o.length = i)
    (hval : val 4294967296 o + 4294967296 ^ i * cy = val 4294967296 (x.take i) + val 4294967296 (y.take i)) :
    val 4294967296 (o ++ [S % 4294967296]) + 4294967296 ^ (i + 1) * (S / 4294967296).toNat = val 4294967296 (x.take (i + 1)) + val 4294967296 (y.take (i + 1)) := by
  have h1 := dig_get (by decide) hdx i
  have h2 := dig_get (by decide) hdy i
  rw [val_snoc, val_take_succ _ x i hdx, val_take_succ _ y i hdy, hol, Nat.pow_succ]
  generalize x[i]?.getD 0 = a at *
  generalize y[i]?.getD 0 = b at *
  have h3 : (S % 4294967296).toNat + 4294967296 * (S / 4294967296).toNat = a.toNat + b.toNat + cy := by omega
  generalize (S % 4294967296).toNat = r at *
  generalize (S / 4294967296).toNat = q at *
  generalize a.toNat = a' at *
  generalize b.toNat = b' at *
  generalize (4294967296 : Nat) ^ i = P at *
  have h4 : P * (r + 4294967296 * q) = P * (a' + b' + cy) := by rw [h3]
  rw [Nat.mul_add, Nat.mul_add, Nat.mul_add] at h4
  rw [Nat.mul_assoc]
  omega
end Nt
set_option maxRecDepth 400000 in
set_option maxHeartbeats 2000000 in
theorem natAdd_any (A : Option Addr) (n c : Nat) (l : List Int) (A' : Option Addr) (n' c' : Nat) (l' : List Int) (w : World) (h : U w A n c l) (hl : n ≤ 100000000) (hd : Nt.Dig 18446744073709551616 l) (h' : U w A' n' c' l') (hl' : n' ≤ 100000000) (hd' : Nt.Dig 18446744073709551616 l') :
    Calls Try.prog 71 #[.slice A n c, .slice A' n' c'] w (NatPost (Nt.val 18446744073709551616 l + Nt.val 18446744073709551616 l') w) := by
  obtain ⟨i0, hi0, hz0, hz1, hz2⟩ := info_parts u64_info
  have len1 : (Nt.dg 4294967296 (Nt.val 18446744073709551616 l)).length ≤ 2 * n := Nt.dg_len _ (by decide) _ _ (by have h9 := Nt.val_lt 18446744073709551616 (by decide) l hd; rw [h.1] at h9; rwa [Nt.sq_pow] at h9)
  have len2 : (Nt.dg 4294967296 (Nt.val 18446744073709551616 l')).length ≤ 2 * n' := Nt.dg_len _ (by decide) _ _ (by have h9 := Nt.val_lt 18446744073709551616 (by decide) l' hd'; rw [h'.1] at h9; rwa [Nt.sq_pow] at h9)
  have hv1 := halves_any A n c l w h (by omega) hd
  have hv2 := fun w1 (hb : Below w.heap.size w w1) => halves_any A' n' c' l' w1 (h'.below hb) (by omega) hd'
  clear h h' hd hd'
  generalize Nt.val 18446744073709551616 l = N at *
  generalize Nt.val 18446744073709551616 l' = M at *
  have HV1 := Lib.hid hv1
  have HV2 := Lib.hid hv2
  clear hv1 hv2
  go_enter Try.func71, Try.ntmps71
  go_wp2_with fail
  refine HV1.out.mono ?_
  rintro e w1 ⟨A1, c1, rfl, hu, hb⟩
  have HU := Lib.hid hu
  have HB := Lib.hid hb
  clear hu hb
  go_wp2_with fail
  refine (HV2.out _ HB.out).mono ?_
  rintro e w2 ⟨A2, c2, rfl, hu, hb⟩
  have HU1 := Lib.hid (HU.out.below hb)
  have HU2 := Lib.hid hu
  have HB2 := Lib.hid (HB.out.trans (hb.mono HB.out.size))
  clear hu hb HU HV1 HV2
  have HDX := Lib.hid (Nt.dig_dg 4294967296 (by decide) N)
  have HDY := Lib.hid (Nt.dig_dg 4294967296 (by decide) M)
  have HVX := Lib.hid (Nt.val_dg 4294967296 (by decide) N)
  have HVY := Lib.hid (Nt.val_dg 4294967296 (by decide) M)
  generalize Nt.dg 4294967296 N = x at *
  generalize Nt.dg 4294967296 M = y at *
  obtain ⟨p, hp⟩ : ∃ p, x.length = p := ⟨_, rfl⟩
  obtain ⟨q, hq⟩ : ∃ q, y.length = q := ⟨_, rfl⟩
  rw [hp, hq]
  rw [hp] at len1 HU1
  rw [hq] at len2 HU2
  have HP := Lib.hid hp
  have HQ := Lib.hid hq
  clear hp hq
  obtain ⟨m, hm⟩ : ∃ m, m = max p q := ⟨_, rfl⟩
  have hpm : p ≤ m := by omega
  have hqm : q ≤ m := by omega
  have hmb : m ≤ 200000000 := by omega
  clear hm len1 len2
  go_wp2_with fail
  go_loopw [7, 8, 9] (fun v u t wr => ∃ (i cy : Nat) (o : List Int), t = .int .i64 i ∧ u = .int .u64 cy ∧ cy ≤ 1 ∧ (i ≤ m ∨ (i = m + 1 ∧ cy = 0)) ∧ o.length = i ∧ wr.ownsRow w2.heap.size 46 1 v i (o.map (Value.int .u64)) ∧ Nt.Dig 4294967296 o ∧ Nt.val 4294967296 o + 4294967296 ^ i * cy = Nt.val 4294967296 (x.take i) + Nt.val 4294967296 (y.take i) ∧ Below w2.heap.size w2 wr) (fun _ _ t _ => m + 2 - (intOf t).toNat)
  case atStart => exact ⟨0, 0, [], rfl, rfl, by omega, .inl (Nat.zero_le _), rfl, ⟨by simp, .inl ⟨rfl, rfl⟩⟩, (fun z hz => by cases hz), by simp [Nt.val], Below.refl _ _⟩
  case round =>
    obtain ⟨i, cy, o, rfl, rfl, hcy, him, hol, hown, hdo, hval, hb2⟩ := hrel
    have HOL := Lib.hid hol
    have HOWN := Lib.hid hown
    have HDO := Lib.hid hdo
    have HVAL := Lib.hid hval
    have HBB := Lib.hid hb2
    clear hol hown hdo hval hb2
    rcases (show (i < p) ∨ (¬ i < p ∧ i < q) ∨ (¬ i < p ∧ ¬ i < q ∧ 0 < cy) ∨ (¬ i < p ∧ ¬ i < q ∧ cy = 0) from by omega) with k1 | ⟨k1, k2⟩ | ⟨k1, k2, k3⟩ | ⟨k1, k2, k3⟩
    iterate 3
      · have him2 : i ≤ m := by omega
        have r1 := Nt.dig_get (by decide) HDX.out i
        have r2 := Nt.dig_get (by decide) HDY.out i
        have HI1 := Lib.hid (HU1.out.below HBB.out)
        have HI2 := Lib.hid (HU2.out.below HBB.out)
        have hst := fun S hS => Nt.add_step x y o i cy S HDX.out HDY.out hS HOL.out HVAL.out
        have hd1 := digit_any A1 p c1 x wr i HI1.out (by omega) (by omega)
        have hd2 := digit_any A2 q c2 y wr i HI2.out (by omega) (by omega)
        have hz : i = m → x[i]?.getD 0 = 0 ∧ y[i]?.getD 0 = 0 := fun e => by
          rw [List.getElem?_eq_none (by have := HP.out; omega), List.getElem?_eq_none (by have := HQ.out; omega)]; exact ⟨rfl, rfl⟩
        generalize x[i]?.getD 0 = a at *
        generalize y[i]?.getD 0 = b at *
        have HZ := Lib.hid hz
        clear hz
        have hs1 : IntKind.u64.wrap (a + b) = a + b := by rw [IntKind.wrap_u64]; omega
        obtain ⟨S, hS⟩ : ∃ S : Int, S = a + b + (cy : Int) := ⟨_, rfl⟩
        have hs2 : IntKind.u64.wrap (a + b + (cy : Int)) = S := by rw [IntKind.wrap_u64]; omega
        have hst1 := hst S hS
        have hSb : 0 ≤ S ∧ S < 8589934592 := by omega
        have hr1 : Int.tmod S 4294967296 = S % 4294967296 := Int.tmod_eq_emod_of_nonneg hSb.1
        have hr2 : IntKind.u64.wrap (Int.tdiv S 4294967296) = S / 4294967296 := by rw [IntKind.wrap_u64, Int.tdiv_eq_ediv_of_nonneg hSb.1]; omega
        have HS := Lib.hid hS
        have HST := Lib.hid hst1
        have HSB := Lib.hid hSb
        have HD1 := Lib.hid hd1
        have HD2 := Lib.hid hd2
        have OWN2 := Lib.hid (HOWN.out.alloc (.cells #[.int .u64 (S % 4294967296)] 46))
        have CELLS2 := Lib.hid (one_cell wr (S % 4294967296) 46)
        have SIZE2 := Lib.hid (Nat.le_trans HBB.out.size (Nat.le_of_lt (alloc_lt wr (.cells #[.int .u64 (S % 4294967296)] 46))))
        have H63 := Lib.hid (show i + 1 ≤ maxLen by simp only [maxLen]; omega)
        clear hst hst1 hSb hd1 hd2 hS r1 r2
        go_wp2_with fail
        refine HD1.out.mono ?_
        rintro e w' ⟨rfl, rfl⟩
        go_wp2_with fail
        refine HD2.out.mono ?_
        rintro e w' ⟨rfl, rfl⟩
        go_wp2_with (at_builtin; refine wpList_append_own _ rfl (.tmp 40) (.tmp 43) _ rfl w2.heap.size 46 i0 _ 1 8 Try.underlying59 hi0 hz0 hz1 hz2 rfl (Nat.le_refl 1) u7 i (o.map (Value.int .u64)) rfl OWN2.out ⟨wr.heap.size, 0, none⟩ 1 1 [Value.int .u64 (S % 4294967296)] rfl CELLS2.out.1 CELLS2.out.2.1 CELLS2.out.2.2 H63.out (by omega) SIZE2.out ?_; intro v1 w4 hown1 hg1 _)
        have own3 : w4.ownsRow w2.heap.size 46 1 v1 (i + 1) ((o ++ [S % 4294967296]).map (Value.int .u64)) := by rw [List.map_append]; exact hown1
        have hdo3 : Nt.Dig 4294967296 (o ++ [S % 4294967296]) := HDO.out.append (Nt.Dig.one (by omega) (by omega))
        have hbb3 : Below w2.heap.size w2 w4 := ((HBB.out).alloc HBB.out.size _).grown hg1 (Nat.le_trans HBB.out.size (Nat.le_of_lt (alloc_lt wr _))) (fun b hb => (OWN2.out.lt b hb).1)
        have OWN3 := Lib.hid own3
        have DO3 := Lib.hid hdo3
        have BB3 := Lib.hid hbb3
        clear own3 hdo3 hbb3 hown1 hg1
        go_wp2
        go_roundw
        case rel => exact ⟨i + 1, (S / 4294967296).toNat, o ++ [S % 4294967296], by go_num, by have := HSB.out; rw [Int.toNat_of_nonneg (by omega)], by have := HSB.out; omega, (by
            have g1 := HSB.out; have g2 := HS.out
            rcases Nat.lt_or_ge i m with g3 | g3
            · exact .inl g3
            · obtain ⟨g4, g5⟩ := HZ.out (by omega)
              right; constructor <;> omega), by rw [List.length_append, HOL.out]; rfl, OWN3.out, DO3.out, HST.out, BB3.out⟩
        case measure => simp [intOf]; omega
    · subst k3
      have hv : Nt.val 4294967296 o = N + M := by
        have h9 := HVAL.out
        rw [List.take_of_length_le (by have := HP.out; omega), List.take_of_length_le (by have := HQ.out; omega), HVX.out, HVY.out] at h9
        omega
      obtain ⟨A', c', hv3, hu3⟩ := U.of_own HOWN.out
      have HU3 := Lib.hid hu3
      have HV3 := Lib.hid hv
      clear hu3 hv HOWN
      subst hv3
      go_wp2_with fail
      refine (limbs_any A' i c' o _ HU3.out (by omega) HDO.out).mono ?_
      rintro e w4 ⟨A4, c4, rfl, hu4, hb4⟩
      rw [HV3.out] at hu4 ⊢
      have HU4 := Lib.hid hu4
      have HB4 := Lib.hid (HB2.out.trans ((HBB.out.trans (hb4.mono HBB.out.size)).mono HB2.out.size))
      clear hu4 hb4
      go_wp2
      go_ret
      exact ⟨A4, c4, rfl, HU4.out, HB4.out⟩
end Go.Proofs.Ytgockebgcbmgoaa

namespace Go.Proofs.Ytgockebgcbmgoaa
open Go.RowKit

namespace Nt
theorem sub_step (x y o : List Int) (i b : Nat) (S : Int) (hdx : Dig 4294967296 x) (hdy : Dig 4294967296 y) (hb : b ≤ 1) (hS : S = 4294967296 + x[i]?.getD 0 - y[i]?.getD 0 - b) (hol : o.length = i)
    (hval : val 4294967296 o + val 4294967296 (y.take i) = val 4294967296 (x.take i) + 4294967296 ^ i * b) :
    val 4294967296 (o ++ [S % 4294967296]) + val 4294967296 (y.take (i + 1)) = val 4294967296 (x.take (i + 1)) + 4294967296 ^ (i + 1) * (1 - S / 4294967296).toNat := by
  have h1 := dig_get (by decide) hdx i
  have h2 := dig_get (by decide) hdy i
  rw [val_snoc, val_take_succ _ x i hdx, val_take_succ _ y i hdy, hol, Nat.pow_succ]
  generalize x[i]?.getD 0 = a at *
  generalize y[i]?.getD 0 = c at *
  have h3 : (S % 4294967296).toNat + c.toNat + b = a.toNat + 4294967296 * (1 - S / 4294967296).toNat := by omega
  generalize (S % 4294967296).toNat = r at *
  generalize (1 - S / 4294967296).toNat = q at *
  generalize a.toNat = a' at *
  generalize c.toNat = c' at *
  generalize (4294967296 : Nat) ^ i = P at *
  have h4 : P * (r + c' + b) = P * (a' + 4294967296 * q) := by rw [h3]
  rw [Nat.mul_add, Nat.mul_add, Nat.mul_add] at h4
  rw [Nat.mul_assoc]
  omega
theorem sub_end (x y o : List Int) (p b N M : Nat) (hx : x = dg 4294967296 N) (hy : y = dg 4294967296 M) (hMN : M ≤ N) (hp : x.length = p) (hol : o.length = p) (hdo : Dig 4294967296 o)
    (hval : val 4294967296 o + val 4294967296 (y.take p) = val 4294967296 (x.take p) + 4294967296 ^ p * b) : val 4294967296 o = N - M := by
  have hN : N < 4294967296 ^ p := by
    have := val_lt 4294967296 (by decide) x (by rw [hx]; exact dig_dg _ (by decide) N)
    rw [hp, hx, val_dg _ (by decide)] at this; exact this
  have hyl : y.length ≤ p := by rw [hy]; exact dg_len _ (by decide) p M (by omega)
  rw [List.take_of_length_le hyl, List.take_of_length_le (by omega), hx, hy, val_dg _ (by decide), val_dg _ (by decide)] at hval
  have ho := val_lt 4294967296 (by decide) o hdo
  rw [hol] at ho
  generalize (4294967296 : Nat) ^ p = P at *
  rcases b with _ | b
  · rw [Nat.mul_zero] at hval; omega
  · rw [Nat.mul_add, Nat.mul_one] at hval; omega
end Nt
theorem ownsRow_drewN {w : World} {base : Nat} {e : TypeId} {size : Nat} {v : Value} {n : Nat} {xs : List Value} (h : w.ownsRow base e size v n xs) (nq : Nat) : (w.drewN nq).ownsRow base e size v n xs := h
set_option maxRecDepth 400000 in
set_option maxHeartbeats 2000000 in
theorem natSub_any (A : Option Addr) (n c : Nat) (l : List Int) (A' : Option Addr) (n' c' : Nat) (l' : List Int) (w : World) (h : U w A n c l) (hl : n ≤ 100000000) (hd : Nt.Dig 18446744073709551616 l) (h' : U w A' n' c' l') (hl' : n' ≤ 100000000) (hd' : Nt.Dig 18446744073709551616 l') (hle : Nt.val 18446744073709551616 l' ≤ Nt.val 18446744073709551616 l) :
    Calls Try.prog 73 #[.slice A n c, .slice A' n' c'] w (NatPost (Nt.val 18446744073709551616 l - Nt.val 18446744073709551616 l') w) := by
  obtain ⟨i0, hi0, hz0, hz1, hz2⟩ := info_parts u64_info
  have len1 : (Nt.dg 4294967296 (Nt.val 18446744073709551616 l)).length ≤ 2 * n := Nt.dg_len _ (by decide) _ _ (by have h9 := Nt.val_lt 18446744073709551616 (by decide) l hd; rw [h.1] at h9; rwa [Nt.sq_pow] at h9)
  have len2 : (Nt.dg 4294967296 (Nt.val 18446744073709551616 l')).length ≤ 2 * n' := Nt.dg_len _ (by decide) _ _ (by have h9 := Nt.val_lt 18446744073709551616 (by decide) l' hd'; rw [h'.1] at h9; rwa [Nt.sq_pow] at h9)
  have hv1 := halves_any A n c l w h (by omega) hd
  have hv2 := fun w1 (hb : Below w.heap.size w w1) => halves_any A' n' c' l' w1 (h'.below hb) (by omega) hd'
  clear h h' hd hd'
  generalize Nt.val 18446744073709551616 l = N at *
  generalize Nt.val 18446744073709551616 l' = M at *
  have HV1 := Lib.hid hv1
  have HV2 := Lib.hid hv2
  have HLE := Lib.hid hle
  clear hv1 hv2 hle
  go_enter Try.func73, Try.ntmps73
  go_wp2_with fail
  refine HV1.out.mono ?_
  rintro e w1 ⟨A1, c1, rfl, hu, hb⟩
  have HU := Lib.hid hu
  have HB := Lib.hid hb
  clear hu hb
  go_wp2_with fail
  refine (HV2.out _ HB.out).mono ?_
  rintro e w2 ⟨A2, c2, rfl, hu, hb⟩
  have HU1 := Lib.hid (HU.out.below hb)
  have HU2 := Lib.hid hu
  have HB2 := Lib.hid (HB.out.trans (hb.mono HB.out.size))
  clear hu hb HU HV1 HV2
  have HDX := Lib.hid (Nt.dig_dg 4294967296 (by decide) N)
  have HDY := Lib.hid (Nt.dig_dg 4294967296 (by decide) M)
  obtain ⟨x, hx⟩ : ∃ x, x = Nt.dg 4294967296 N := ⟨_, rfl⟩
  obtain ⟨y, hy⟩ : ∃ y, y = Nt.dg 4294967296 M := ⟨_, rfl⟩
  rw [← hx] at HDX HU1 len1 ⊢
  rw [← hy] at HDY HU2 len2 ⊢
  have HX := Lib.hid hx
  have HY := Lib.hid hy
  clear hx hy
  obtain ⟨p, hp⟩ : ∃ p, x.length = p := ⟨_, rfl⟩
  obtain ⟨q, hq⟩ : ∃ q, y.length = q := ⟨_, rfl⟩
  rw [hp, hq]
  rw [hp] at len1 HU1
  rw [hq] at len2 HU2
  have HP := Lib.hid hp
  have HQ := Lib.hid hq
  clear hp hq
  have hpb : p ≤ 200000000 := by omega
  have hqb : q ≤ 200000000 := by omega
  clear len1 len2
  go_wp2_with fail
  go_loopw [7, 8, 9] (fun v u t wr => ∃ (i b : Nat) (o : List Int), t = .int .i64 i ∧ u = .int .u64 b ∧ b ≤ 1 ∧ i ≤ p ∧ o.length = i ∧ wr.ownsRow w2.heap.size 46 1 v i (o.map (Value.int .u64)) ∧ Nt.Dig 4294967296 o ∧ Nt.val 4294967296 o + Nt.val 4294967296 (y.take i) = Nt.val 4294967296 (x.take i) + 4294967296 ^ i * b ∧ Below w2.heap.size w2 wr) (fun _ _ t _ => p - (intOf t).toNat)
  case atStart => exact ⟨0, 0, [], rfl, rfl, by omega, Nat.zero_le _, rfl, ⟨by simp, .inl ⟨rfl, rfl⟩⟩, (fun z hz => by cases hz), by simp [Nt.val], Below.refl _ _⟩
  case round =>
    obtain ⟨i, b, o, rfl, rfl, hcy, him, hol, hown, hdo, hval, hb2⟩ := hrel
    have HOL := Lib.hid hol
    have HOWN := Lib.hid hown
    have HDO := Lib.hid hdo
    have HVAL := Lib.hid hval
    have HBB := Lib.hid hb2
    clear hol hown hdo hval hb2
    by_cases hlt : i < p
    · have r1 := Nt.dig_get (by decide) HDX.out i
      have r2 := Nt.dig_get (by decide) HDY.out i
      have HI1 := Lib.hid (HU1.out.below HBB.out)
      have HI2 := Lib.hid (HU2.out.below HBB.out)
      have hst := fun S hS => Nt.sub_step x y o i b S HDX.out HDY.out hcy hS HOL.out HVAL.out
      have hd2 := fun nq => Calls.quiet_of_same ((digit_any A2 q c2 y (wr.drewN nq) i (HI2.out.below (below_drewN (Below.refl _ _) nq)) (by omega) (by omega)).mono (fun _ _ he => ⟨he.1, he.2.symm⟩))
      obtain ⟨a, ha⟩ : ∃ a, x[i]? = some a := ⟨_, List.getElem?_eq_getElem (by have := HP.out; omega)⟩
      obtain ⟨ad, rfl, _, hc⟩ := HI1.out.2.2.2 i a ha
      rw [ha] at r1 hst
      simp only [Option.getD_some] at r1 hst
      clear ha
      generalize y[i]?.getD 0 = d at *
      have hs1 : IntKind.u64.wrap (4294967296 + a) = 4294967296 + a := by rw [IntKind.wrap_u64]; omega
      have hs3 : IntKind.u64.wrap (4294967296 + a - d) = 4294967296 + a - d := by rw [IntKind.wrap_u64]; omega
      obtain ⟨S, hS⟩ : ∃ S : Int, S = 4294967296 + a - d - (b : Int) := ⟨_, rfl⟩
      have hs2 : IntKind.u64.wrap (4294967296 + a - d - (b : Int)) = S := by rw [IntKind.wrap_u64]; omega
      have hst1 := hst S hS
      have hSb : 0 ≤ S ∧ S < 8589934592 := by omega
      have hr1 : Int.tmod S 4294967296 = S % 4294967296 := Int.tmod_eq_emod_of_nonneg hSb.1
      have hr2 : IntKind.u64.wrap (Int.tdiv S 4294967296) = S / 4294967296 := by rw [IntKind.wrap_u64, Int.tdiv_eq_ediv_of_nonneg hSb.1]; omega
      have hr3 : IntKind.u64.wrap (1 - S / 4294967296) = 1 - S / 4294967296 := by rw [IntKind.wrap_u64]; omega
      have HS := Lib.hid hS
      have HST := Lib.hid hst1
      have HSB := Lib.hid hSb
      have HD2 := Lib.hid hd2
      have OWN2 : Hid (∀ nq, ((wr.drewN nq).alloc (.cells #[.int .u64 (S % 4294967296)] 46)).ownsRow w2.heap.size 46 1 u7 i (o.map (Value.int .u64))) := Lib.hid (fun nq => ownsRow_drewN HOWN.out nq |>.alloc _)
      have CELLS2 := Lib.hid (fun nq => one_cell (wr.drewN nq) (S % 4294967296) 46)
      have SIZE2 : Hid (∀ nq, w2.heap.size ≤ ((wr.drewN nq).alloc (.cells #[.int .u64 (S % 4294967296)] 46)).heap.size) := Lib.hid (fun nq => Nat.le_trans (below_drewN HBB.out nq).size (Nat.le_of_lt (alloc_lt (wr.drewN nq) (.cells #[.int .u64 (S % 4294967296)] 46))))
      have H63 := Lib.hid (show i + 1 ≤ maxLen by simp only [maxLen]; omega)
      clear hst hst1 hSb hd2 hS r1 r2
      go_wp2_with fail
      go_quiet ((go_at_call 86; exact HD2.out _))
      rename_i nq
      go_wp2_with (at_builtin; refine wpList_append_own _ rfl (.tmp 32) (.tmp 35) _ rfl w2.heap.size 46 i0 _ 1 8 Try.underlying59 hi0 hz0 hz1 hz2 rfl (Nat.le_refl 1) u7 i (o.map (Value.int .u64)) rfl (OWN2.out nq) ⟨wr.heap.size, 0, none⟩ 1 1 [Value.int .u64 (S % 4294967296)] rfl (CELLS2.out nq).1 (CELLS2.out nq).2.1 (CELLS2.out nq).2.2 H63.out (by omega) (SIZE2.out nq) ?_; intro v1 w4 hown1 hg1 _)
      have own3 : w4.ownsRow w2.heap.size 46 1 v1 (i + 1) ((o ++ [S % 4294967296]).map (Value.int .u64)) := by rw [List.map_append]; exact hown1
      have hdo3 : Nt.Dig 4294967296 (o ++ [S % 4294967296]) := HDO.out.append (Nt.Dig.one (by omega) (by omega))
      have hbb3 : Below w2.heap.size w2 w4 := ((below_drewN HBB.out nq).alloc HBB.out.size _).grown hg1 (SIZE2.out nq) (fun b hb => ((OWN2.out 0).lt b hb).1)
      have OWN3 := Lib.hid own3
      have DO3 := Lib.hid hdo3
      have BB3 := Lib.hid hbb3
      clear own3 hdo3 hbb3 hown1 hg1
      go_wp2
      go_roundw
      case rel => exact ⟨i + 1, (1 - S / 4294967296).toNat, o ++ [S % 4294967296], by go_num, by have := HSB.out; rw [Int.toNat_of_nonneg (by omega)], by have := HSB.out; omega, by omega, by rw [List.length_append, HOL.out]; rfl, OWN3.out, DO3.out, HST.out, BB3.out⟩
      case measure => simp [intOf]; omega
    · have hip : i = p := by omega
      have hv := Nt.sub_end x y o i b N M HX.out HY.out HLE.out (by rw [HP.out, hip]) HOL.out HDO.out HVAL.out
      clear hip
      obtain ⟨A', c', hv3, hu3⟩ := U.of_own HOWN.out
      have HU3 := Lib.hid hu3
      have HV3 := Lib.hid hv
      clear hu3 hv HOWN
      subst hv3
      go_wp2_with fail
      refine (limbs_any A' i c' o _ HU3.out (by omega) HDO.out).mono ?_
      rintro e w4 ⟨A4, c4, rfl, hu4, hb4⟩
      rw [HV3.out] at hu4 ⊢
      have HU4 := Lib.hid hu4
      have HB4 := Lib.hid (HB2.out.trans ((HBB.out.trans (hb4.mono HBB.out.size)).mono HB2.out.size))
      clear hu4 hb4
      go_wp2
      go_ret
      exact ⟨A4, c4, rfl, HU4.out, HB4.out⟩
end Go.Proofs.Ytgockebgcbmgoaa

/-
  The contracts of rosettelaw02's against, did and plain.
-/
import Derived.Test.YtgockebgcbmgoaaBtwa
import Derived.Test.YtgockebgcbmgoaaBtwp
import Derived.Test.YtgockebgcbmgoaaSqrtb
import Derived.Test.YtgockebgcbmgoaaDiv
import Derived.Test.YtgockebgcbmgoaaMulb
set_option linter.unusedVariables false
set_option linter.unusedSimpArgs false
namespace Go.Proofs.Ytgockebgcbmgoaa
open Go.RowKit
theorem nv_float3 (f : Nat) : Nt.nv (Fl.sg f) (Fl.mant (Fl.rg f)) (Fl.pl f) 2148 = Fl.vl f * 2 ^ Fl.E := by
  rw [nv_float2 f 2148 (by rw [E_int]; rfl), Fl.vl_sgz, Fl.sgz_pow]; rfl
theorem nv_prod3 (a b : Nat) : Nt.nv (Fl.sg a != Fl.sg b) (Fl.mant (Fl.rg a) * Fl.mant (Fl.rg b)) (Fl.pl a + Fl.pl b) 2148 = Fl.vl a * Fl.vl b := by
  rw [nv_prod a b 2148 (by decide), Fl.vl_sgz, Fl.vl_sgz, Fl.sgz_mul]
  cases Fl.sg a <;> cases Fl.sg b <;> rfl
theorem pl_low (a : Nat) : 0 ≤ Fl.pl a + 1074 := by unfold Fl.pl; omega
theorem lt_of_key {b : Nat} (h : Fl.rg b ≤ Fl.I) : (Fl.key b < 0 → FloatKind.f64.format.order b 0 = some .lt) ∧ (¬ Fl.key b < 0 → (FloatKind.f64.format.order b 0 == some .lt) = false) := by
  have h0 := Fl.ord0 b h
  rw [Fl.compare_int] at h0
  constructor
  · intro hk; rw [if_pos hk] at h0; exact h0
  · intro hk; rw [if_neg hk] at h0; rw [h0]; split <;> rfl
theorem against_any (op : Int) (a b t : Nat) (w : World) (ha : a < 2 * Fl.W) (hb : b < 2 * Fl.W) (ht : t < 2 * Fl.W) (o1 : 0 ≤ op) (o2 : op < 5) (hp : Fl.PlainP op a b) (ft : Fl.rg t < Fl.I) :
    Calls Try.prog 37 #[.int .i64 op, .float .f64 a, .float .f64 b, .float .f64 t] w fun r w' => r = .returned (.int .i64 (oi (Fl.agS op a b t))) ∧ Below w.heap.size w w' := by
  have HA := fun x => float_any a x ha
  have HB := fun x => float_any b x hb
  have HT := fun x => float_any t x ht
  have fa : Fl.rg a < Fl.I := by unfold Fl.PlainP at hp; split at hp; exact hp.1; exact hp.1
  have sa := float_small_any a ha
  have sb := float_small_any b hb
  have st := float_small_any t ht
  have la := sa.len
  have lb := sb.len
  have lt := st.len
  have ra := sa.2
  have rb := sb.2
  have rt := st.2
  have pa := pl_low a
  have pb := pl_low b
  have pt := pl_low t
  have hop : op = 0 ∨ op = 1 ∨ op = 2 ∨ op = 3 ∨ op = 4 := by omega
  unfold Fl.PlainP at hp
  unfold Fl.agS
  rcases hop with rfl | rfl | rfl | rfl | rfl
  · rw [if_neg (by decide)] at hp
    rw [if_pos rfl]
    obtain ⟨g3, g4⟩ := Nt.plusN_val (Fl.sg a) (Fl.mant (Fl.rg a)) (Fl.pl a) (Fl.sg b) (Fl.mant (Fl.rg b)) (Fl.pl b) 1074 pa pb
    have s3 := sum_small a b (Nat.le_of_lt fa) (Nat.le_of_lt hp.2.1) (Fl.sg a) (Fl.sg b)
    refine ag_plus a b t w _ _ _ _ _ _ _ _ _ _ _ _ _ HA HB HT (fun x u v hu hv => plus_any u _ _ _ v _ _ _ x hu hv (by omega) (by omega) (by omega) (by omega) (by omega) (by omega)) (fun x u v hu hv => ?_)
    have h := compare_b u _ _ _ v _ _ _ 1074 x hu hv st s3 pt g3
    rw [g4, nv_float, nv_float, nv_float] at h
    exact h
  · rw [if_neg (by decide)] at hp
    rw [if_neg (by decide), if_pos rfl]
    obtain ⟨g3, g4⟩ := Nt.plusN_val (Fl.sg a) (Fl.mant (Fl.rg a)) (Fl.pl a) (!Fl.sg b) (Fl.mant (Fl.rg b)) (Fl.pl b) 1074 pa pb
    have s3 := sum_small a b (Nat.le_of_lt fa) (Nat.le_of_lt hp.2.1) (Fl.sg a) (!Fl.sg b)
    refine ag_less a b t w _ _ _ _ _ _ _ _ _ _ _ _ _ HA HB HT (fun x u v hu hv => less_any u _ _ _ v _ _ _ x hu hv (by omega) (by omega) (by omega) (by omega) (by omega) (by omega)) (fun x u v hu hv => ?_)
    have h := compare_b u _ _ _ v _ _ _ 1074 x hu hv st s3 pt g3
    rw [g4, Nt.nv_not, nv_float, nv_float, nv_float, ← Fl.vl_ng b hb] at h
    exact h
  · rw [if_neg (by decide)] at hp
    rw [if_neg (by decide), if_neg (by decide), if_pos rfl]
    have s3 := prod_small a b (Nat.le_of_lt fa) (Nat.le_of_lt hp.2.1)
    refine ag_times a b t w _ _ _ _ _ _ _ _ _ _ _ _ _ HA HB HT (fun x u v hu hv => times_any u _ _ _ v _ _ _ x hu hv (by omega) (by omega) (by omega) (by omega) (by omega) (by omega)) (fun x u v hu hv => ?_)
    have h := compare_b u _ _ _ v _ _ _ 2148 x hu hv st s3 (by omega) (by omega)
    rw [nv_float3, nv_prod3] at h
    exact h
  · rw [if_neg (by decide)] at hp
    rw [if_neg (by decide), if_neg (by decide), if_neg (by decide), if_pos rfl]
    have s3 := prod_small t b (Nat.le_of_lt ft) (Nat.le_of_lt hp.2.1)
    obtain ⟨n1, n2⟩ := lt_of_key (Nat.le_of_lt hp.2.1)
    unfold Fl.cQ
    by_cases hk : Fl.key b < 0
    · rw [if_pos hk]
      refine ag_quon a b t w _ _ _ _ _ _ _ _ _ _ _ _ _ (n1 hk) HA HB HT (fun x u v hu hv => times_any u _ _ _ v _ _ _ x hu hv (by omega) (by omega) (by omega) (by omega) (by omega) (by omega)) (fun x u v hu hv => ?_)
      have h := compare_b u _ _ _ v _ _ _ 2148 x hu hv sa s3 (by omega) (by omega)
      rw [nv_float3, nv_prod3] at h
      exact h
    · rw [if_neg hk]
      refine ag_quop a b t w _ _ _ _ _ _ _ _ _ _ _ _ _ (n2 hk) HA HB HT (fun x u v hu hv => times_any u _ _ _ v _ _ _ x hu hv (by omega) (by omega) (by omega) (by omega) (by omega) (by omega)) (fun x u v hu hv => ?_)
      have h := compare_b u _ _ _ v _ _ _ 2148 x hu hv s3 sa (by omega) (by omega)
      rw [nv_float3, nv_prod3] at h
      exact h
  · rw [if_neg (by decide), if_neg (by decide), if_neg (by decide), if_neg (by decide)]
    have s3 := prod_small t t (Nat.le_of_lt ft) (Nat.le_of_lt ft)
    obtain ⟨n1, n2⟩ := lt_of_key (Nat.le_of_lt ft)
    unfold Fl.cT
    by_cases hk : Fl.key t < 0
    · rw [if_pos hk]
      exact ag_neg a b t w _ _ _ _ _ _ _ _ _ (n1 hk) HA HB HT
    · rw [if_neg hk]
      refine ag_root a b t w _ _ _ _ _ _ _ _ _ _ _ _ _ (n2 hk) HA HB HT (fun x u v hu hv => times_any u _ _ _ v _ _ _ x hu hv (by omega) (by omega) (by omega) (by omega) (by omega) (by omega)) (fun x u v hu hv => ?_)
      have h := compare_b u _ _ _ v _ _ _ 2148 x hu hv s3 sa (by omega) (by omega)
      rw [nv_float3, nv_prod3] at h
      exact h
theorem did_any (op : Int) (a b : Nat) (up : Bool) (w : World) (ha : a < 2 * Fl.W) (hb : b < 2 * Fl.W) (o1 : 0 ≤ op) (o2 : op < 5) :
    Calls Try.prog 35 #[.int .i64 op, .float .f64 a, .float .f64 b, .bool up] w (FlPost (Fl.didS op a b up) w) := by
  have hop : op = 0 ∨ op = 1 ∨ op = 2 ∨ op = 3 ∨ op = 4 := by omega
  obtain ⟨T, hT⟩ : ∃ T, T = Fl.didS op a b up := ⟨_, rfl⟩
  rw [← hT]
  unfold Fl.didS at hT
  rcases hop with rfl | rfl | rfl | rfl | rfl
  · rw [if_pos rfl] at hT
    have HC : Hid (∀ x, Calls Try.prog 24 #[.float .f64 a, .float .f64 b, .bool up] x (FlPost T x)) := Lib.hid (fun x => by rw [hT]; exact add_any a b up x ha hb)
    clear hT
    go_enter Try.func35, Try.ntmps35
    go_wp2_with fail
    refine (HC.out _).mono ?_
    rintro e w' ⟨s, rfl, hs, hd⟩
    have HS := Lib.hid hs
    clear hs
    go_wp2
    go_ret
    exact ⟨s, rfl, HS.out, hd⟩
  · rw [if_neg (by decide), if_pos rfl] at hT
    have HC : Hid (∀ x, Calls Try.prog 27 #[.float .f64 a, .float .f64 b, .bool up] x (FlPost T x)) := Lib.hid (fun x => by rw [hT]; exact sub_walk a b up x ha hb)
    clear hT
    go_enter Try.func35, Try.ntmps35
    go_wp2_with fail
    refine (HC.out _).mono ?_
    rintro e w' ⟨s, rfl, hs, hd⟩
    have HS := Lib.hid hs
    clear hs
    go_wp2
    go_ret
    exact ⟨s, rfl, HS.out, hd⟩
  · rw [if_neg (by decide), if_neg (by decide), if_pos rfl] at hT
    have HC : Hid (∀ x, Calls Try.prog 25 #[.float .f64 a, .float .f64 b, .bool up] x (FlPost T x)) := Lib.hid (fun x => by rw [hT]; exact mul_any a b up x ha hb)
    clear hT
    go_enter Try.func35, Try.ntmps35
    go_wp2_with fail
    refine (HC.out _).mono ?_
    rintro e w' ⟨s, rfl, hs, hd⟩
    have HS := Lib.hid hs
    clear hs
    go_wp2
    go_ret
    exact ⟨s, rfl, HS.out, hd⟩
  · rw [if_neg (by decide), if_neg (by decide), if_neg (by decide), if_pos rfl] at hT
    have HC : Hid (∀ x, Calls Try.prog 26 #[.float .f64 a, .float .f64 b, .bool up] x (FlPost T x)) := Lib.hid (fun x => by rw [hT]; exact div_any a b up x ha hb)
    clear hT
    go_enter Try.func35, Try.ntmps35
    go_wp2_with fail
    refine (HC.out _).mono ?_
    rintro e w' ⟨s, rfl, hs, hd⟩
    have HS := Lib.hid hs
    clear hs
    go_wp2
    go_ret
    exact ⟨s, rfl, HS.out, hd⟩
  · rw [if_neg (by decide), if_neg (by decide), if_neg (by decide), if_neg (by decide)] at hT
    have HC : Hid (∀ x, Calls Try.prog 28 #[.float .f64 a, .bool up] x (FlPost T x)) := Lib.hid (fun x => by rw [hT]; exact sqrt_walk a up x ha)
    clear hT
    go_enter Try.func35, Try.ntmps35
    go_wp2_with fail
    refine (HC.out _).mono ?_
    rintro e w' ⟨s, rfl, hs, hd⟩
    have HS := Lib.hid hs
    clear hs
    go_wp2
    go_ret
    exact ⟨s, rfl, HS.out, hd⟩
/-- Is a float 0 or above? -/
theorem geq0 {a : Nat} (h : Fl.rg a < Fl.I) : (0 ≤ Fl.key a → FloatKind.f64.format.order a 0 = some .eq ∨ FloatKind.f64.format.order a 0 = some .gt) ∧ (¬ 0 ≤ Fl.key a → FloatKind.f64.format.order a 0 = some .lt) := by
  have h0 := Fl.ord0 a (Nat.le_of_lt h)
  rw [Fl.compare_int] at h0
  constructor
  · intro hk
    rw [if_neg (by omega)] at h0
    split at h0
    · exact .inl h0
    · exact .inr h0
  · intro hk; rw [if_pos (by omega)] at h0; exact h0
theorem eq0 {b : Nat} (h : Fl.rg b < Fl.I) : (0 < Fl.rg b → FloatKind.f64.format.order b 0 = some .lt ∨ FloatKind.f64.format.order b 0 = some .gt) ∧ (¬ 0 < Fl.rg b → FloatKind.f64.format.order b 0 = some .eq) := by
  have h0 := Fl.ord0 b (Nat.le_of_lt h)
  rw [Fl.compare_int] at h0
  have hk := Fl.rg_key b
  constructor
  · intro hp
    rw [h0]
    split
    · exact .inl rfl
    · rw [if_neg (by omega)]; exact .inr rfl
  · intro hp
    rw [if_neg (by omega), if_pos (by omega)] at h0; exact h0
theorem plain_any (op : Int) (a b : Nat) (w : World) (ha : a < 2 * Fl.W) (hb : b < 2 * Fl.W) (o1 : 0 ≤ op) (o2 : op < 5) :
    Calls Try.prog 36 #[.int .i64 op, .float .f64 a, .float .f64 b] w fun e w' => ∃ p : Bool, e = .returned (.bool p) ∧ (p = true ↔ Fl.PlainP op a b) ∧ Dr w w' := by
  unfold Fl.PlainP
  by_cases h4 : op = 4
  · rw [if_pos h4]
    by_cases fa : Fl.rg a < Fl.I
    · obtain ⟨g1, g2⟩ := geq0 fa
      by_cases hk : 0 ≤ Fl.key a
      · have o := g1 hk
        have HW := Lib.hid hk
        have HF := Lib.hid fa
        clear g1 g2 hk o1 o2
        subst h4
        rcases o with o | o
        all_goals
          go_enter Try.func36, Try.ntmps36
          go_wp2_with fail
          refine (kfinite_yes a _ ha HF.out).mono ?_
          rintro e w' ⟨rfl, rfl⟩
          go_wp2
          go_ret
          exact ⟨true, rfl, ⟨fun _ => ⟨HF.out, HW.out⟩, fun _ => rfl⟩, Dr.refl _⟩
      · have o := g2 hk
        have HW := Lib.hid hk
        have HF := Lib.hid fa
        clear g1 g2 hk o1 o2
        subst h4
        go_enter Try.func36, Try.ntmps36
        go_wp2_with fail
        refine (kfinite_yes a _ ha HF.out).mono ?_
        rintro e w' ⟨rfl, rfl⟩
        go_wp2
        go_ret
        exact ⟨false, rfl, ⟨fun h => Bool.noConfusion h, fun h => absurd h.2 (by have := HW.out; omega)⟩, Dr.refl _⟩
    · have HF := Lib.hid fa
      clear o1 o2
      subst h4
      go_enter Try.func36, Try.ntmps36
      go_wp2_with fail
      refine (kfinite_no a _ HF.out).mono ?_
      rintro e w' ⟨rfl, hd⟩
      go_wp2
      go_ret
      exact ⟨false, rfl, ⟨fun h => Bool.noConfusion h, fun h => absurd h.1 HF.out⟩, hd⟩
  · rw [if_neg h4]
    have hn4 : (op == 4) = false := by simpa using h4
    by_cases fa : Fl.rg a < Fl.I
    · by_cases fb : Fl.rg b < Fl.I
      · obtain ⟨g1, g2⟩ := eq0 fb
        by_cases h3 : op = 3
        · by_cases b0 : 0 < Fl.rg b
          · have o := g1 b0
            have HF := Lib.hid fa
            have HG := Lib.hid fb
            have HB := Lib.hid b0
            clear g1 g2 hn4 h4 b0 o1 o2
            subst h3
            rcases o with o | o
            all_goals
              go_enter Try.func36, Try.ntmps36
              go_wp2_with fail
              refine (kfinite_yes a _ ha HF.out).mono ?_
              rintro e w' ⟨rfl, rfl⟩
              go_wp2_with fail
              refine (kfinite_yes b _ hb HG.out).mono ?_
              rintro e w' ⟨rfl, rfl⟩
              go_wp2
              go_ret
              exact ⟨true, rfl, ⟨fun _ => ⟨HF.out, HG.out, .inr HB.out⟩, fun _ => rfl⟩, Dr.refl _⟩
          · have o := g2 b0
            have HF := Lib.hid fa
            have HG := Lib.hid fb
            have HB := Lib.hid b0
            clear g1 g2 hn4 h4 b0 o1 o2
            subst h3
            go_enter Try.func36, Try.ntmps36
            go_wp2_with fail
            refine (kfinite_yes a _ ha HF.out).mono ?_
            rintro e w' ⟨rfl, rfl⟩
            go_wp2_with fail
            refine (kfinite_yes b _ hb HG.out).mono ?_
            rintro e w' ⟨rfl, rfl⟩
            go_wp2
            go_ret
            exact ⟨false, rfl, ⟨fun h => Bool.noConfusion h, fun h => by rcases h.2.2 with h | h; exact absurd rfl h; exact absurd h HB.out⟩, Dr.refl _⟩
        · have hn3 : (op == 3) = false := by simpa using h3
          have HF := Lib.hid fa
          have HG := Lib.hid fb
          have H3 := Lib.hid h3
          clear g1 g2 h4 h3 o1 o2
          go_enter Try.func36, Try.ntmps36
          go_wp2_with fail
          refine (kfinite_yes a _ ha HF.out).mono ?_
          rintro e w' ⟨rfl, rfl⟩
          go_wp2_with fail
          refine (kfinite_yes b _ hb HG.out).mono ?_
          rintro e w' ⟨rfl, rfl⟩
          go_wp2
          go_ret
          exact ⟨true, rfl, ⟨fun _ => ⟨HF.out, HG.out, .inl H3.out⟩, fun _ => rfl⟩, Dr.refl _⟩
      · have HF := Lib.hid fa
        have HG := Lib.hid fb
        clear h4 o1 o2
        go_enter Try.func36, Try.ntmps36
        go_wp2_with fail
        refine (kfinite_yes a _ ha HF.out).mono ?_
        rintro e w' ⟨rfl, rfl⟩
        go_wp2_with fail
        refine (kfinite_no b _ HG.out).mono ?_
        rintro e w' ⟨rfl, hd⟩
        go_wp2
        go_ret
        exact ⟨false, rfl, ⟨fun h => Bool.noConfusion h, fun h => absurd h.2.1 HG.out⟩, hd⟩
    · have HF := Lib.hid fa
      clear h4 o1 o2
      go_enter Try.func36, Try.ntmps36
      go_wp2_with fail
      refine (kfinite_no a _ HF.out).mono ?_
      rintro e w' ⟨rfl, hd⟩
      go_wp2
      go_ret
      exact ⟨false, rfl, ⟨fun h => Bool.noConfusion h, fun h => absurd h.1 HF.out⟩, hd⟩
theorem pick_any (x n : Int) (w : World) (hn : 1 ≤ n) (hn2 : n ≤ 1000000) (hx1 : -9223372036854775808 ≤ x) (hx2 : x ≤ 9223372036854775807) : Calls Try.prog 34 #[.int .i64 x, .int .i64 n] w fun e w' => ∃ k : Nat, e = .returned (.int .i64 (k : Int)) ∧ (k : Int) < n ∧ w = w' := by
  have hq1 : ¬ n < 1 := by omega
  have hlt : -n < Int.tmod x n ∧ Int.tmod x n < n := ⟨Int.lt_tmod_of_pos x (by omega), Int.tmod_lt_of_pos x (by omega)⟩
  have hnz : n ≠ 0 := by omega
  have hnz2 : (n == 0) = false := by simpa using hnz
  by_cases hneg : Int.tmod x n < 0
  · obtain ⟨k, hk⟩ : ∃ k : Nat, Int.tmod x n + n = (k : Int) := ⟨(Int.tmod x n + n).toNat, by omega⟩
    have hk2 : (k : Int) < n := by omega
    have hw : IntKind.i64.wrap (Int.tmod x n + n) = (k : Int) := by rw [IntKind.wrap_i64]; omega
    have HK := Lib.hid hk2
    have HKE := Lib.hid hk
    generalize hr : Int.tmod x n = r at *
    have HR := Lib.hid hr
    go_enter Try.func34, Try.ntmps34
    go_wp2
    go_ret
    exact ⟨k, by first | rfl | (simp only [HKE.out]; rfl), HK.out, rfl⟩
  · obtain ⟨k, hk⟩ : ∃ k : Nat, Int.tmod x n = (k : Int) := ⟨(Int.tmod x n).toNat, by omega⟩
    have hk2 : (k : Int) < n := by omega
    have hw : ¬ (k : Int) < 0 := by omega
    have HK := Lib.hid hk2
    rw [hk] at hneg hlt
    go_enter Try.func34, Try.ntmps34
    go_wp2
    go_ret
    exact ⟨k, rfl, HK.out, rfl⟩
end Go.Proofs.Ytgockebgcbmgoaa

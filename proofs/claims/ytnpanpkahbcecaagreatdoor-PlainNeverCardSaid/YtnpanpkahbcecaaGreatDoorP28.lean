/-
Walks: shuffle.turned, shuffle.Order.
-/
import Derived.Test.YtnpanpkahbcecaaGreatDoorP4
import Derived.Test.YtnpanpkahbcecaaGreatDoorP10
import Derived.Test.YtnpanpkahbcecaaGreatDoorP25
import Derived.Lib.Hide
set_option linter.unusedVariables false
set_option linter.unusedSimpArgs false
namespace Go.Proofs.YtnpanpkahbcecaaGreatDoor
section
open Go.RowKit
theorem run_cadd (t : TypeId) (a b c d x y : Nat) (h1 : Ieee.double.add a c = some x) (h2 : Ieee.double.add b d = some y) (w : World) : (binOp .add t (.complex .f64 a b) (.complex .f64 c d)).run Tryz.prog w = .ok (.complex .f64 x y) w:=by
 simp [binOp,Op.complexOp,Op.Complex.arith,Op.floatArith,h1,h2,FloatKind.format]
theorem run_csub (t : TypeId) (a b c d x y : Nat) (h1 : Ieee.double.sub a c = some x) (h2 : Ieee.double.sub b d = some y) (w : World) : (binOp .sub t (.complex .f64 a b) (.complex .f64 c d)).run Tryz.prog w = .ok (.complex .f64 x y) w:=by
 simp [binOp,Op.complexOp,Op.Complex.arith,Op.floatArith,h1,h2,FloatKind.format]
def CAdd (z t : Nat × Nat) : Prop:=Ieee.double.add z.1 t.1 = some (cadd z t).1 /\ Ieee.double.add z.2 t.2 = some (cadd z t).2
def CSub (z t : Nat × Nat) : Prop:=Ieee.double.sub z.1 t.1 = some (csub z t).1 /\ Ieee.double.sub z.2 t.2 = some (csub z t).2
def CMul (z t : Nat × Nat) : Prop:=(Ieee.double.mul z.1 t.1 = some (fm z.1 t.1) /\ Ieee.double.mul z.2 t.2 = some (fm z.2 t.2)) /\ (Ieee.double.mul z.1 t.2 = some (fm z.1 t.2) /\ Ieee.double.mul z.2 t.1 = some (fm z.2 t.1)) /\ Ieee.double.sub (fm z.1 t.1) (fm z.2 t.2) = some (cmul z t).1 /\ Ieee.double.add (fm z.1 t.2) (fm z.2 t.1) = some (cmul z t).2
theorem padd_any (z t : Nat × Nat) (w : World) (h : CAdd z t) : Calls Tryz.prog 193 #[.complex .f64 z.1 z.2,.complex .f64 t.1 t.2] w fun e w'=>e = .returned (.complex .f64 (cadd z t).1 (cadd z t).2) /\ w = w':=by
 have hr:=run_cadd 160 z.1 z.2 t.1 t.2 _ _ h.1 h.2
 go_enter Tryz.func193,Tryz.ntmps193
 go_wp2
 go_ret
 exact ⟨rfl,rfl⟩
theorem psub_any (z t : Nat × Nat) (w : World) (h : CSub z t) : Calls Tryz.prog 194 #[.complex .f64 z.1 z.2,.complex .f64 t.1 t.2] w fun e w'=>e = .returned (.complex .f64 (csub z t).1 (csub z t).2) /\ w = w':=by
 have hr:=run_csub 160 z.1 z.2 t.1 t.2 _ _ h.1 h.2
 go_enter Tryz.func194,Tryz.ntmps194
 go_wp2
 go_ret
 exact ⟨rfl,rfl⟩
theorem pmul_any (z t : Nat × Nat) (w : World) (h : CMul z t) : Calls Tryz.prog 129 #[.complex .f64 z.1 z.2,.complex .f64 t.1 t.2] w fun e w'=>e = .returned (.complex .f64 (cmul z t).1 (cmul z t).2) /\ w = w':=by
 obtain ⟨⟨h1,h2⟩,⟨h3,h4⟩,h5,h6⟩:=h
 have r1:=fun w=>run_float_arith (P:=Tryz.prog) w .mul 76 .f64 _ _ _ h1
 have r2:=fun w=>run_float_arith (P:=Tryz.prog) w .mul 76 .f64 _ _ _ h2
 have r3:=fun w=>run_float_arith (P:=Tryz.prog) w .mul 76 .f64 _ _ _ h3
 have r4:=fun w=>run_float_arith (P:=Tryz.prog) w .mul 76 .f64 _ _ _ h4
 have r5:=fun w=>run_float_arith (P:=Tryz.prog) w .sub 76 .f64 _ _ _ h5
 have r6:=fun w=>run_float_arith (P:=Tryz.prog) w .add 76 .f64 _ _ _ h6
 clear h1 h2 h3 h4 h5 h6
 go_enter Tryz.func129,Tryz.ntmps129
 go_wp2
 go_ret
 exact ⟨rfl,rfl⟩
theorem pconj_any (a b : Nat) (w : World) (hb : b < 2 * Fl.W) : Calls Tryz.prog 170 #[.complex .f64 a b] w fun e w'=>e = .returned (.complex .f64 a (Fl.ng b)) /\ w = w':=by
 have hn : ∀ w,(Op.unary .neg (.float .f64 b)).run Tryz.prog w = .ok (.float .f64 (Fl.ng b)) w:=fun w=>by
  rw [<- Fl.neg_word b hb]; rfl
 go_enter Tryz.func170,Tryz.ntmps170
 go_wp2
 go_ret
 exact ⟨rfl,rfl⟩
end
section
open Go.RowKit
theorem c128_info : (Tryz.prog.info? 160).map (fun i=>(i.zero,i.size,i.bytes)) = some (some (.complex .f64 0 0),1,16):=by kernel_rfl
theorem f64_info : (Tryz.prog.info? 76).map (fun i=>(i.zero,i.size,i.bytes)) = some (some (.float .f64 0),1,8):=by kernel_rfl
theorem run_store_complex {P : Program} {w : World} {a : Addr} {m : Mode} (k : FloatKind) (x y : Nat) : (store a (.complex k x y) m).run P w = stored P w a (.complex k x y) m:=run_store P w a _ m rfl
def cvv (z : Nat × Nat) : Value:=.complex .f64 z.1 z.2
def fvv (x : Nat) : Value:=.float .f64 x
def CRow (w : World) (base g n : Nat) (l : List (Nat × Nat)) : Prop:=RowV 160 w base g n n (l.map cvv)
def FRow (w : World) (base g n : Nat) (l : List Nat) : Prop:=RowV 76 w base g n n (l.map fvv)
theorem CRow.len {w : World} {base g n : Nat} {l : List (Nat × Nat)} (h : CRow w base g n l) : l.length = n:=by have:=RowV.len h; simpa using this
theorem FRow.len {w : World} {base g n : Nat} {l : List Nat} (h : FRow w base g n l) : l.length = n:=by have:=RowV.len h; simpa using this
theorem CRow.cell {w : World} {base g n : Nat} {l : List (Nat × Nat)} (h : CRow w base g n l) (j : Nat) (z : Nat × Nat) (hj : l[j]? = some z) : w.cell? ⟨g,j,none⟩ = some (.complex .f64 z.1 z.2):=RowV.cell h j (cvv z) (by rw [List.getElem?_map,hj]; rfl)
theorem FRow.cell {w : World} {base g n : Nat} {l : List Nat} (h : FRow w base g n l) (j : Nat) (x : Nat) (hj : l[j]? = some x) : w.cell? ⟨g,j,none⟩ = some (.float .f64 x):=RowV.cell h j (fvv x) (by rw [List.getElem?_map,hj]; rfl)
theorem CRow.free {w : World} {base g n : Nat} {l : List (Nat × Nat)} (h : CRow w base g n l) (j : Nat) : w.frozen? ⟨g,j,none⟩ = false:=RowV.free h j
theorem FRow.free {w : World} {base g n : Nat} {l : List Nat} (h : FRow w base g n l) (j : Nat) : w.frozen? ⟨g,j,none⟩ = false:=RowV.free h j
theorem CRow.set {w : World} {base g n : Nat} {l : List (Nat × Nat)} (h : CRow w base g n l) (j : Nat) (z : Nat × Nat) : CRow (w.setCell ⟨g,j,none⟩ (.complex .f64 z.1 z.2)) base g n (l.set j z):=by
 have:=RowV.set h j (cvv z)
 unfold CRow; rw [List.map_set]; exact this
theorem FRow.set {w : World} {base g n : Nat} {l : List Nat} (h : FRow w base g n l) (j : Nat) (x : Nat) : FRow (w.setCell ⟨g,j,none⟩ (.float .f64 x)) base g n (l.set j x):=by
 have:=RowV.set h j (fvv x)
 unfold FRow; rw [List.map_set]; exact this
theorem CRow.lt {w : World} {base g n : Nat} {l : List (Nat × Nat)} (h : CRow w base g n l) : base <= g /\ g < w.heap.size:=RowV.lt h
theorem FRow.lt {w : World} {base g n : Nat} {l : List Nat} (h : FRow w base g n l) : base <= g /\ g < w.heap.size:=RowV.lt h
theorem CRow.drewN {w : World} {base g n : Nat} {l : List (Nat × Nat)} (h : CRow w base g n l) (m : Nat) : CRow (w.drewN m) base g n l:=h
theorem FRow.drewN {w : World} {base g n : Nat} {l : List Nat} (h : FRow w base g n l) (m : Nat) : FRow (w.drewN m) base g n l:=h
theorem CRow.drew {w : World} {base g n : Nat} {l : List (Nat × Nat)} (h : CRow w base g n l) : CRow w.drew base g n l:=h
theorem FRow.drew {w : World} {base g n : Nat} {l : List Nat} (h : FRow w base g n l) : FRow w.drew base g n l:=h
theorem CRow.below {w w' : World} {base g n : Nat} {l : List (Nat × Nat)} (h : CRow w base g n l) (hb : Below w.heap.size w w') : CRow w' base g n l:=RowV.below h hb
theorem FRow.below {w w' : World} {base g n : Nat} {l : List Nat} (h : FRow w base g n l) (hb : Below w.heap.size w w') : FRow w' base g n l:=RowV.below h hb
theorem CRow.base {w : World} {base base' g n : Nat} {l : List (Nat × Nat)} (h : CRow w base g n l) (hb : base' <= g) : CRow w base' g n l:=RowV.base h hb
theorem FRow.base {w : World} {base base' g n : Nat} {l : List Nat} (h : FRow w base g n l) (hb : base' <= g) : FRow w base' g n l:=RowV.base h hb
theorem CRow.made {w : World} {base n m : Nat} (h : w.ownsRow base 160 1 (.slice (some ⟨m,0,none⟩) n n) n (madeCells (Value.complex .f64 0 0).cells (n * 1)).toList) : CRow w base m n (List.replicate n (0,0)):=by
 have:=RowV.made (z:=.complex .f64 0 0) rfl h
 unfold CRow; rw [List.map_replicate]; exact this
theorem FRow.made {w : World} {base n m : Nat} (h : w.ownsRow base 76 1 (.slice (some ⟨m,0,none⟩) n n) n (madeCells (Value.float .f64 0).cells (n * 1)).toList) : FRow w base m n (List.replicate n 0):=by
 have:=RowV.made (z:=.float .f64 0) rfl h
 unfold FRow; rw [List.map_replicate]; exact this
theorem RowV.setOther {e e' : TypeId} {w : World} {base g n c : Nat} {o : List Value} (h : RowV e w base g n c o) (g' j : Nat) (v : Value) (hg : g' ≠ g) (hb : base <= g') : RowV e (w.setCell ⟨g',j,none⟩ v) base g n c o:=by
 obtain ⟨h1,h2⟩:=h
 refine ⟨h1,?_⟩
 rcases h2 with h' | ⟨g0,cap',cur,h',hb',hgg,rest⟩
 ·exact .inl h'
 ·refine .inr ⟨g0,cap',cur,h',hb',?_,rest⟩
  have e0 : g = g0:=by injection h' with e1; injection e1 with e1; injection e1
  have e1 : (w.setCell ⟨g',j,none⟩ v).heap[g0]? = w.heap[g0]?:=by
   simp only [World.setCell,Array.getElem?_modify]
   rw [if_neg (by omega)]
  rw [e1]
  exact hgg
end
section
open Go.RowKit
structure AW (P : Nat) (w : World) : Prop where
 tab : TabAt 2 Lib.deBruijn64tab w
 lt : 2 < w.heap.size
 pi : An.piM 164 = some (P : Int)
 small : P < 2 ^ 200
theorem AW.below {P : Nat} {w w' : World} (h : AW P w) (hb : Below w.heap.size w w') : AW P w':=⟨h.tab.below hb h.lt,Nat.lt_of_lt_of_le h.lt hb.size,h.pi,h.small⟩
theorem amay_any (order : Nat) (w : World) (ho : order <= 14) : Calls Tryz.prog 212 #[.int .i64 order] w fun e w'=>e = .returned (.bool true) /\ w = w':=by
 have h1 : (0 : Int) <= (order : Int):=by omega
 have h2 : (order : Int) <= 14:=by omega
 go_enter Tryz.func212,Tryz.ntmps212
 go_wp2
 go_ret
 exact ⟨rfl,rfl⟩
set_option maxHeartbeats 1000000 in
theorem anear_any (order step P : Nat) (z : Nat × Nat) (w : World) (ho : order <= 14) (hs : step <= 1048576) (hA : AW P w) (h : An.rootM P order step = some z) :
  Calls Tryz.prog 208 #[.int .i64 order,.int .i64 step] w fun e w'=>e = .returned (.tuple #[.complex .f64 z.1 z.2,.int .i64 0]) /\ Below w.heap.size w w':=by
 obtain ⟨a,b⟩:=z
 unfold An.rootM at h
 split at h
 case h_2=>exact absurd h (by simp)
 rename_i a' b' h1 h2
 simp only [Option.some.injEq,Prod.mk.injEq] at h
 obtain ⟨rfl,rfl⟩:=h
 have H1:=Hd (fun u=>reduced_false order step u ho hs)
 have H2:=Hd (fun u=>reduced_true order step u ho hs)
 have N1:=Hd (fun u (hu : AW P u)=>nearv_any order step P a' false u ho hu.tab hu.lt hu.pi hu.small h1)
 have N2:=Hd (fun u (hu : AW P u)=>nearv_any order step P b' true u ho hu.tab hu.lt hu.pi hu.small h2)
 have HA:=Hd hA
 clear h1 h2 hA
 go_enter Tryz.func208,Tryz.ntmps208
 go_wp2_with fail
 refine (amay_any order w ho).mono ?_
 rintro e w1 ⟨rfl,rfl⟩
 go_wp2_with fail
 refine (H1.out w).mono ?_
 rintro e w1 ⟨rfl,hb1⟩
 have A1:=Hd (HA.out.below hb1)
 have B1:=Hd hb1
 clear hb1
 go_wp2_with fail
 refine (N1.out w1 A1.out).mono ?_
 rintro e w2 ⟨rfl,hb2⟩
 have A2:=Hd (A1.out.below hb2)
 have B2:=Hd (B1.out.trans (hb2.mono B1.out.size))
 clear hb2 B1 A1
 go_wp2_with fail
 refine (H2.out w2).mono ?_
 rintro e w3 ⟨rfl,hb3⟩
 have A3:=Hd (A2.out.below hb3)
 have B3:=Hd (B2.out.trans (hb3.mono B2.out.size))
 clear hb3 B2 A2
 go_wp2_with fail
 refine (N2.out w3 A3.out).mono ?_
 rintro e w4 ⟨rfl,hb4⟩
 have B4:=Hd (B3.out.trans (hb4.mono B3.out.size))
 clear hb4 B3 A3
 go_wp2
 go_ret2
 exact ⟨rfl,B4.out⟩
theorem pturn_one (a b : Nat) (w : World) (hb : b < 2 * Fl.W) : Calls Tryz.prog 210 #[.complex .f64 a b,.int .i64 1] w fun e w'=>e = .returned (.complex .f64 (Fl.ng b) a) /\ w = w':=by
 have hn : ∀ w,(Op.unary .neg (.float .f64 b)).run Tryz.prog w = .ok (.float .f64 (Fl.ng b)) w:=fun w=>by
  rw [<- Fl.neg_word b hb]; rfl
 go_enter Tryz.func210,Tryz.ntmps210
 go_wp2
 go_ret
 exact ⟨rfl,rfl⟩
theorem even_any (a b x y : Nat) (w : World) (h1 : Ieee.double.add a 0 = some x) (h2 : Ieee.double.add b 0 = some y) : Calls Tryz.prog 209 #[.complex .f64 a b] w fun e w'=>e = .returned (.complex .f64 x y) /\ w = w':=by
 have r1:=fun w=>run_float_arith (P:=Tryz.prog) w .add 76 .f64 _ _ _ h1
 have r2:=fun w=>run_float_arith (P:=Tryz.prog) w .add 76 .f64 _ _ _ h2
 clear h1 h2
 go_enter Tryz.func209,Tryz.ntmps209
 go_wp2
 go_ret
 exact ⟨rfl,rfl⟩
end
section
open Go.RowKit
theorem rev_mod : ∀ (L p : Nat),rev L (p % 2 ^ L) = rev L p
 | 0,_=>rfl
 | L + 1,p=>by
   have h:=rev_mod L (p / 2)
   simp only [rev]
   have e1 : p % 2 ^ (L + 1) % 2 = p % 2:=Nat.mod_mod_of_dvd _ ⟨2 ^ L,by rw [Nat.pow_succ,Nat.mul_comm]⟩
   have e2 : p % 2 ^ (L + 1) / 2 = p / 2 % 2 ^ L:=by
    rw [Nat.pow_succ,Nat.mul_comm,Nat.mod_mul_right_div_self]
   rw [e1,e2,h]
theorem rev_add : ∀ (a b p : Nat),rev (a + b) p = rev a p * 2 ^ b + rev b (p / 2 ^ a)
 | 0,b,p=>by simp [rev]
 | a + 1,b,p=>by
   have h:=rev_add a b (p / 2)
   rw [show a + 1 + b = (a + b) + 1 by omega]
   simp only [rev]
   rw [h,Nat.pow_add,Nat.div_div_eq_div_mul,<- Nat.pow_succ',Nat.add_mul,Nat.mul_assoc,Nat.add_assoc]
def nibT : List Nat:=[0,8,4,12,2,10,6,14,1,9,5,13,3,11,7,15]
theorem nib_rev : ∀ q < 16,nibT.getD q 0 = rev 4 q:=by decide
theorem i64_or16 (a b : Nat) (ha : a < 1099511627776) (hb : b < 16) : bits BinOp.or IntKind.i64 ((a : Int) * 16) (b : Int) = ((a * 16 + b : Nat) : Int):=by
 have h:=bits_nat .i64 63 (by decide) (by intro n h0 h1; rw [IntKind.wrap_i64]; omega) (a * 16) b (by omega) (by omega)
 have e : ((a : Int) * 16) = ((a * 16 : Nat) : Int):=by simp
 rw [e,h.2]
 have:=Nat.two_pow_add_eq_or_of_lt (i:=4) (b:=b) (by omega) a
 rw [show a * 16 + b = 2 ^ 4 * a + b by omega,this]
 congr 2
 omega
theorem rev16_div (order p : Nat) (ho : order <= 16) (hp : p < 2 ^ order) : rev 16 p / 2 ^ (16 - order) = rev order p:=by
 have h:=rev_add order (16 - order) p
 rw [show order + (16 - order) = 16 by omega,Nat.div_eq_of_lt hp] at h
 have h0 : ∀ L,rev L 0 = 0:=fun L=>by
  induction L with
  | zero=>rfl
  | succ L ih=>simp [rev,ih]
 rw [h,h0,Nat.add_zero,Nat.mul_div_cancel _ (Nat.two_pow_pos _)]
set_option maxHeartbeats 1000000 in
theorem turned_any (order p : Nat) (w : World) (ho : order <= 14) (hp : p < 2 ^ order) (hT : TabAt 3 nibT w) :
  Calls Tryz.prog 205 #[.int .i64 order,.int .i64 p] w fun e w'=>e = .returned (.int .i64 (rev order p : Nat)) /\ w = w':=by
 have hp2 : p < 16384:=Nat.lt_of_lt_of_le hp (Nat.le_trans (Nat.pow_le_pow_right (by decide) ho) (by decide))
 have hfin:=rev16_div order p (by omega) hp
 have HT:=Hd hT
 obtain ⟨s,hs⟩ : ∃ s,s = 16 - order:=⟨_,rfl⟩
 rw [<- hs] at hfin
 have e1 : IntKind.u64.wrap (order : Int) = (order : Int):=by rw [IntKind.wrap_u64]; omega
 have e2 : IntKind.u64.wrap ((16 : Int) - (order : Int)) = (s : Int):=by rw [IntKind.wrap_u64]; omega
 have hlt:=rev_lt 16 p
 obtain ⟨R,hR⟩ : ∃ R,R = rev 16 p:=⟨_,rfl⟩
 rw [<- hR] at hfin hlt
 have e3 : ((R : Int) / 2 ^ s) = ((rev order p : Nat) : Int):=by rw [<- hfin]; simp
 have e4 : IntKind.i64.wrap ((rev order p : Nat) : Int) = ((rev order p : Nat) : Int):=by
  have h1:=rev_lt order p
  have h2 : 2 ^ order <= 2 ^ 14:=Nat.pow_le_pow_right (by decide) ho
  rw [IntKind.wrap_i64]; omega
 obtain ⟨Z,hZ⟩ : ∃ Z,Z = rev order p:=⟨_,rfl⟩
 rw [<- hZ] at e3 e4 ⊢
 have hs2 : s <= 16:=by omega
 have HR:=Hd hR
 clear hs hfin hT hp hR hZ
 go_enter Tryz.func205,Tryz.ntmps205
 go_wp2_with fail
 go_loop [6,5,1] (fun iv ov pv=>∃ i : Nat,i <= 4 /\ iv = .int .i64 i /\ ov = .int .i64 (rev (4 * i) p : Nat) /\ pv = .int .i64 (p / 2 ^ (4 * i) : Nat)) (fun iv _ _=>4 - (intOf iv).toNat)
 case atStart=>exact ⟨0,by omega,rfl,rfl,by simp⟩
 case round =>
  obtain ⟨i,hi,rfl,rfl,rfl⟩:=hrel
  by_cases hlt2 : i < 4
  ·obtain ⟨q,hq⟩ : ∃ q,q = p / 2 ^ (4 * i):=⟨_,rfl⟩
   have hql : q < 16384:=by rw [hq]; exact Nat.lt_of_le_of_lt (Nat.div_le_self _ _) hp2
   have hra:=rev_add (4 * i) 4 p
   have hrl:=rev_lt (4 * i) p
   have hrl2 : 2 ^ (4 * i) <= 2 ^ 16:=Nat.pow_le_pow_right (by decide) (by omega)
   obtain ⟨a,ha⟩ : ∃ a,a = rev (4 * i) p:=⟨_,rfl⟩
   rw [<- hq] at hra ⊢
   rw [<- ha] at hra hrl ⊢
   obtain ⟨b,hb⟩ : ∃ b,b = q % 16:=⟨_,rfl⟩
   have hb16 : b < 16:=by rw [hb]; exact Nat.mod_lt _ (by decide)
   have hm : bits BinOp.and IntKind.i64 (q : Int) 15 = (b : Int):=by
    have:=i64_mask q 4 (by omega) (by omega)
    rw [hb]; exact this
   have hcell:=HT.out b (show b < 16 from hb16)
   rw [nib_rev b hb16] at hcell
   obtain ⟨y,hy⟩ : ∃ y,y = rev 4 b:=⟨_,rfl⟩
   have hy16 : y < 16:=by rw [hy]; exact rev_lt 4 b
   have hyq : rev 4 q = y:=by rw [hy,hb]; exact (rev_mod 4 q).symm
   rw [hyq] at hra
   rw [<- hy] at hcell
   have hor:=i64_or16 a y (by omega) hy16
   have hw1 : IntKind.i64.wrap ((a : Int) * 16) = (a : Int) * 16:=by rw [IntKind.wrap_i64]; omega
   have hw2 : IntKind.i64.wrap (y : Int) = (y : Int):=by rw [IntKind.wrap_i64]; omega
   obtain ⟨a',ha'⟩ : ∃ a',a' = a * 16 + y:=⟨_,rfl⟩
   rw [<- ha'] at hor
   obtain ⟨q',hq'⟩ : ∃ q',q' = q / 16:=⟨_,rfl⟩
   have hw3 : (q : Int) / 16 = (q' : Int):=by rw [hq']; omega
   have hw4 : IntKind.i64.wrap (q' : Int) = (q' : Int):=by rw [IntKind.wrap_i64]; omega
   have HF1 : Hid (a' = rev (4 * (i + 1)) p):=Hd (by rw [ha',show 4 * (i + 1) = 4 * i + 4 by omega,hra])
   have HF2 : Hid (q' = p / 2 ^ (4 * (i + 1))):=Hd (by rw [hq',hq,Nat.div_div_eq_div_mul,show 4 * (i + 1) = 4 * i + 4 by omega,Nat.pow_add])
   clear ha hra hb hy hyq ha' hq' hrl hq
   go_wp2_with fail
   exact ⟨⟨i + 1,by omega,by go_num,by rw [HF1.out],by rw [HF2.out]⟩,by simp [intOf]; omega⟩
  ·obtain rfl : i = 4:=by omega
   have e : rev (4 * 4) p = R:=HR.out.symm
   rw [e]
   go_wp2_with fail
   go_ret
   exact ⟨rfl,rfl⟩
end
end Go.Proofs.YtnpanpkahbcecaaGreatDoor

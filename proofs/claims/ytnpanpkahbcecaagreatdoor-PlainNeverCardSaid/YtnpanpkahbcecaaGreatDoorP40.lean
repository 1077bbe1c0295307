/-
Walks: small, plus, turned of the ring's laws; Pick.
-/
import Derived.Test.YtnpanpkahbcecaaGreatDoorP39
import Derived.Laws.CopyOwn
import Derived.Deep.QuietTactic
import Derived.Deep.RegionWith
import Derived.Lib.Hide
set_option linter.unusedVariables false
set_option linter.unusedSimpArgs false
namespace Go.Proofs.YtnpanpkahbcecaaGreatDoor
section
open Go.RowKit
section
variable {P : Program} {md : Region.Mode} {ops ops' : Array Oper} {Q : Exit -> Act -> World -> Prop} {S : World -> Prop}
def wpHP (P : Program) (ops : Array Oper) (Q : Exit -> Act -> World -> Prop) (S : World -> Prop) : List (Bool × Nat) -> Act -> World -> Prop
 | (true,k) :: ts,a,w=>∃ o v,ops[k]? = some o /\ YieldsIf P ops S o v a /\ wpHP P ops Q S ts (a.put o.dst v) w
 | (false,k) :: ts,a,w=>∃ o,ops[k]? = some o /\ Region.wanted o (yielded ops a.tmps) = true /\ o.wp P a w (fun a w=>S w /\ wpHP P ops Q S ts a w) Q
 | [],a,w=>Q .normal a w
def chkHP (md : Region.Mode) (ops : Array Oper) : List (Bool × Nat) -> Array Bool -> Bool
 | [],listed=>Region.ready md ops listed == []
 | (true,k) :: ts,listed=>(Region.free md ops listed k && (Region.ready md ops listed).contains k) && chkHP md ops ts (listed.setIfInBounds k true)
 | (false,k) :: ts,listed=>(Region.ready md ops listed == [k]) && chkHP md ops ts (listed.setIfInBounds k true)
theorem wpHP_sound (hQ : ∀ c d v a w,Q (.panic c) (a.put d v) w -> Q (.panic c) a w) (hsel : Region.noSelect ops = true) : ∀ (ts : List (Bool × Nat)) (listed : Array Bool) (a : Act) (w : World),
  chkHP md ops ts listed = true -> S w -> wpHP P ops Q S ts a w -> wpAnyH P md ops Q S ts.length listed a w:=by
 intro ts
 induction ts with
 | nil =>
   intro listed a w hc hS h
   have hr : Region.ready md ops listed = []:=by simpa [chkHP] using hc
   exact ⟨hr,h⟩
 | cons t ts ih =>
   obtain ⟨b,k⟩:=t
   intro listed a w hc hS h
   cases b with
   | true =>
     simp only [chkHP,Bool.and_eq_true] at hc
     obtain ⟨o,v,ho,hy,h2⟩:=h
     exact wpAnyH_take ho hsel hc.1.1 hc.1.2 (fun c a w=>hQ c _ _ a w) hy hS (ih _ _ _ hc.2 hS h2)
   | false =>
     simp only [chkHP,Bool.and_eq_true,beq_iff_eq] at hc
     obtain ⟨o,ho,h1,h2⟩:=h
     refine wpAnyH_all hc.1 (by simp) (fun i hi=>?_)
     rw [List.mem_singleton] at hi
     subst hi
     unfold wpOp
     rw [ho]
     simp only [h1,if_true]
     exact .inl (Oper.wp_mono (fun a w hK=>⟨hK.1,ih _ _ _ hc.2 hK.1 hK.2⟩) h2)
theorem wp_region_perm {id : Nat} {a : Act} {w : World} {l : List Oper} (S : World -> Prop) (ts : List (Bool × Nat)) (n : Nat) (hm : P.follows .mixedOrders = true)
  (hB : (decide (n < l.length) && decide (ts.length = n) && Region.sinkB .any l.toArray n && Region.chainB .any l.toArray n && backB l.toArray && guardB l.toArray n && Region.seqB .any l.toArray (l.drop n).length n (headAll n (l.drop n).length) && Region.noSelect (l.take n).toArray && chkHP .any (l.take n).toArray ts (Array.replicate n false)) = true)
  (hQ : ∀ c t v a w,Q (.panic c) (a.put (some t) v) w -> Q (.panic c) a w) (hS : S w.drew)
  (h : wpHP P (l.take n).toArray (QT P l.toArray (l.drop n) Q) S ts a w.drew) : (Code.region id l.toArray true).wp P Q a w:=by
 simp only [Bool.and_eq_true,decide_eq_true_eq] at hB
 obtain ⟨⟨⟨⟨⟨⟨⟨⟨hn,ht⟩,hs⟩,hc⟩,hb⟩,hg⟩,hq⟩,hsel⟩,hk⟩:=hB
 have hdl : (l.drop n).length = l.length - n:=List.length_drop
 have F : Fst l.toArray (l.take n).toArray n:=⟨by simp; omega,by simp; omega,fun j hj=>by simp [hj]⟩
 refine wp_region_any hm ?_
 have h2:=wpHP_sound (md:=.any) (QT_panic (panic_some hQ)) hsel ts (Array.replicate n false) a w.drew hk hS h
 rw [ht] at h2
 have h3:=wpAny_split F (by simp; omega) (by omega) (fun j=>by simp [List.getElem?_drop]) hs hc hb hg hq n (Array.replicate l.toArray.size false) (Array.replicate n false) a w.drew ⟨⟨by simp,fun j oj _ hl=>(by rw [getD_replicate_false] at hl; cases hl),fun t _ ht=>getD_in (by simpa using ht) (getD_replicate_false _ _)⟩,by simp,fun j _=>by rw [getD_replicate_false,getD_replicate_false]⟩ h2
 rw [show (l.drop n).length + n = l.toArray.size by simp; omega] at h3
 exact h3
theorem wpHP_take {ts : List (Bool × Nat)} {k : Nat} {o : Oper} {a : Act} {w : World} (v : Value) (ho : ops'[k]? = some o) (hw : Region.wanted o (yielded ops' a.tmps) = true) (hv : ∀ w,S w -> (execOp a.eval o).run P w = .ok (.value v) w) (h : wpHP P ops' Q S ts (a.put o.dst v) w) : wpHP P ops' Q S ((true,k) :: ts) a w :=
 ⟨o,v,ho,.inl ⟨hw,hv⟩,h⟩
theorem wpHP_call {ts : List (Bool × Nat)} {k : Nat} {o : Oper} {a : Act} {w : World} (ho : ops'[k]? = some o) (hw : Region.wanted o (yielded ops' a.tmps) = true) (h : ∀ K : Act -> World -> Prop,(∀ a w,S w -> wpHP P ops' Q S ts a w -> K a w) -> o.wp P a w K Q) : wpHP P ops' Q S ((false,k) :: ts) a w :=
 ⟨o,ho,hw,h _ (fun a w h1 h2=>⟨h1,h2⟩)⟩
theorem wpHP_nil {a : Act} {w : World} (h : Q .normal a w) : wpHP P ops' Q S [] a w:=h
end
end
section
open Go.RowKit Nt
end
section
open Go.RowKit Nt
end
section
open Go.RowKit Nt
end
section
open Go.RowKit
end
section
open Go.RowKit
open Fl in
theorem mulS_some {x y : Nat} (hx : Pos x) (hy : Pos y) : ∃ r,mulS x y true = some r /\ Is (mulS x y true) r:=by
 obtain ⟨r,h,_⟩:=mulS_dir x y true hx.1 hy.1
 exact ⟨r,h,by rw [h]; rfl⟩
open Fl in
theorem closed_any {K a b : Nat} (hK : K <= 14) (ha : Sz a) (hb : Sz b) : ClosedR K a b /\ RingIs K a b (bf K a b):=by
 obtain ⟨t1,t2,t3,t4,t5,t6,t7,t8,t9,t10,t11,t12⟩:=top_r
 obtain ⟨_,_,_,_,f1,f2,f3,f4,f5,f6,f7,f8⟩:=fac_at K hK
 obtain ⟨_,_,_,_,g1,g2,_,g4,g5,_⟩:=fac_at 14 (by omega)
 obtain ⟨r1,e1,i1⟩:=mulS_some (x:=rC K) (y:=rS K) ⟨f1,f2⟩ ⟨f4,f5⟩
 have s1:=step_pos ⟨f1,f2⟩ ⟨f4,f5⟩ i1 ⟨g1,g2⟩ ⟨g4,g5⟩ t1 t5 f3 f6
 obtain ⟨r2,e2,i2⟩:=mulS_some (y:=a) s1.1 ha.facts.2.2.2.1
 have s2:=step_pos s1.1 ha.facts.2.2.2.1 i2 ⟨t5,t6⟩ big_sz.facts.2.2.2.1 t2 t7 s1.2 (le_big ha)
 obtain ⟨r3,e3,i3⟩:=mulS_some (y:=b) s2.1 hb.facts.2.2.2.1
 have s3:=step_pos s2.1 hb.facts.2.2.2.1 i3 ⟨t7,t8⟩ big_sz.facts.2.2.2.1 t3 (by omega) s2.2 (le_big hb)
 obtain ⟨r4,e4⟩ : ∃ r4,addS r3 103582791429521408 true = some r4:=by
  unfold addS
  rw [if_pos ⟨s3.1.1,least_pos.1⟩]
  exact ⟨_,rfl⟩
 have c1 : cf1 K = r1:=by unfold cf1; rw [e1]; rfl
 have c2 : cf2 K a = r2:=by unfold cf2; rw [c1,e2]; rfl
 have c3 : cf3 K a b = r3:=by unfold cf3; rw [c2,e3]; rfl
 have c4 : bf K a b = r4:=by unfold bf; rw [c3,e4]; rfl
 have i4 : Is (addS r3 103582791429521408 true) r4:=by rw [e4]; rfl
 refine ⟨⟨?_,?_,?_,?_⟩,?_⟩
 ·rw [c1]; exact e1
 ·rw [c1,c2]; exact e2
 ·rw [c2,c3]; exact e3
 ·rw [c3,c4]; exact e4
 ·rw [c4]; exact ⟨r1,r2,r3,i1,i2,i3,i4⟩
def bfL (K : Nat) (a b : List Int) : Nat:=bf K (floatOfInt .f64 (mxL a)) (floatOfInt .f64 (mxL b))
def ltL (K : Nat) (a b : List Int) : Bool:=FloatKind.f64.format.order (bfL K a b) 4598175219545276416 == some Ordering.lt
theorem bound_is (K n : Nat) (A B : Option Addr) (c c' : Nat) (a b : List Int) (w : World) (hK : K <= 14) (hn : n = 2 ^ K) (ha : UL w A n c a) (hb : UL w B n c' b) (oa : okL a) (ob : okL b) (hT : TabAt 2 Lib.deBruijn64tab w) :
  Calls Tryz.prog 86 #[.slice A n c,.slice B n c'] w fun e w'=>e = .returned (.tuple #[.float .f64 (bfL K a b),.int .i64 0]) /\ Below w.heap.size w w' :=
 bound_closed K n _ _ _ A B c c' a b w hK hn ha hb oa ob hT rfl rfl (closed_any hK (mx_sz oa) (mx_sz ob)).1 rfl
theorem pow_inj {K K' : Nat} (h : 2 ^ K' = 2 ^ K) : K' = K:=by
 rcases Nat.lt_trichotomy K' K with h5 | h5 | h5
 ·have:=Nat.pow_lt_pow_right (show 1 < 2 by decide) h5; omega
 ·exact h5
 ·have:=Nat.pow_lt_pow_right (show 1 < 2 by decide) h5; omega
def Wheels (P k : Nat) : Prop:=∀ K,K <= k -> ∃ l,Whl P K l /\ (∀ z ∈ l,z.2 < 2 * Fl.W) /\ WhlOk K l
def CycPost (n n' : Nat) (a b : List Int) (w : World) (e : Ending) (w' : World) : Prop :=
 (¬ OrdOk n n' /\ e = .returned (.tuple #[.slice none 0 0,.int .i64 4]) /\ Below w.heap.size w w') \/
 (OrdOk n n' /\ ¬ (okL a /\ okL b) /\ e = .returned (.tuple #[.slice none 0 0,.int .i64 6]) /\ Below w.heap.size w w') \/
 (okL a /\ okL b /\ ∃ K : Nat,K <= 14 /\ n = 2 ^ K /\ n' = n /\ ((ltL K a b = false /\ e = .returned (.tuple #[.slice none 0 0,.int .i64 8]) /\ Below w.heap.size w w') \/
  (ltL K a b = true /\ ∃ g,e = .returned (.tuple #[.slice (some ⟨g,0,none⟩) n n,.int .i64 0]) /\ LRow w' w.heap.size g n ((List.range n).map (cvI a b n)) /\ Below w.heap.size w w')))
theorem cyclic_full (P k : Nat) (A B : Option Addr) (n n' c c' : Nat) (a b : List Int) (w : World) (hn : n < 9223372036854775808) (ha : UL w A n c a) (hb : UL w B n' c' b) (hR : RWd P w) (hwh : Wheels P k) (hk : ∀ K,n = 2 ^ K -> K <= k) :
  Calls Tryz.prog 57 #[.slice A n c,.slice B n' c'] w (CycPost n n' a b w):=by
 by_cases ho : OrdOk n n'
 ·have HO:=ho
  obtain ⟨K,hK,hnK,hnn⟩:=ho
  subst hnn
  by_cases hok : okL a /\ okL b
  ·obtain ⟨oa,ob⟩:=hok
   have hB:=bound_is K n' A B c c' a b w hK hnK ha hb oa ob hR.aw.tab
   cases hlt : ltL K a b with
   | false=>exact (rcyclic_bound n' n' _ A B c c' w hB hlt).mono (fun e w' h=>.inr (.inr ⟨oa,ob,K,hK,hnK,rfl,.inl ⟨hlt,h.1,h.2⟩⟩))
   | true =>
     obtain ⟨l,h1,h2,h3⟩:=hwh K (hk K hnK)
     obtain ⟨hC,hE,_⟩:=told_prod hK h3 oa ob (closed_any hK (mx_sz oa) (mx_sz ob)).2 hlt
     refine (rcyclic_any K n' P _ A B c c' a b l w hK hnK hR h1 h2 ha hb oa ob hB hlt hC).mono ?_
     rintro e w' ⟨g,h4,h5,h6⟩
     rw [hE,<- hnK] at h5
     exact .inr (.inr ⟨oa,ob,K,hK,hnK,rfl,.inr ⟨hlt,g,h4,h5,h6⟩⟩)
  ·have hB : Calls Tryz.prog 86 #[.slice A n' c,.slice B n' c'] w fun e w'=>e = .returned (.tuple #[.float .f64 0,.int .i64 6]) /\ Below w.heap.size w w':=by
    refine (rbound_any A B n' n' c c' a b w hn ha hb hR.aw.tab (mxL_float a) (mxL_float b)).mono ?_
    rintro e w' (⟨h,_⟩ | ⟨_,_,h1,h2⟩ | ⟨h1,h2,_⟩)
    ·exact absurd HO h
    ·exact ⟨h1,h2⟩
    ·exact absurd ⟨h1,h2⟩ hok
   exact (rcyclic_err n' n' 0 6 A B c c' w (by decide) hB).mono (fun e w' h=>.inr (.inl ⟨HO,hok,h.1,h.2⟩))
 ·have hB : Calls Tryz.prog 86 #[.slice A n c,.slice B n' c'] w fun e w'=>e = .returned (.tuple #[.float .f64 0,.int .i64 4]) /\ Below w.heap.size w w':=by
   refine (rbound_any A B n n' c c' a b w hn ha hb hR.aw.tab (mxL_float a) (mxL_float b)).mono ?_
   rintro e w' (⟨_,h1,h2⟩ | ⟨h,_⟩ | ⟨_,_,K,h1,h2,h3,_⟩)
   ·exact ⟨h1,h2⟩
   ·exact absurd h ho
   ·exact absurd ⟨K,h1,h2,h3⟩ ho
  exact (rcyclic_err n n' 0 4 A B c c' w (by decide) hB).mono (fun e w' h=>.inl ⟨ho,h.1,h.2⟩)
theorem UL.nil' (w : World) : UL w none 0 0 []:=⟨rfl,Nat.le_refl _,fun _=>rfl,fun k x hk=>by simp at hk⟩
end
section
open Fl
def PIL : Nat:=73463084912771502742156883195892978055266480390712
theorem PI_lit : An.PI = PIL:=by decide +kernel
def oW : List (Nat × Nat):=[
 (4607182418800017408,0),(4607182249242036882,4573724215515480177),(4607181740574479067,4578227681973159812),(4607180892816495009,4580962600092897021),(4607179706000002317,4582730748936808062),(4607178180169683960,4584498631466405633),(4607176315382986589,4585465300892538317),(4607174111710118367,4586348876009622851),(4607171569234046334,4587232218149935124),(4607168688050493276,4588115294056142819),(4607165468267934125,4588998070480937184),(4607161910007591876,4589524267239410099),(4607158013403433018,4589965306122607094),(4607153778602162496,4590406145430462614),(4607149205763218185,4590846768565625881),(4607144295058764886,4591287158938884897),
 (4607139046673687846,4591727299969791020),(4607133460805585796,4592167175087283203),(4607127537664763515,4592606767730311893),(4607121277474223905,4593046061348462537),(4607114680469659603,4593485039402578702),(4607107746899444102,4593797652641645341),(4607100477024622401,4594016801320007031),(4607092871118901179,4594235767444503503),(4607084929468638487,4594454542771183930),(4607076652372832968,4594673119063280916),(4607068040143112603,4594891488091520602),(4607059093103722971,4595109641634432498),(4607049811591515049,4595327571478659014),(4607040195955932526,4595545269419264690),(4607030246558998647,4595762727260045105),(4607019963775302583,4595979936813835462),
 (4607009347991985328,4596196889902818827),(4606998399608725124,4596413578358834022),(4606987119037722413,4596629994023683153),(4606975506703684317,4596846128749438754),(4606963563043808649,4597061974398750563),(4606951288507767453,4597277522845151878),(4606938683557690074,4597492765973365521),(4606925748668145757,4597707695679609371),(4606912484326125783,4597922303871901467),(4606898891031025132,4598136582470364665),(4606884969294623682,4598262871476403630),(4606870719641066940,4598369669086960528),(4606856142606846307,4598476289818621559),(4606841238740778884,4598582729657176439),(4606826008603986804,4598688984595225406),(4606810452769876110,4598795050632330097),
 (4606794571824115162,4598900923775164166),(4606778366364612594,4599006600037663623),(4606761837001494797,4599112075441176914),(4606744984357082948,4599217346014614711),(4606727809065869586,4599322407794599425),(4606710311774494716,4599427256825614420),(4606692493141721470,4599531889160152938),(4606674353838411301,4599636300858866724),(4606655894547498725,4599740487990714333),(4606637115963965612,4599844446633109139),(4606618018794815019,4599948172872067014),(4606598603759044570,4600051662802353687),(4606578871587619388,4600154912527631775),(4606558823023444576,4600257918160607478),(4606538458821337243,4600360675823176935),(4606517779747998088,4600463181646572228),
 (4606496786581982534,4600565431771507043),(4606475480113671417,4600667422348321968),(4606453861145241227,4600769149537129431),(4606431930490633905,4600870609507958271),(4606409688975526202,4600971798440897930),(4606387137437298591,4601072712526242277),(4606364276725003740,4601173347964633034),(4606341107699334546,4601273700967202825),(4606317631232591731,4601373767755717824),(4606293848208650998,4601473544562720001),(4606269759522929756,4601573027631668967),(4606245366082353408,4601672213217083403),(4606220668805321205,4601771097584682078),(4606195668621671667,4601869677011524443),(4606170366472647579,4601967947786150793),(4606144763310860551,4602065906208722008),
 (4606118860100255153,4602163548591158843),(4606092657816072624,4602260871257280788),(4606066157444814153,4602357870542944470),(4606039359984203741,4602454542796181607),(4606012266443150634,4602550884377336506),(4605984877841711338,4602646891659203088),(4605957195211051218,4602710690099904183),(4605929219593405673,4602758354025980442),(4605900952042040894,4602805845399633902),(4605872393621214213,4602853162432841185),(4605843545406134034,4602900303344142735),(4605814408482919348,4602947266358709886),(4605784983948558848,4602994049708411683),(4605755272910869620,4603040651631881451),(4605725276488455441,4603087070374583113),(4605694995810664660,4603133304188877240),
 (4605664432017547683,4603179351334086856),(4605633586259814045,4603225210076562971),(4605602459698789090,4603270878689749849),(4605571053506370248,4603316355454250015),(4605539368864982914,4603361638657888991),(4605507406967535927,4603406726595779752),(4605475169017376660,4603451617570386922),(4605442656228245717,4603496309891590679),(4605409869824231233,4603540801876750389),(4605376811039722786,4603585091850767959),(4605343481119364930,4603629178146150899),(4605309881318010327,4603673059103075106),(4605276012900672507,4603716733069447353),(4605241877142478242,4603760198400967492),(4605207475328619533,4603803453461190356),(4605172808754305228,4603846496621587377),
 (4605137878724712257,4603889326261607894),(4605102686554936490,4603931940768740167),(4605067233569943231,4603974338538572089),(4605031521104517324,4604016517974851588),(4604995550503212910,4604058477489546729),(4604959323120302796,4604100215502905499),(4604922840319727473,4604141730443515286),(4604886103475043762,4604183020748362039),(4604849113969373103,4604224084862889120),(4604811873195349477,4604264921241055824),(4604774382555066977,4604305528345395596),(4604736643460027021,4604345904647073908),(4604698657331085206,4604386048625945823),(4604660425598397818,4604425958770613225),(4604621949701367983,4604465633578481725),(4604583231088591477,4604505071555817232),
 (4604544271217802189,4604544271217802189)]
theorem oW_len : oW.length = 2 ^ 10 / 8 + 1:=by decide +kernel
theorem oW_chk : chkO PIL 10 oW 0 = true:=by decide +kernel
theorem oW_oct : Oct An.PI 10 oW:=by rw [PI_lit]; exact oct_of oW_len oW_chk
def wo0 : List (Nat × Nat):=[(4607182418800017408,0)]
theorem wo0_ok : Whl An.PI 0 wo0:=by rw [PI_lit]; exact whS_of (by decide) (by decide +kernel)
theorem wo0_v : ∀ z ∈ wo0,z.2 < 2 * Fl.W:=all_v (by decide +kernel)
def wo1 : List (Nat × Nat):=[(4607182418800017408,0),(13830554455654793216,0)]
theorem wo1_ok : Whl An.PI 1 wo1:=by rw [PI_lit]; exact whS_of (by decide) (by decide +kernel)
theorem wo1_v : ∀ z ∈ wo1,z.2 < 2 * Fl.W:=all_v (by decide +kernel)
def go1 : Int × Int:=(-1606938044258990275541962092341162602522202993782792835301376,0)
theorem go1_ok : Gen go1 (2 ^ (1 - 1)):=⟨by decide,by decide,by decide +kernel,by decide +kernel⟩
theorem co1_ok : chkL go1 (pw 1074) (halfL 1 wo1) (cT go1 0) = true:=by decide +kernel
theorem ro1_ok : WhlOk 1 wo1:=.inr ⟨by decide,go1,go1_ok,(roots_both (by decide) go1_ok wo1_ok co1_ok).1,(roots_both (by decide) go1_ok wo1_ok co1_ok).2⟩
def wo2 : List (Nat × Nat):=[(4607182418800017408,0),(0,4607182418800017408),(13830554455654793216,0),(0,13830554455654793216)]
theorem wo2_ok : Whl An.PI 2 wo2:=by rw [PI_lit]; exact whS_of (by decide) (by decide +kernel)
theorem wo2_v : ∀ z ∈ wo2,z.2 < 2 * Fl.W:=all_v (by decide +kernel)
def go2 : Int × Int:=(0,1606938044258990275541962092341162602522202993782792835301376)
theorem go2_ok : Gen go2 (2 ^ (2 - 1)):=⟨by decide,by decide,by decide +kernel,by decide +kernel⟩
theorem co2_ok : chkL go2 (pw 1074) (halfL 2 wo2) (cT go2 0) = true:=by decide +kernel
theorem ro2_ok : WhlOk 2 wo2:=.inr ⟨by decide,go2,go2_ok,(roots_both (by decide) go2_ok wo2_ok co2_ok).1,(roots_both (by decide) go2_ok wo2_ok co2_ok).2⟩
theorem wo3_chk : chkW (1136276788042180458070828951474823657989790988021617205464301,1136276788042180458070828951474823657989790988021617205464301) (evN (10 - 3) oW) = true:=by decide +kernel
theorem wo4_chk : chkW (1484617169104597362508404989727444738672447253984905074947547,614948566375074939259316399958603304265382360334892087266362) (evN (10 - 4) oW) = true:=by decide +kernel
theorem wo5_chk : chkW (1576061180329172519219201999333412283084218269191704159117745,313498060514453791443758148945936390915354096995997959789881) (evN (10 - 5) oW) = true:=by decide +kernel
theorem wo6_chk : chkW (1599200198355037860141153301684593256896725087632561785890738,157507471785043115329803184186639435084114358509892849931225) (evN (10 - 6) oW) = true:=by decide +kernel
theorem wo7_chk : chkW (1605002417009105697844512262135738324009004898295262856153943,78848712620038169891482718952986496093376327719638619188211) (evN (10 - 7) oW) = true:=by decide +kernel
theorem wo8_chk : chkW (1606454064563701312210477842552474082733953539593544966025967,39436233766321620850567407533678778705108267447265465510924) (evN (10 - 8) oW) = true:=by decide +kernel
theorem wo9_chk : chkW (1606817044779648905272442903832981193114068649816676815199147,19719601732904100227811241930843797957117830339330313233670) (evN (10 - 9) oW) = true:=by decide +kernel
theorem wo10_chk : chkW (1606907794104429627536605139640229979598350309889764137986240,9859986477911053344244688090048184540468482310714943871059) (evN (10 - 10) oW) = true:=by decide +kernel
theorem wheels10 : Wheels An.PI 10:=fun K hK=>by
 have h : K = 0 \/ K = 1 \/ K = 2 \/ K = 3 \/ K = 4 \/ K = 5 \/ K = 6 \/ K = 7 \/ K = 8 \/ K = 9 \/ K = 10:=by omega
 rcases h with rfl | rfl | rfl | rfl | rfl | rfl | rfl | rfl | rfl | rfl | rfl
 ·exact ⟨wo0,wo0_ok,wo0_v,.inl rfl⟩
 ·exact ⟨wo1,wo1_ok,wo1_v,ro1_ok⟩
 ·exact ⟨wo2,wo2_ok,wo2_v,ro2_ok⟩
 ·exact wheel_at (by decide) (by decide) (oct_evN oW_oct 7 (by decide)) wo3_chk
 ·exact wheel_at (by decide) (by decide) (oct_evN oW_oct 6 (by decide)) wo4_chk
 ·exact wheel_at (by decide) (by decide) (oct_evN oW_oct 5 (by decide)) wo5_chk
 ·exact wheel_at (by decide) (by decide) (oct_evN oW_oct 4 (by decide)) wo6_chk
 ·exact wheel_at (by decide) (by decide) (oct_evN oW_oct 3 (by decide)) wo7_chk
 ·exact wheel_at (by decide) (by decide) (oct_evN oW_oct 2 (by decide)) wo8_chk
 ·exact wheel_at (by decide) (by decide) (oct_evN oW_oct 1 (by decide)) wo9_chk
 ·exact wheel_at (by decide) (by decide) (oct_evN oW_oct 0 (by decide)) wo10_chk
end
section

end
section
open Go.RowKit
end
section
open Go.RowKit
theorem LRow.heap {w : World} {base g n : Nat} {l : List Int} (h : LRow w base g n l) : w.heap[g]? = some (.cells (l.map (Value.int .i64)).toArray 2 (0,0)):=by
 obtain ⟨h1,h2⟩:=h
 rcases h2 with ⟨h',_⟩ | ⟨g',cap',cur,h',hb,hg,hn,hc,hs,ht⟩
 ·cases h'
 ·have e : g = g' /\ n = cap':=by
   injection h' with e1 _ e3
   injection e1 with e1
   injection e1 with e1
   exact ⟨e1,e3⟩
  obtain ⟨rfl,rfl⟩:=e
  rw [List.take_of_length_le (by simp; omega)] at ht
  rw [hg,<- ht]
theorem LRow.ofHeap {w : World} {base g n : Nat} {l : List Int} (hb : base <= g) (hl : l.length = n) (hm : n <= maxLen) (h : w.heap[g]? = some (.cells (l.map (Value.int .i64)).toArray 2 (0,0))) : LRow w base g n l:=by
 refine ⟨by simp [hl],.inr ⟨g,n,_,rfl,hb,h,Nat.le_refl _,hm,by simp [hl],?_⟩⟩
 rw [List.take_of_length_le (by simp [hl])]
theorem run_makeL (w : World) (n : Nat) (hn : n <= 16384) : (Instr.makeSlice 22 (.int .i64 n) (.int .i64 n)).run Tryz.prog w = .ok (.slice (some ⟨w.heap.size,0,none⟩) n n) (w.alloc (.cells (madeCells #[.int .i64 0] n) 2)):=by
 obtain ⟨i0,hi0,hz0,hz1,hz2⟩:=info_parts i64_info
 have h:=run_makeSlice (P:=Tryz.prog) w 22 2 i0 _ Tryz.underlying22 hi0 hz0 .i64 .i64 n n (by omega) (by omega) (by rw [hz1]; omega) (by rw [hz2]; omega) (by omega)
 rw [h,hz1]
 simp
 rfl
theorem LRow.alloc (v : World) (base n : Nat) (hb : base <= v.heap.size) (hn : n <= maxLen) : LRow (v.alloc (.cells (madeCells #[.int .i64 0] n) 2)) base v.heap.size n (List.replicate n 0):=by
 have e : (madeCells #[Value.int .i64 0] n).toList = List.replicate n (Value.int .i64 0):=toList_madeCells_one _ _
 refine ⟨by simp,.inr ⟨v.heap.size,n,madeCells #[.int .i64 0] n,rfl,hb,(show (v.heap.push _)[v.heap.size]? = _ from Array.getElem?_push_size),Nat.le_refl _,hn,by simp [size_madeCells],?_⟩⟩
 rw [Nat.mul_one,e,List.map_replicate,List.take_of_length_le (by simp)]
theorem wpList_copy_more {P : Program} {w : World} {ops : Array Oper} {rest : List Oper} {o : Oper} {a : Act} {Q : Exit -> Act -> World -> Prop} (hgd : o.guard = none) (d s : Operand) (dT sT : TypeId)
  (ho : o.op = .call { callee:=.builtin .copy,args:=#[d,s],argTypes:=#[dT,sT] }) (elem : TypeId) (hu : P.underlying dT = some (.slice elem)) (hsz : (P.info? elem).map (·.size) = some 1)
  (dp sp : Option Addr) (dLen dCap sLen sCap : Nat) (hd : a.eval d = .slice dp dLen dCap) (hs : a.eval s = .slice sp sLen sCap)
  (g off : Nat) (cur : List Value) (t : TypeId) (hg : w.heap[g]? = some (.cells cur.toArray t (0,0))) (cs : List Value) (hn : cs.length = Nat.min sLen dLen)
  (hpos : 0 < cs.length -> dp = some ⟨g,off,none⟩ /\ ∃ ad,sp = some ad /\ ∀ j v,cs[j]? = some v -> w.cell? (ad.add j) = some v)
  (hfit : off + cs.length <= cur.length) (h1 : ∀ v ∈ cs,v.oneCell' = true) (B : Nat) (w0 : World) (hb : Below B w0 w) (hBg : B <= g)
  (h : ∀ w',Hid (w'.heap[g]? = some (.cells (splice cur off cs).toArray t (0,0))) -> Hid (∀ k,k ≠ g -> w'.heap[k]? = w.heap[k]?) -> Below B w0 w' -> wpList P ops Q rest (a.put o.dst (goInt cs.length)) w') :
  wpList P ops Q (o :: rest) a w:=by
 by_cases h0 : cs.length = 0
 ·obtain rfl : cs = []:=List.eq_nil_of_length_eq_zero h0
  refine wpList_copy_nothing hgd d s dT sT ho elem hu hsz dp sp dLen dCap sLen sCap hd hs (by simpa using hn.symm) ?_
  exact h w (Hd (by simpa [splice] using hg)) (Hd (fun _ _=>rfl)) hb
 ·obtain ⟨rfl,ad,rfl,hsrc⟩:=hpos (by omega)
  refine wpList_copy_own hgd d s dT sT ho elem hu hsz g off dLen dCap ad sLen sCap hd hs cur.toArray t hg cs hn hsrc (by simpa using hfit) h1 ?_
  exact h _ (Hd (by simpa [splice] using setRow_heap w g _ _ t _ hg)) (Hd (fun k hk=>setRow_other w g k _ hk)) (below_setRow hb hBg _)
theorem UL.src {w : World} {A : Option Addr} {n c : Nat} {a : List Int} (h : UL w A n c a) (N g : Nat) : 0 < ((a.take N).map (Value.int .i64)).length -> (some ⟨g,0,none⟩ : Option Addr) = some ⟨g,0,none⟩ /\ ∃ ad,A = some ad /\ ∀ j v,((a.take N).map (Value.int .i64))[j]? = some v -> w.cell? (ad.add j) = some v:=by
 intro h0
 obtain ⟨hl,_,_,hc⟩:=h
 have h1 : 0 < a.length:=by simp at h0; omega
 obtain ⟨ad,hA,_,_⟩:=hc 0 a[0] (List.getElem?_eq_getElem h1)
 refine ⟨rfl,ad,hA,fun j v hj=>?_⟩
 rw [List.getElem?_map] at hj
 obtain ⟨z,hz,rfl⟩:=Option.map_eq_some_iff.1 hj
 rw [List.getElem?_take] at hz
 split at hz
 ·obtain ⟨ad2,hA2,_,hc2⟩:=hc j z hz
  rw [hA] at hA2
  obtain rfl:=Option.some.inj hA2
  exact hc2
 ·cases hz
def firsts (a : List Int) (N : Nat) : List Int:=a.take N ++ List.replicate (N - (a.take N).length) 0
theorem firsts_len (a : List Int) (N : Nat) : (firsts a N).length = N:=by unfold firsts; simp; omega
theorem firsts_splice (a : List Int) (N : Nat) : splice ((List.replicate N (0 : Int)).map (Value.int .i64)) 0 ((a.take N).map (Value.int .i64)) = (firsts a N).map (Value.int .i64):=by
 unfold splice firsts
 rw [List.take_zero,List.nil_append,Nat.zero_add,List.map_append,<- List.map_drop,List.length_map]
 congr 2
 simp
end
section
open Go.RowKit
theorem all_eq {α : Type} {o L : List α} {n : Nat} (ho : o.length = n) (hL : L.length = n) (h : ∀ m < n,o[m]? = L[m]?) : o = L:=by
 apply List.ext_getElem?
 intro k
 by_cases hk : k < n
 ·exact h k hk
 ·rw [List.getElem?_eq_none (by omega),List.getElem?_eq_none (by omega)]
end
end Go.Proofs.YtnpanpkahbcecaaGreatDoor

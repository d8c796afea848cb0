/- Witness -/
import Derived.Lib.AppendIntMem
import Derived.Shelf.Strconv.ErrVarAll
import Derived.Shelf.Strconv.Itoa3
import Derived.Shelf.Strings.Search3
import Derived.Test.YteooinddnfbglaaGreatDoorProg
import Derived.KernelRfl
import Derived.Test.YteooinddnfbglaaGreatDoorWqT5
set_option linter.unusedVariables false
set_option linter.unusedSimpArgs false
set_option linter.unusedSectionVars false
namespace Go.Proofs.YteooinddnfbglaaGreatDoor.G
open Go Go.Ab
noncomputable section
theorem R8{α:Type}{x:α}{l:List α}{f:α→AV}{e:Nat}{S0:Aa}{P:AV→Prop}:(∃ q,(AS e 1 (aL f (x :: l)) (.v (.int .i64 0)) S0 fun v S=>v=q∧S=S0)∧P q)=P (.q [f x] 0):=
 CZ (op:=fun K=>AS e 1 (aL f (x :: l)) (.v (.int .i64 0)) S0 K) fun K=>AM (i:=0) (by simp)
theorem Ci.tr'(c:Ci):Tree c.av:=Tree.a fun u hu=>by
 simp only[Ci.cells,Ai9,AiE,or_false]at hu
 rcases hu with rfl|rfl|rfl|rfl|rfl|rfl|rfl|rfl
 ·exact Tree.v _
 ·exact ID _
 ·exact ID _
 ·exact D7 _
 ·exact D7 _
 ·exact D7 _
 ·exact D7 _
 ·exact sA _
theorem Tn.tree:∀(t:Tn),∀ u∈t.row,Tree u:=by
 intro t
 induction t using Tn.ind with
 |h k s b ss ks ih =>
  intro u hu
  rw[Tn.AD]at hu
  simp only[Ai9,AiE,or_false]at hu
  rcases hu with rfl|rfl|rfl|rfl|rfl
  ·exact Tree.v _
  ·exact Tree.v _
  ·exact Tree.v _
  ·exact D7 _
  ·refine Tree.l fun c hc u hu=>?_
   obtain⟨t,ht,rfl⟩:=Ai5.1 hc
   exact ih t ht u hu
theorem Tn.tr(t:Tn):Tree t.av:=Tree.a fun u hu=>Tn.tree t u hu
theorem Kt(l:List Tn):Tree (K8 l):=Tree.l fun c hc u hu=>by
 obtain⟨t,ht,rfl⟩:=Ai5.1 hc
 exact Tn.tree t u hu
theorem XX{n:Nat}{S:Aa}{x:AV}{e:Nat}{l:List Fo}(h:A4 n S x e (l.map Fo.row)){k m:Nat}(hk:k≤n):Cv (S.BA (AL k)) m x (Du l):=
 D9 (fun r hr u hu=>by obtain⟨f,_,rfl⟩:=Ai5.1 hr;exact Fo.tree f u hu) h hk
theorem wQ{n:Nat}{S:Aa}{x:AV}{e:Nat}{l:List Int}(h:A4 n S x e (l.map fun a=>[aI a])){k m:Nat}(hk:k≤n):Cv (S.BA (AL k)) m x (aL aI l):=
 D9 (fun r hr u hu=>by obtain⟨f,_,rfl⟩:=Ai5.1 hr;rw[AhT.1 hu];exact Tree.v _) h hk
theorem RH{c:Ci}{ss:List Int}{i:Nat}(hi:i+1<ss.length)(h:BO c ss[i] ss[i+1]=false):C7 c ss=false:=by
 unfold C7
 rw[AiN]
 refine⟨i,AiO.2 (by omega),?_⟩
 simp[AhL,show i<ss.length by omega,hi,h]
theorem On{c:Ci}{ss:List Int}(h:∀ i (hi:i+1<ss.length),BO c (ss[i]'(by omega)) ss[i+1]=true):C7 c ss=true:=by
 unfold C7
 rw[AhW]
 intro i hi
 have hi:=AiO.1 hi
 have hi2:i+1<ss.length:=by omega
 simp[AhL,show i<ss.length by omega,hi2,h i hi2]
def Hp (c:Ci) (f0 f1:Fo) (tk s a:Int) (ss:List Int) (ks:List Tn):Int × Bool:=
 if ss≠[]∧ss.getD 0 0=s∧a=0∧tk=5∧C7 c ss=true then Tn.B6 c ks (List.replicate (ss.length - 1) f0 ++ [f1,GL]) (ss ++ [ss.getD (ss.length - 1) 0]) 0 else(0,false)
theorem vC{c:Ci}(hc:Cs c){ks:List Tn}(hk:ks.length≤1000000)(IH:∀ t∈ks,∀ f,Pu f→BF Pg 34 [c.av,f.av,t.av] (aR (t.acc c f))){f0 f1:Fo}(h0:Pu f0)(h1:Pu f1)(k l:Int)(nm:ByteArray)
    {ss:List Int} (hs:ss.length≤1000000) (tk s a:Int):BF Pg 78 [c.av,(Fo.mk k nm l [f0,f1]).av,(Tn.mk tk s a ss ks).av] (aR (Hp c f0 f1 tk s a ss ks)):=by
 intro S
 refine Ad.HR (nK ?_)
 dsimp only[m78,YQ,UL,UM,YR,Fi,Lf,Lq]
 rw[Fo.av,Fo.AD,Tn.av,Tn.AD]
 refine Ai rfl fun S1 k1 n1 o1=>?_
 refine Ai rfl fun S2 k2 n2 o2=>?_
 refine Ai rfl fun S3 k3 n3 o3=>?_
 have kk:=(k1.trans k2).trans k3
 have p1:=(Kg k3 (Kg k2 o1))
 have p2:=(Kg k3 o2)
 rw[Ac,Ae o3 rfl rfl,Ax]
 have no:∀{E:Bh},¬ (ss≠[]∧ss.getD 0 0=s∧a=0∧tk=5∧C7 c ss=true)→E = .ret (.t [aI 0,aB false])→∀{T:Aa},Am S T→E = .ret (aR (Hp c f0 f1 tk s a ss ks))∧Am S T:=fun h e T hT=>⟨by rw[Hp,if_neg h];exact e,hT⟩
 show ∃ q:AV,_
 cases ss with
 |nil =>
  (repeat (first|with_reducible_and_instances (first|refine WJ ?_|refine W (AW o3 (by with_unfolding_all rfl) (by with_unfolding_all rfl)) ?_|refine W (Bb (Eq.refl true)) ?_|refine W (Be (Eq.refl true)) ?_|refine W (AK (Eq.refl true)) ?_|refine W (AQ (Eq.refl true)) ?_|refine W (Bb (decide_eq_true (show((List.length ([]:List Int):Nat):Int)<1 by decide))) ?_|refine W (Be (decide_eq_true (show((List.length ([]:List Int):Nat):Int)<1 by decide))) ?_|refine W (AK (decide_eq_true (show((List.length ([]:List Int):Nat):Int)<1 by decide))) ?_|refine W (AQ (decide_eq_true (show((List.length ([]:List Int):Nat):Int)<1 by decide))) ?_|refine W (AN (by with_unfolding_all rfl)) ?_)))
  exact no (fun h=>h.1 rfl) rfl kk
 |cons x sr =>
  have e1:decide ((((x :: sr).length:Nat):Int)<1)=false:=decide_eq_false (by simp;omega)
  by_cases e2:¬ x=s
  ·by_cases e3:decide (a=0)=true<;>by_cases e4:decide (tk=5)=true
   all_goals
    first|rw[Bool.not_eq_true]at e3|skip
    first|rw[Bool.not_eq_true]at e4|skip
    (repeat (first|with_reducible_and_instances (first|refine WJ ?_|refine W (AW o3 (by with_unfolding_all rfl) (by with_unfolding_all rfl)) ?_|refine W (R8) ?_|refine W (Bb e1) ?_|refine W (Be e1) ?_|refine W (AK e1) ?_|refine W (AQ e1) ?_|refine W (Bb (decide_eq_false e2)) ?_|refine W (Be (decide_eq_false e2)) ?_|refine W (AK (decide_eq_false e2)) ?_|refine W (AQ (decide_eq_false e2)) ?_|refine W (Bb (Eq.refl true)) ?_|refine W (Be (Eq.refl true)) ?_|refine W (AK (Eq.refl true)) ?_|refine W (AQ (Eq.refl true)) ?_|refine W (Bb (Eq.refl false)) ?_|refine W (Be (Eq.refl false)) ?_|refine W (AK (Eq.refl false)) ?_|refine W (AQ (Eq.refl false)) ?_|refine W (Bb e3) ?_|refine W (Be e3) ?_|refine W (AK e3) ?_|refine W (AQ e3) ?_|refine W (Bb e4) ?_|refine W (Be e4) ?_|refine W (AK e4) ?_|refine W (AQ e4) ?_|refine W (AN (by with_unfolding_all rfl)) ?_)))
    exact no (fun h=>e2 h.2.1) rfl kk
  have e2:=AiC.1 e2
  by_cases e3:¬ a=0
  ·by_cases e4:decide (tk=5)=true
   all_goals
    first|rw[Bool.not_eq_true]at e4|skip
    (repeat (first|with_reducible_and_instances (first|refine WJ ?_|refine W (AW o3 (by with_unfolding_all rfl) (by with_unfolding_all rfl)) ?_|refine W (R8) ?_|refine W (Bb e1) ?_|refine W (Be e1) ?_|refine W (AK e1) ?_|refine W (AQ e1) ?_|refine W (Bb (decide_eq_true e2)) ?_|refine W (Be (decide_eq_true e2)) ?_|refine W (AK (decide_eq_true e2)) ?_|refine W (AQ (decide_eq_true e2)) ?_|refine W (Bb (Eq.refl true)) ?_|refine W (Be (Eq.refl true)) ?_|refine W (AK (Eq.refl true)) ?_|refine W (AQ (Eq.refl true)) ?_|refine W (Bb (Eq.refl false)) ?_|refine W (Be (Eq.refl false)) ?_|refine W (AK (Eq.refl false)) ?_|refine W (AQ (Eq.refl false)) ?_|refine W (Bb (decide_eq_false e3)) ?_|refine W (Be (decide_eq_false e3)) ?_|refine W (AK (decide_eq_false e3)) ?_|refine W (AQ (decide_eq_false e3)) ?_|refine W (Bb e4) ?_|refine W (Be e4) ?_|refine W (AK e4) ?_|refine W (AQ e4) ?_|refine W (AN (by with_unfolding_all rfl)) ?_)))
    exact no (fun h=>e3 h.2.2.1) rfl kk
  have e3:=AiC.1 e3
  by_cases e4:¬ tk=5
  ·(repeat (first|with_reducible_and_instances (first|refine WJ ?_|refine W (AW o3 (by with_unfolding_all rfl) (by with_unfolding_all rfl)) ?_|refine W (R8) ?_|refine W (Bb e1) ?_|refine W (Be e1) ?_|refine W (AK e1) ?_|refine W (AQ e1) ?_|refine W (Bb (decide_eq_true e2)) ?_|refine W (Be (decide_eq_true e2)) ?_|refine W (AK (decide_eq_true e2)) ?_|refine W (AQ (decide_eq_true e2)) ?_|refine W (Bb (Eq.refl true)) ?_|refine W (Be (Eq.refl true)) ?_|refine W (AK (Eq.refl true)) ?_|refine W (AQ (Eq.refl true)) ?_|refine W (Bb (Eq.refl false)) ?_|refine W (Be (Eq.refl false)) ?_|refine W (AK (Eq.refl false)) ?_|refine W (AQ (Eq.refl false)) ?_|refine W (Bb (decide_eq_true e3)) ?_|refine W (Be (decide_eq_true e3)) ?_|refine W (AK (decide_eq_true e3)) ?_|refine W (AQ (decide_eq_true e3)) ?_|refine W (Bb (decide_eq_false e4)) ?_|refine W (Be (decide_eq_false e4)) ?_|refine W (AK (decide_eq_false e4)) ?_|refine W (AQ (decide_eq_false e4)) ?_|refine W (AN (by with_unfolding_all rfl)) ?_)))
   exact no (fun h=>e4 h.2.2.2.1) rfl kk
  have e4:=AiC.1 e4
  (repeat (first|with_reducible_and_instances (first|refine WJ ?_|refine W (AW o3 (by with_unfolding_all rfl) (by with_unfolding_all rfl)) ?_|refine W (R8) ?_|refine W (Bb e1) ?_|refine W (Be e1) ?_|refine W (AK e1) ?_|refine W (AQ e1) ?_|refine W (Bb (decide_eq_true e2)) ?_|refine W (Be (decide_eq_true e2)) ?_|refine W (AK (decide_eq_true e2)) ?_|refine W (AQ (decide_eq_true e2)) ?_|refine W (Bb (Eq.refl true)) ?_|refine W (Be (Eq.refl true)) ?_|refine W (AK (Eq.refl true)) ?_|refine W (AQ (Eq.refl true)) ?_|refine W (Bb (Eq.refl false)) ?_|refine W (Be (Eq.refl false)) ?_|refine W (AK (Eq.refl false)) ?_|refine W (AQ (Eq.refl false)) ?_|refine W (Bb (decide_eq_true e3)) ?_|refine W (Be (decide_eq_true e3)) ?_|refine W (AK (decide_eq_true e3)) ?_|refine W (AQ (decide_eq_true e3)) ?_|refine W (Bb (decide_eq_true e4)) ?_|refine W (Be (decide_eq_true e4)) ?_|refine W (AK (decide_eq_true e4)) ?_|refine W (AQ (decide_eq_true e4)) ?_|refine W (AN (by with_unfolding_all rfl)) ?_)))
  obtain⟨ss,hss⟩:∃ ss,ss=x :: sr:=⟨_,rfl⟩
  have hne:ss≠[]:=by rw[hss];simp
  have hg:ss.getD 0 0=s:=by rw[hss];exact e2
  rw[←hss]at hs o3 no ⊢
  have hpos:0<ss.length:=Ai3.2 hne
  clear hss e1
  refine Zj (fun y z S'=>∃ i:Nat,z=aI i∧i+1≤ss.length∧Am S S'∧S3.n≤S'.n∧S'.obj S.n=some (.cells 29 [c.cells] true)∧S'.obj S1.n=some (.cells 32 [[aI k,.v (.string nm),aI l,Du [f0,f1]]] true)∧
      S'.obj S2.n=some (.cells 51 [[aI tk,aI s,aI a,aL aI ss,K8 ks]] true)∧A4 S3.n S' y 32 ((List.replicate i f0).map Fo.row)∧∀ j (h:j+1<ss.length),j<i→BO c (ss[j]'(by omega)) ss[j+1]=true)
   (fun _ z _=>ss.length - ((Aw z).getD 0).toNat) ⟨0,rfl,hpos,kk,AhN _,p1,p2,o3,.nl _ _ _,fun j _ h=>by omega⟩ ?_
  dsimp only[Dw]
  rintro y _ S4 ⟨i,rfl,hi,k4,n4,p1,p2,p3,w4,hch⟩ KE hKE
  dsimp only[tL,Fi,Lf,Lt,Lc,Lq,Ld]
  have hadd:∀(T:Aa) (K:AV→Aa→Prop),bin .add 0 (aI i) (.v (.int .i64 1)) T K=K (aI (i+1:Nat)) T:=fun T K=>Ar (by omega) (by omega) 0
  have hi0:i<ss.length:=by omega
  rw[hadd,As,Ag]
  refine Al (fun hlt=>?_) (fun hge=>?_)
  ·have hlt:i+1<ss.length:=by have:=dT hlt;omega
   show ∃ q:AV,_
   refine⟨_,by rw[An (n:=8) p1 rfl];exact⟨rfl,rfl⟩,?_⟩
   refine⟨_,by rw[Ac];exact⟨rfl,rfl⟩,?_⟩
   refine⟨_,by rw[Ae p3 rfl rfl];exact⟨rfl,rfl⟩,?_⟩
   refine⟨_,by rw[AM hi0];exact⟨rfl,rfl⟩,?_⟩
   refine⟨_,by rw[A1];exact⟨rfl,rfl⟩,?_⟩
   refine⟨_,by rw[Ac];exact⟨rfl,rfl⟩,?_⟩
   refine⟨_,by rw[Ae p3 rfl rfl];exact⟨rfl,rfl⟩,?_⟩
   refine⟨_,by rw[hadd];exact⟨rfl,rfl⟩,?_⟩
   refine⟨_,by rw[AM hlt];exact⟨rfl,rfl⟩,?_⟩
   refine⟨_,by rw[A1];exact⟨rfl,rfl⟩,?_⟩
   refine⟨_,Af (Kj hc ss[i] ss[i+1]) ⟨rfl,rfl⟩,?_⟩
   refine⟨_,by rw[AJ];exact⟨rfl,rfl⟩,?_⟩
   rw[Ag]
   refine Al (fun h=>?_) (fun h=>?_)
   ·exact no (fun hq=>by rw[RH hlt (by simpa using h)]at hq;cases hq.2.2.2.2) rfl k4
   ·have h:BO c ss[i] ss[i+1]=true:=by simpa using h
    rw[Ac,Ae p2 rfl rfl,KT,Ca (Fo.Aj _)]
    refine G7 (Fo.Aj _) ?_
    refine w4.app (c:=f0.row) (by omega) (Fo.Aj _) (by simp;omega) (fun z' S5 w5 b5 hz=>?_) rfl
    obtain⟨m5,hm5⟩:=hz
    have n5:=b5.1
    have old5:∀ x,x<S3.n→S5.obj x=S4.obj x:=fun x hx=>b5.2 x (by omega) (fun b m e=>by have:=w4.lt e;omega)
    rw[hadd]
    refine hKE _ _ _ ⟨i+1,rfl,hlt,⟨by have:=k4.1;omega,fun x hx=>(old5 x (by have:=kk.1;omega)).trans (k4.2 x hx)⟩,by omega,(old5 _ (by omega)).trans p1,(old5 _ (by omega)).trans p2,(old5 _ (by omega)).trans p3,?_,fun j hj hji=>?_⟩ (by simp[Aw];omega)
    ·rw[List.replicate_succ',AhU]
     exact w5
    ·by_cases e:j=i
     ·subst e;exact h
     ·exact hch j hj (by omega)
  ·have hge:i+1=ss.length:=by have:=dF hge;omega
   have hsub:∀(T:Aa) (K:AV→Aa→Prop),bin .sub 0 (aI ss.length) (.v (.int .i64 1)) T K=K (aI i) T:=fun T K=>(Bx (by omega) (by omega) 0).trans (by rw[show((ss.length:Nat):Int) - 1=i by omega])
   have hlast:ss.getD (ss.length - 1) 0=ss[i]:=by simp[AhL,←hge,hi0]
   have hall:C7 c ss=true:=On fun j hj=>hch j hj (by omega)
   have hres:Hp c f0 f1 tk s a ss ks=Tn.B6 c ks (List.replicate i f0 ++ [f1,GL]) (ss ++ [ss[i]]) 0:=by
    rw[Hp,if_pos ⟨hne,hg,e3,e4,hall⟩,hlast,show ss.length - 1=i by omega]
   rw[hres]
   clear no
   have lix:∀{P:AV→Prop},(∃ q,(∀ T,Am S4 T→AS 3 1 (aL aI ss) (aI i) T fun v S=>v=q∧S=T)∧P q)=P (.q [aI ss[i]] 0):=vP hi0
   (repeat (first|with_reducible_and_instances (first|refine WJ ?_|refine W (Dr p2 (by omega) (by with_unfolding_all rfl) (by with_unfolding_all rfl)) ?_|refine W (R6) ?_|refine W (G1 (Fo.Aj _)) ?_|refine W (AN (by with_unfolding_all rfl)) ?_)|refine BE (Ng) rfl rfl ?_|refine CT (Ng) rfl rfl ?_|refine Hb (Ng) rfl rfl ?_|refine BE (Nh IA) rfl rfl ?_|refine CT (Nh IA) rfl rfl ?_|refine Hb (Nh IA) rfl rfl ?_))
   refine⟨.l [f1.row,GL.row],fun T hT=>E1 (Fo.Aj _) (Fo.Aj _) ⟨rfl,rfl⟩,?_⟩
   refine A4.Qe (ys:=[f1.row,GL.row]) w4 (by omega) (by simp[Fo.Aj]) (by simp;omega) (fun z5 S5 w5 b5 hz5=>?_) rfl
   have n5:=b5.1
   have old5:∀ x,x<S3.n→S5.obj x=S4.obj x:=fun x hx=>b5.2 x (by omega) (fun b m e=>by have:=w4.lt e;omega)
   have q1:=(old5 _ (by omega)).trans p1
   have q3:=(old5 _ (by omega)).trans p3
   have lix:∀{P:AV→Prop},(∃ q,(∀ T,Am S5 T→AS 3 1 (aL aI ss) (aI i) T fun v S=>v=q∧S=T)∧P q)=P (.q [aI ss[i]] 0):=vP hi0
   have lsub:∀{P:AV→Prop},(∃ q,(∀ T,Am S5 T→bin .sub 0 (aI ss.length) (.v (.int .i64 1)) T fun v S=>v=q∧S=T)∧P q)=P (aI i):=E9 (op:=fun T K=>bin .sub 0 (aI ss.length) (.v (.int .i64 1)) T K) fun T hT K=>hsub T K
   (repeat (first|with_reducible_and_instances (first|refine WJ ?_|refine W (Dr q3 (by omega) (by with_unfolding_all rfl) (by with_unfolding_all rfl)) ?_|refine W (lsub) ?_|refine W (lix) ?_|refine W (zD (by with_unfolding_all rfl)) ?_|refine W (AN (by with_unfolding_all rfl)) ?_)))
   refine⟨.l [[aI ss[i]]],fun T hT=>BM rfl (fun _ h=>by cases h) ⟨rfl,rfl⟩,?_⟩
   refine A4.Qe (n:=S5.n) (e:=3) (es:=[]) (ys:=ss.map fun a=>[aI a]) (.nl _ _ _) (AhN _) (by simp) (by simp;omega) (fun z6 S6 w6 b6 hz6=>?_) rfl
   have n6:=b6.1
   rw[List.nil_append]at w6
   have old6:∀ x,x<S5.n→S6.obj x=S5.obj x:=fun x hx=>b6.2 x hx (fun b m e=>by cases e)
   have r3:=(old6 _ (by omega)).trans q3
   refine⟨fun T hT=>BM rfl (fun _ h=>by cases h) ⟨rfl,rfl⟩,fun T hT=>by rw[A1];exact⟨rfl,rfl⟩,fun T hT=>by rw[AM hi0];exact⟨rfl,rfl⟩,fun T hT=>by rw[hsub];exact⟨rfl,rfl⟩,fun T hT=>by rw[Ae (Kg hT r3) rfl rfl];exact⟨rfl,rfl⟩,fun T hT=>⟨rfl,rfl⟩,?_⟩
   refine A4.Qe (ys:=[[aI ss[i]]]) w6 (by omega) (by simp) (by simp;omega) (fun z7 S7 w7 b7 hz7=>?_) rfl
   have n7:=b7.1
   have old7:∀ x,x<S5.n→S7.obj x=S5.obj x:=fun x hx=>(b7.2 x (by omega) (fun b m e=>by have:=w6.lt e;omega)).trans (old6 x hx)
   have w5':A4 S3.n S7 z5 32 ((List.replicate i f0).map Fo.row ++ [f1.row,GL.row]):=w5.same (by omega) fun x _ hx=>old7 x hx
   have t1:=(old7 _ (by omega)).trans q1
   have t3:=(old7 _ (by omega)).trans q3
   rw[An (n:=8) t1 rfl,Ac,Ae t3 rfl rfl]
   have e5:(List.replicate i f0).map Fo.row ++ [f1.row,GL.row]=(List.replicate i f0 ++ [f1,GL]).map Fo.row:=by rw[AhU];rfl
   have e7:(ss.map fun a=>[aI a]) ++ [[aI ss[i]]]=(ss ++ [ss[i]]).map fun a=>[aI a]:=by rw[AhU];rfl
   rw[e5]at w5'
   rw[e7]at w7
   have kS7:Am S S7:=⟨by have:=k4.1;omega,fun x hx=>(old7 x (by have:=kk.1;omega)).trans ((old5 x (by have:=kk.1;omega)).trans (k4.2 x hx))⟩
   refine KY (args:=[c.av,z5,z7,K8 ks]) (args2:=[c.av,Du (List.replicate i f0 ++ [f1,GL]),aL aI (ss ++ [ss[i]]),K8 ks]) (AL S3.n) rfl (fun j u u2 e1 e2=>?_) (G8 hk IH (fun f hf=>?_) _) ?_
   ·match j with
    |0=>cases e1;cases e2;exact Ci.tr' c _ _
    |1=>cases e1;cases e2;exact XX w5' (AhN _)
    |2=>cases e1;cases e2;exact wQ w7 (by omega)
    |3=>cases e1;cases e2;exact Kt _ _ _
    |j+4=>simp at e1
   ·rcases Ai8.1 hf with hf|hf
    ·rw[(List.mem_replicate.1 hf).2];exact h0
    ·simp only[Ai9,AiE,or_false]at hf
     rcases hf with rfl|rfl
     ·exact h1
     ·exact .o _ _ (by decide) (.c _ (by decide))
   ·rw[Ei rfl,Ei rfl]
    exact⟨rfl,kS7.BA (by have:=kk.1;omega)⟩
def Jx (c:Ci) (f0:Fo) (tk s a:Int) (ss:List Int) (ks:List Tn):Int × Bool:=
 if ss≠[]∧ss.getD 0 0=s∧0≤a∧a<ss.length∧tk=6∧BO c (ss.getD (ss.length - 1) 0) (ss.getD a.toNat 0)=true∧C7 c ss=true∧SC c (ss.drop a.toNat)=true then Tn.B6 c ks (List.replicate ss.length f0) ss 0 else(0,false)
theorem AfM{c:Ci}(hc:Cs c){ks:List Tn}(hk:ks.length≤1000000)(IH:∀ t∈ks,∀ f,Pu f→BF Pg 34 [c.av,f.av,t.av] (aR (t.acc c f))){f0:Fo}(h0:Pu f0)(k l:Int)(nm:ByteArray)
    {ss:List Int} (hs:ss.length≤1000000) (tk s a:Int):BF Pg 80 [c.av,(Fo.mk k nm l [f0]).av,(Tn.mk tk s a ss ks).av] (aR (Jx c f0 tk s a ss ks)):=by
 intro S
 refine Ad.HR (nI ?_)
 dsimp only[m80,Fi,Lf]
 rw[Fo.av,Fo.AD,Tn.av,Tn.AD]
 refine Ai rfl fun S1 k1 n1 o1=>?_
 refine Ai rfl fun S2 k2 n2 o2=>?_
 refine Ai rfl fun S3 k3 n3 o3=>?_
 have kk:=(k1.trans k2).trans k3
 have p1:=(Kg k3 (Kg k2 o1))
 have p2:=(Kg k3 o2)
 rw[Ac,Ae o3 rfl rfl,Ax]
 have no:∀{E:Bh},¬ (ss≠[]∧ss.getD 0 0=s∧0≤a∧a<ss.length∧tk=6∧BO c (ss.getD (ss.length - 1) 0) (ss.getD a.toNat 0)=true∧C7 c ss=true∧SC c (ss.drop a.toNat)=true)→E = .ret (.t [aI 0,aB false])→∀{T:Aa},Am S T→E = .ret (aR (Jx c f0 tk s a ss ks))∧Am S T:=fun h e T hT=>⟨by rw[Jx,if_neg h];exact e,hT⟩
 show ∃ q:AV,_
 refine W vS ?_
 by_cases hne:ss = []
 ·have e1:decide (((ss.length:Nat):Int)<1)=true:=decide_eq_true (by simp[hne])
  rw[e1]
  (repeat (first|with_reducible_and_instances (first|refine WJ ?_|refine W (AW o3 (by with_unfolding_all rfl) (by with_unfolding_all rfl)) ?_|refine W (AN (by with_unfolding_all rfl)) ?_)))
  exact no (fun h=>h.1 hne) rfl kk
 have hpos:0<ss.length:=Ai3.2 hne
 rw[show decide (((ss.length:Nat):Int)<1)=false from decide_eq_false (by omega)]
 have hx0:∀{e:Nat} {S0:Aa} {P:AV→Prop},(∃ q,(AS e 1 (aL aI ss) (.v (.int .i64 0)) S0 fun v S=>v=q∧S=S0)∧P q)=P (.q [aI (ss.getD 0 0)] 0):=by
  intro e S0 P
  match ss,hne with
  |x :: sr,_=>exact R8
 (repeat (first|with_reducible_and_instances (first|refine WJ ?_|refine W (AW o3 (by with_unfolding_all rfl) (by with_unfolding_all rfl)) ?_|refine W (hx0) ?_|refine W (AN (by with_unfolding_all rfl)) ?_)))
 by_cases e2:¬ ss.getD 0 0=s
 ·rw[decide_eq_false e2,Bool.not_false]
  (repeat (first|with_reducible_and_instances (first|refine WJ ?_|refine W (AW o3 (by with_unfolding_all rfl) (by with_unfolding_all rfl)) ?_|refine W (AN (by with_unfolding_all rfl)) ?_)))
  exact no (fun h=>e2 h.2.1) rfl kk
 have e2:=AiC.1 e2
 rw[decide_eq_true e2,Bool.not_true]
 (repeat (first|with_reducible_and_instances (first|refine WJ ?_|refine W (AW o3 (by with_unfolding_all rfl) (by with_unfolding_all rfl)) ?_|refine W (AN (by with_unfolding_all rfl)) ?_)))
 by_cases e3:a<0
 ·rw[decide_eq_true e3]
  (repeat (first|with_reducible_and_instances (first|refine WJ ?_|refine W (AW o3 (by with_unfolding_all rfl) (by with_unfolding_all rfl)) ?_|refine W (AN (by with_unfolding_all rfl)) ?_)))
  exact no (fun h=>by have:=h.2.2.1;omega) rfl kk
 rw[decide_eq_false e3]
 (repeat (first|with_reducible_and_instances (first|refine WJ ?_|refine W (AW o3 (by with_unfolding_all rfl) (by with_unfolding_all rfl)) ?_|refine W (AN (by with_unfolding_all rfl)) ?_)))
 by_cases e4:((ss.length:Nat):Int)≤a
 ·rw[decide_eq_true e4]
  (repeat (first|with_reducible_and_instances (first|refine WJ ?_|refine W (AW o3 (by with_unfolding_all rfl) (by with_unfolding_all rfl)) ?_|refine W (AN (by with_unfolding_all rfl)) ?_)))
  exact no (fun h=>by have:=h.2.2.2.1;omega) rfl kk
 rw[decide_eq_false e4]
 (repeat (first|with_reducible_and_instances (first|refine WJ ?_|refine W (AW o3 (by with_unfolding_all rfl) (by with_unfolding_all rfl)) ?_|refine W (AN (by with_unfolding_all rfl)) ?_)))
 by_cases e5:¬ tk=6
 ·rw[decide_eq_false e5,Bool.not_false]
  (repeat (first|with_reducible_and_instances (first|refine WJ ?_|refine W (AW o3 (by with_unfolding_all rfl) (by with_unfolding_all rfl)) ?_|refine W (AN (by with_unfolding_all rfl)) ?_)))
  exact no (fun h=>e5 h.2.2.2.2.1) rfl kk
 have e5:=AiC.1 e5
 rw[decide_eq_true e5,Bool.not_true]
 obtain⟨i0,hi0⟩:∃ i0:Nat,ss.length=i0+1:=⟨ss.length - 1,by omega⟩
 obtain⟨j,rfl⟩:=AhX (show 0≤a by omega)
 have hj:j<ss.length:=by omega
 have hi1:i0<ss.length:=by omega
 have lsub:∀{S0:Aa} {P:AV→Prop},(∃ q,(bin .sub 0 (aI ss.length) (.v (.int .i64 1)) S0 fun v S=>v=q∧S=S0)∧P q)=P (aI i0):=fun{S0 P}=>CZ (op:=fun K=>bin .sub 0 (aI ss.length) (.v (.int .i64 1)) S0 K) fun K=>(Bx (by omega) (by omega) 0).trans (by rw[show((ss.length:Nat):Int) - 1=i0 by omega])
 have hlast:ss.getD (ss.length - 1) 0=ss[i0]:=by simp[AhL,hi0]
 have hat:ss.getD (((j:Nat):Int)).toNat 0=ss[j]:=by simp[AhL,hj]
 (repeat (first|with_reducible_and_instances (first|refine WJ ?_|refine W (AW o3 (by with_unfolding_all rfl) (by with_unfolding_all rfl)) ?_|refine W (lsub) ?_|refine W (R9 hi1) ?_|refine W (R9 hj) ?_|refine W (Ct (n:=8) p1 (by with_unfolding_all rfl)) ?_|refine W (AN (by with_unfolding_all rfl)) ?_)|refine BE (Kj hc ss[i0] ss[j]) rfl rfl ?_|refine CT (Kj hc ss[i0] ss[j]) rfl rfl ?_))
 cases e6:BO c ss[i0] ss[j]with
 |false =>
  rw[Bool.not_false]
  (repeat (first|with_reducible_and_instances (first|refine WJ ?_|refine W (AW o3 (by with_unfolding_all rfl) (by with_unfolding_all rfl)) ?_|refine W (AN (by with_unfolding_all rfl)) ?_)))
  exact no (fun h=>by rw[hlast,hat,e6]at h;cases h.2.2.2.2.2.1) rfl kk
 |true =>
  rw[Bool.not_true]
  (repeat (first|with_reducible_and_instances (first|refine WJ ?_|refine W (AW o3 (by with_unfolding_all rfl) (by with_unfolding_all rfl)) ?_|refine W (AN (by with_unfolding_all rfl)) ?_)))
  have hg:=e2
  have no2:∀{E:Bh},¬ (C7 c ss=true∧SC c (ss.drop j)=true)→E = .ret (.t [aI 0,aB false])→∀{T:Aa},Am S T→E = .ret (aR (Jx c f0 tk s j ss ks))∧Am S T:=fun h e T hT=>no (fun hq=>h ⟨hq.2.2.2.2.2.2.1,by have:=hq.2.2.2.2.2.2.2;rwa [Ai1]at this⟩) e hT
  have yes:C7 c ss=true→SC c (ss.drop j)=true→Jx c f0 tk s j ss ks=Tn.B6 c ks (List.replicate ss.length f0) ss 0:=fun h1 h2=>by
   rw[Jx,if_pos ⟨hne,hg,by omega,by omega,e5,by rw[hlast,hat];exact e6,h1,by rw[Ai1];exact h2⟩]
  clear no
  refine Zi (fun y z S'=>∃ i:Nat,z=aI i∧i≤ss.length∧Am S S'∧S3.n≤S'.n∧S'.obj S.n=some (.cells 29 [c.cells] true)∧S'.obj S1.n=some (.cells 32 [[aI k,.v (.string nm),aI l,Du [f0]]] true)∧
      S'.obj S2.n=some (.cells 51 [[aI tk,aI s,aI j,aL aI ss,K8 ks]] true)∧A4 S3.n S' y 32 ((List.replicate i f0).map Fo.row)∧∀ m (h:m+1<ss.length),m+1<i→BO c (ss[m]'(by omega)) ss[m+1]=true)
   (fun _ z _=>ss.length - ((Aw z).getD 0).toNat) ⟨0,rfl,AhS _,kk,AhN _,p1,p2,o3,.nl _ _ _,fun j _ h=>by omega⟩ ?_
  dsimp only[Dw]
  rintro y _ S4 ⟨i,rfl,hi,k4,n4,p1,p2,p3,w4,hch⟩ KE hKE
  dsimp only[tK,P6,Fi,Lf,Lq,Ld]
  have hadd:∀(T:Aa) (K:AV→Aa→Prop),bin .add 0 (aI i) (.v (.int .i64 1)) T K=K (aI (i+1:Nat)) T:=fun T K=>Ar (by omega) (by omega) 0
  rw[As,Ag]
  refine Al (fun hlt=>?_) (fun hge=>?_)
  ·have hlt:i<ss.length:=by have:=dT hlt;omega
   have step:(∀ m,m+1=i→(h:m<ss.length)→BO c ss[m] ss[i]=true)→shift (.p S1.n 0 0) 3 S4 fun v T=>Ay v T fun v T=>AS 32 4 v (.v (.int .i64 0)) T fun v T=>AB 4 v T fun v T=>AU 32 4 1 HC [(0,v)] T fun v T=>Bo 32 4 56 y v T fun v T=>bin .add 0 (aI i) (.v (.int .i64 1)) T fun v2 T=>KE 131 (Ic (.p S.n 0 0) (.p S1.n 0 0) (.p S2.n 0 0) (aI ss.length) v v2) T:=by
    intro hb
    rw[Ac,Ae p2 rfl rfl,KT,Ca (Fo.Aj _)]
    refine G7 (Fo.Aj _) ?_
    refine w4.app (c:=f0.row) (by omega) (Fo.Aj _) (by simp;omega) (fun z' S5 w5 b5 hz=>?_) rfl
    obtain⟨m5,hm5⟩:=hz
    have n5:=b5.1
    have old5:∀ x,x<S3.n→S5.obj x=S4.obj x:=fun x hx=>b5.2 x (by omega) (fun b m e=>by have:=w4.lt e;omega)
    rw[hadd]
    refine hKE _ _ _ ⟨i+1,rfl,hlt,⟨by have:=k4.1;omega,fun x hx=>(old5 x (by have:=kk.1;omega)).trans (k4.2 x hx)⟩,by omega,(old5 _ (by omega)).trans p1,(old5 _ (by omega)).trans p2,(old5 _ (by omega)).trans p3,?_,fun m hm hmi=>?_⟩ (by simp[Aw];omega)
    ·rw[List.replicate_succ',AhU]
     exact w5
    ·by_cases e:m+1=i
     ·subst e;exact hb m rfl (by omega)
     ·exact hch m hm (by omega)
   show ∃ q:AV,_
   refine W vT ?_
   by_cases hi00:i=0
   ·rw[show decide ((0:Int)<(i:Int))=false from decide_eq_false (by omega)]
    (repeat (first|with_reducible_and_instances (first|refine WJ ?_|refine W (AN (by with_unfolding_all rfl)) ?_)))
    exact step fun m hm=>by omega
   ·obtain⟨m,rfl⟩:∃ m,i=m+1:=⟨i - 1,by omega⟩
    have hm:m<ss.length:=by omega
    rw[show decide ((0:Int)<((m+1:Nat):Int))=true from decide_eq_true (by omega)]
    have lsb:∀{P:AV→Prop},(∃ q,(bin .sub 0 (aI (m+1:Nat)) (.v (.int .i64 1)) S4 fun v S=>v=q∧S=S4)∧P q)=P (aI m):=CZ (op:=fun K=>bin .sub 0 (aI (m+1:Nat)) (.v (.int .i64 1)) S4 K) fun K=>(Bx (by omega) (by omega) 0).trans (by rw[show(((m+1:Nat):Nat):Int) - 1=m by omega])
    cases e7:BO c ss[m] ss[m+1]with
    |false =>
     (repeat (first|with_reducible_and_instances (first|refine WJ ?_|refine W (AW p3 (by with_unfolding_all rfl) (by with_unfolding_all rfl)) ?_|refine W (Ct (n:=8) p1 (by with_unfolding_all rfl)) ?_|refine W (lsb) ?_|refine W (R9 hm) ?_|refine W (R9 hlt) ?_|refine W (Bb e7) ?_|refine W (Be e7) ?_|refine W (AK e7) ?_|refine W (AQ e7) ?_|refine W (AN (by with_unfolding_all rfl)) ?_)|refine BE (Kj hc ss[m] ss[m+1]) rfl rfl ?_|refine CT (Kj hc ss[m] ss[m+1]) rfl rfl ?_))
     exact no2 (fun hq=>by rw[RH hlt e7]at hq;cases hq.1) rfl k4
    |true =>
     (repeat (first|with_reducible_and_instances (first|refine WJ ?_|refine W (AW p3 (by with_unfolding_all rfl) (by with_unfolding_all rfl)) ?_|refine W (Ct (n:=8) p1 (by with_unfolding_all rfl)) ?_|refine W (lsb) ?_|refine W (R9 hm) ?_|refine W (R9 hlt) ?_|refine W (Bb e7) ?_|refine W (Be e7) ?_|refine W (AK e7) ?_|refine W (AQ e7) ?_|refine W (AN (by with_unfolding_all rfl)) ?_)|refine BE (Kj hc ss[m] ss[m+1]) rfl rfl ?_|refine CT (Kj hc ss[m] ss[m+1]) rfl rfl ?_))
     exact step fun m' hm' hl=>by
      have:m'=m:=by omega
      subst this
      exact e7
  ·have hge:i=ss.length:=by have:=dF hge;omega
   subst hge
   have hchain:C7 c ss=true:=On fun m hm=>hch m hm hm
   have hfair:=hc.ok.fair
   have hmx:ss.length≤1000000:=hs
   refine Zh (fun z S'=>S'=S4∧∃ i:Nat,z=aI i∧i≤c.fair.length∧∀ m (h:m<c.fair.length),m<i→((ss.drop j).any fun s=>DM c s c.fair[m])=true) (fun z _=>c.fair.length - ((Aw z).getD 0).toNat) ⟨rfl,0,rfl,AhS _,fun m _ h=>by omega⟩ ?_
   dsimp only[BS]
   rintro _ S4 ⟨rfl,i,rfl,hif,hmet⟩ KE1 hKE1
   dsimp only[tJ,Fi,Lf]
   rw[Ac,Ae p1 rfl rfl,Ax,As,Ag]
   refine Al (fun hlt=>?_) (fun hge=>?_)
   ·have hlt:i<c.fair.length:=by have:=dT hlt;omega
    rw[Ac,Ae p3 rfl rfl]
    refine Zg (fun y z S'=>S'=S4∧∃ r:Nat,z=aI r∧j≤r∧r≤ss.length∧y=aB (((ss.drop j).take (r - j)).any fun s=>DM c s c.fair[i])) (fun _ z _=>ss.length - ((Aw z).getD 0).toNat) ⟨rfl,j,rfl,AhN _,by omega,by simp⟩ ?_
    dsimp only[Dw]
    rintro _ _ S4 ⟨rfl,r,rfl,hjr,hr,rfl⟩ KE2 hKE2
    dsimp only[tI,Fi,Lq,Ld]
    rw[As,Ag]
    refine Al (fun hlr=>?_) (fun hgr=>?_)
    ·have hlr:r<ss.length:=by have:=dT hlr;omega
     have hd:r - j<(ss.drop j).length:=by simp;omega
     have htk:((ss.drop j).take (r+1 - j)).any (fun s=>DM c s c.fair[i])=(((ss.drop j).take (r - j)).any (fun s=>DM c s c.fair[i]) || DM c ss[r] c.fair[i]):=by
      rw[show r+1 - j=(r - j)+1 by omega,AiA,List.any_append,AhM hd]
      have:(ss.drop j)[r - j]=ss[r]:=by rw[List.getElem_drop];congr 1;omega
      simp[this]
     have hadd:∀(T:Aa) (K:AV→Aa→Prop),bin .add 0 (aI r) (.v (.int .i64 1)) T K=K (aI (r+1:Nat)) T:=fun T K=>Ar (by omega) (by omega) 0
     show KC _ _
     rw[Ag]
     refine Al (fun hm=>?_) (fun hm=>?_)
     ·show ∃ q:AV,_
      refine W vR ?_
      rw[hadd]
      exact hKE2 _ _ _ ⟨rfl,r+1,rfl,by omega,hlr,by rw[htk,hm];rfl⟩ (by simp[Aw];omega)
     ·show ∃ q:AV,_
      (repeat (first|with_reducible_and_instances (first|refine WJ ?_|refine W (AW p3 (by with_unfolding_all rfl) (by with_unfolding_all rfl)) ?_|refine W (AW p1 (by with_unfolding_all rfl) (by with_unfolding_all rfl)) ?_|refine W (Ct (n:=8) p1 (by with_unfolding_all rfl)) ?_|refine W (R9 hlr) ?_|refine W (R9 hlt) ?_|refine W (AN (by with_unfolding_all rfl)) ?_)|refine BE (IU hc.ok (s:=ss[r]) (hfair.1 _ (AhP hlt))) rfl rfl ?_|refine CT (IU hc.ok (s:=ss[r]) (hfair.1 _ (AhP hlt))) rfl rfl ?_))
      rw[hadd]
      exact hKE2 _ _ _ ⟨rfl,r+1,rfl,by omega,hlr,by rw[htk,hm,Bool.false_or]⟩ (by simp[Aw];omega)
    ·have hgr:r=ss.length:=by have:=dF hgr;omega
     subst hgr
     rw[AiD (by simp),AJ,Ag]
     refine Al (fun h=>?_) (fun h=>?_)
     ·exact no2 (fun hq=>by
        have:=AhW.1 hq.2 _ (AhP hlt)
        rw[this]at h;cases h) rfl k4
     ·rw[Ar (by omega) (by omega)]
      exact hKE1 _ _ ⟨rfl,i+1,rfl,hlt,LK (p:=fun l=>((ss.drop j).any fun s=>DM c s l)=true) (hi:=hlt) hmet (by simpa using h)⟩ (by simp[Aw];omega)
   ·have hge:i=c.fair.length:=by have:=dF hge;omega
    subst hge
    rw[yes hchain (Qh fun m hm=>hmet m hm hm)]
    rw[An (n:=8) p1 rfl,Ac,Ae p3 rfl rfl,Ac,Ae p3 rfl rfl]
    refine KY (args:=[c.av,y,aL aI ss,K8 ks]) (args2:=[c.av,Du (List.replicate ss.length f0),aL aI ss,K8 ks]) (AL S3.n) rfl (fun j u u2 e1 e2=>?_) (G8 hk IH (fun f hf=>?_) _) ?_
    ·match j with
     |0=>cases e1;cases e2;exact Ci.tr' c _ _
     |1=>cases e1;cases e2;exact XX w4 (AhN _)
     |2=>cases e1;cases e2;exact D7 _ _ _
     |3=>cases e1;cases e2;exact Kt _ _ _
     |j+4=>simp at e1
    ·rw[(List.mem_replicate.1 hf).2];exact h0
    ·rw[Ei rfl,Ei rfl]
     exact⟨rfl,k4.BA (by have:=kk.1;omega)⟩
def G6(j tk a:Int)(ss:List Int)(ks:List Tn):Bool:=decide (tk=j) && decide (a=0∧ss.length=0∧ks.length=0)
theorem LL(j tk a:Int)(ss:List Int)(ks:List Tn):decide (tk=j∧a=0∧ss = []∧ks.map Tn.st = [])=G6 j tk a ss ks:=by
 unfold G6
 rw[←Bool.decide_and]
 refine decide_eq_decide.2 ?_
 rw[List.length_eq_zero_iff,List.length_eq_zero_iff,AiT]
def QC (c:Ci) (ks:List Tn):(Int × Bool) ⊕ (List Fo × List Int)→Int × Bool
 |.inl r=>r
 |.inr p=>Tn.B6 c ks p.1 p.2 0
section
variable {c:Ci} {tk s a l:Int} {ss:List Int} {ks:List Tn} {nm:ByteArray} {fs:List Fo}
theorem D2{f:Fo}:Tn.acc c (.mk tk s a ss ks) f=QC c ks (El c f tk s a ss (ks.map Tn.st)):=by
 rw[Tn.acc]
 cases El c f tk s a ss (ks.map Tn.st)<;>rfl
theorem EG{p:Prop}[Decidable p]{x:List Fo}{y:List Int}{r:Int × Bool}:QC c ks (if p then .inr (x,y)else .inl r)=if p then Tn.B6 c ks x y 0 else r:=by split<;>rfl
theorem rF(f:Fo)(h:BY c s=false):Tn.acc c (.mk tk s a ss ks) f=(0,false):=by
 obtain⟨k,n,l,fs⟩:=f
 rw[D2,El,if_pos h];first|rfl|(simp[QC];done)
theorem Ag6(h:BY c s=true):Tn.acc c (.mk tk s a ss ks) (.mk 1 nm l fs)=(0,false):=by
 rw[D2,El,if_neg (by simp[h]),if_pos rfl];first|rfl|(simp[QC];done)
theorem jA(h:BY c s=true):Tn.acc c (.mk tk s a ss ks) (.mk 2 nm l fs)=(0,G6 1 tk a ss ks):=by
 rw[D2,El,if_neg (by simp[h]),if_neg (by decide),if_pos rfl,LL];first|rfl|(simp[QC];done)
theorem iZ(h:BY c s=true):Tn.acc c (.mk tk s a ss ks) (.mk 3 nm l fs)=(0,G6 1 tk a ss ks && DM c s l):=by
 rw[D2,El,if_neg (by simp[h]),if_neg (by decide),if_neg (by decide),if_pos rfl,LL];first|rfl|(simp[QC];done)
theorem iY{n2:ByteArray}{l2:Int}{f2:List Fo}(h:BY c s=true):Tn.acc c (.mk tk s a ss ks) (.mk 4 nm l [.mk 3 n2 l2 f2])=(0,G6 1 tk a ss ks && !DM c s l2):=by
 rw[D2,El,if_neg (by simp[h]),if_neg (by decide),if_neg (by decide),if_neg (by decide),if_pos rfl,LL];first|rfl|(simp[QC];done)
theorem vM(h:BY c s=true):Tn.acc c (.mk tk s a ss ks) (.mk 5 nm l fs)=if tk=2∧a=0∧ss = []then Tn.B6 c ks fs [s,s] 0 else(0,false):=by
 rw[D2,El,if_neg (by simp[h]),if_neg (by decide),if_neg (by decide),if_neg (by decide),if_neg (by decide),if_pos rfl]
 exact EG
theorem vL(h:BY c s=true):Tn.acc c (.mk tk s a ss ks) (.mk 6 nm l fs)=if tk=3∧0≤a∧a≤1∧ss = []then Tn.B6 c ks [fs.getD a.toNat LP] [s] 0 else(0,false):=by
 rw[D2,El,if_neg (by simp[h]),if_neg (by decide),if_neg (by decide),if_neg (by decide),if_neg (by decide),if_neg (by decide),if_pos rfl]
 exact EG
theorem vK(h:BY c s=true):Tn.acc c (.mk tk s a ss ks) (.mk 9 nm l fs)=if tk=4∧a=0∧ss = []∧(ks.map Tn.st).length=2∧BO c s ((ks.map Tn.st).getD 0 0)=true then Tn.B6 c ks [fs.getD 0 LP,GL] [(ks.map Tn.st).getD 0 0,(ks.map Tn.st).getD 0 0] 0 else(0,false):=by
 rw[D2,El,if_neg (by simp[h]),if_neg (by decide),if_neg (by decide),if_neg (by decide),if_neg (by decide),if_neg (by decide),if_neg (by decide),if_pos rfl]
 exact EG
theorem jE{f:Fo}(h:BY c s=true):Tn.acc c (.mk tk s a ss ks) (.mk 11 nm l [f])=Hp c IA f tk s a ss ks:=by
 rw[D2,El,if_neg (by simp[h]),if_neg (by decide),if_neg (by decide),if_neg (by decide),if_neg (by decide),if_neg (by decide),if_neg (by decide),if_neg (by decide),if_pos (.inl rfl),Hp,if_pos rfl,if_pos rfl]
 exact EG
theorem jC{f g:Fo}(h:BY c s=true):Tn.acc c (.mk tk s a ss ks) (.mk 15 nm l [f,g])=Hp c f g tk s a ss ks:=by
 rw[D2,El,if_neg (by simp[h]),if_neg (by decide),if_neg (by decide),if_neg (by decide),if_neg (by decide),if_neg (by decide),if_neg (by decide),if_neg (by decide),if_pos (.inr rfl),Hp]
 exact EG
theorem jD{f:Fo}(h:BY c s=true):Tn.acc c (.mk tk s a ss ks) (.mk 13 nm l [f])=Jx c f tk s a ss ks:=by
 rw[D2,El,if_neg (by simp[h]),if_neg (by decide),if_neg (by decide),if_neg (by decide),if_neg (by decide),if_neg (by decide),if_neg (by decide),if_neg (by decide),if_neg (by decide),if_pos rfl,Jx]
 exact EG
theorem jB{f g:Fo}(h:BY c s=true):Tn.acc c (.mk tk s a ss ks) (.mk 17 nm l [f,g])=if tk=3∧0≤a∧a≤1∧ss = []then Tn.B6 c ks [if a=0 then A3 13 g else A7 15 g (A7 5 f g)] [s] 0 else(0,false):=by
 rw[D2,El,if_neg (by simp[h]),if_neg (by decide),if_neg (by decide),if_neg (by decide),if_neg (by decide),if_neg (by decide),if_neg (by decide),if_neg (by decide),if_neg (by decide),if_neg (by decide),if_pos rfl]
 exact EG
theorem vJ{k:Int}(hk:k=10∨k=12∨k=14∨k=16∨k=18)(h:BY c s=true):Tn.acc c (.mk tk s a ss ks) (.mk k nm l fs)=(1,G6 7 tk a ss ks):=by
 rw[D2,El,if_neg (by simp[h]),if_neg (by omega),if_neg (by omega),if_neg (by omega),if_neg (by omega),if_neg (by omega),if_neg (by omega),if_neg (by omega),if_neg (by omega),if_neg (by omega),if_neg (by omega),LL];first|rfl|(simp[QC];done)
end
theorem xR{S:Aa}{n:Nat}(k l:Int):Cv S n (.a [aI k,.v (.string ⟨#[]⟩),aI l,.nl]) (Fo.mk k ⟨#[]⟩ l []).av:=by
 rw[Fo.av,Fo.AD]
 refine .a _ _ rfl fun k u u2 e1 e2=>?_
 match k with
 |0=>cases e1;cases e2;exact .v _
 |1=>cases e1;cases e2;exact .v _
 |2=>cases e1;cases e2;exact .v _
 |3=>cases e1;cases e2;exact .nl
 |k+4=>simp at e1
theorem AeU{S:Aa}{n:Nat}{x x' y y':AV}(h:Cv S n x x')(k:Cv S n y y'):∀(i:Nat) (u u2:AV),[x,y][i]? = some u→[x',y'][i]? = some u2→Cv S n u u2
 |0,_,_,h1,h2=>by cases h1;cases h2;exact h
 |1,_,_,h1,h2=>by cases h1;cases h2;exact k
 |i+2,_,_,h1,_=>by simp at h1
theorem xS{S:Aa}{n:Nat}{x x' y y' z z':AV}(h:Cv S n x x')(k:Cv S n y y')(q:Cv S n z z'):∀(i:Nat) (u u2:AV),[x,y,z][i]? = some u→[x',y',z'][i]? = some u2→Cv S n u u2
 |0,_,_,h1,h2=>by cases h1;cases h2;exact h
 |1,_,_,h1,h2=>by cases h1;cases h2;exact k
 |2,_,_,h1,h2=>by cases h1;cases h2;exact q
 |i+3,_,_,h1,_=>by simp at h1
theorem AbQ{a b:Bw}{S:Aa}{K:List Nat→Aa→Prop}(h:∀ i j S',Am S S'→S.n≤i→i<S'.n→S.n≤j→j<S'.n→i≠j→S'.obj i=some a→S'.obj j=some b→K [i,j] S'):UA [a,b] S K:=by
 intro ids S' hn
 match ids,hn.len with
 |[i,j],_ =>
  have hd:=hn.nodup
  simp only[List.nodup_cons,AhT]at hd
  exact h i j S' hn.AR (hn.lo i (by simp)) (hn.hi i (by simp)) (hn.lo j (by simp)) (hn.hi j (by simp)) hd.1 (hn.new 0 i a rfl rfl) (hn.new 1 j b rfl rfl)
structure Gd (c:Ci) (d:Int) (f:Fo):Prop where
 ok:f.ok
 may:f.BQ d=true
 lits:f.DD c.gr=true
theorem FM{c:Ci}(k:Int)(f:Fo)(hk:3<k):A0 c (A3 k f)=QO (Au c) (DO (Au c) (Au c).valid) k (A0 c f):=CI hk
theorem EF{c:Ci}(k:Int)(f g:Fo)(hk:3<k):A0 c (A7 k f g)=Qu (Au c) (DO (Au c) (Au c).valid) k (A0 c f) (A0 c g):=CH hk
theorem QN{s:Sp}{a b:List Bool}(ha:In s a)(hb:In s b):EC a b=EC b a:=(ha.or hb).eq (hb.or ha) fun i _=>by
 rw[CR (by rw[ha.len,hb.len]),CR (by rw[ha.len,hb.len]),Bool.or_comm]
structure Wc (c:Ci):Prop where
 ok:c.ok
 right:c.right=true
 h10:¬ 10<c.gr.inputs
 fair:c.fair.length≤1
theorem Wc.sp{c:Ci}(h:Wc c):LA (Au c):=OG h.right h.h10
theorem FP{c:Ci}{f:Fo}(h:Pu f):In (Au c) (A0 c f):=by
 induction h with
 |c k hk =>
  rcases hk with rfl|rfl
  ·rw[A0,DX];exact Bp _ _
  ·rw[A0,EE];exact M4 _
 |a l h0 hl=>rw[A0,C8];exact Ey _ _
 |n l h0 hl=>rw[A0,CI (by decide),C8];exact TE (Ey _ _) _
 |o k f hk h ih=>rw[FM k f (by omega)];exact TE ih _
 |t k f g hk h h2 ih ih2=>rw[EF k f g (by omega)];exact Z8 ih ih2 _
theorem XH{c:Ci}:A0 c IA=(Au c).valid:=by rw[A0,EE]
theorem XG{c:Ci}:A0 c GL=DO (Au c) (Au c).valid:=by
 rw[FM 13 IA (by decide)]
 show DO _ (A0 c IA)=_
 rw[XH]
section
variable {c:Ci} (hc:Wc c)
include hc
theorem zY{s:Nat}(h:bit (Au c).valid s=true):s<2 ^ c.gr.inputs.toNat:=by
 have:=Cd h
 have e:(Au c).valid.length=2 ^ c.gr.inputs.toNat:=by simp[Au,AE]
 omega
theorem Er{s:Nat}(h:bit (Au c).valid s=true):BY c s=true:=by
 have hs:=zY hc h
 have h10:=hc.h10
 unfold BY
 rw[AhO,AhO,decide_eq_true_eq,decide_eq_true_eq]
 refine⟨by omega,?_,?_⟩
 ·have:((2:Int) ^ c.gr.inputs.toNat)=((2 ^ c.gr.inputs.toNat:Nat):Int):=by rw[Aj1];rfl
  omega
 ·obtain⟨_,_,_,_,_,_,_,_,_,_,hcc,_⟩:=Bq.1 hc.right
  have e:=Qr hc.right (by omega) hs hcc
  show c.cons.all (DM c s)=true
  rw[e]
  have h2:(AE c).getD s false=true:=h
  unfold AE at h2
  rw[AhL,Ai4,List.getElem?_range hs]at h2
  exact h2
theorem OC{s t:Nat}(h:(t:Int)∈nx (Au c) s):bit (Au c).valid s=true∧bit (Au c).valid t=true∧BO c s t=true:=by
 have h10:=hc.h10
 have hs:s<2 ^ c.gr.inputs.toNat:=by
  rcases AiB s (2 ^ c.gr.inputs.toNat)with h'|h'
  ·exact h'
  ·rw[nx,AhL,AiH (by simpa[Au]using h')]at h
   cases h
 have hnx:nx (Au c) s=if(AE c).getD s false=true then DA c ((AY c).getD s []) (AE c)else[]:=by
  show((Au c).next).getD s []=_
  rw[AhL]
  show(((List.range (2 ^ c.gr.inputs.toNat)).map fun s:Nat=>if(AE c).getD s false=true then DA c ((AY c).getD s []) (AE c)else[])[s]?).getD []=_
  rw[Ai4,List.getElem?_range hs]
  rfl
 rw[hnx]at h
 split at h
 case isFalse=>cases h
 rename_i hv
 unfold DA at h
 obtain⟨x,h1,h2⟩:=Ai5.1 h
 obtain⟨h3,h4⟩:=List.mem_filter.1 h1
 have hx:=AiO.1 h3
 obtain⟨q,hq1,hq2⟩:=E6 c ((AY c).getD s []) c.latches.length
 rw[hq2]at h2 h4
 rw[Ai1]at h4
 have ht:t=2 ^ c.inputs.toNat*q+x:=by omega
 rw[←ht]at h4
 have hv2:bit (Au c).valid t=true:=h4
 refine⟨hv,hv2,?_⟩
 have haf:=K6 hc.right (by omega) (s:=s) hs
 have hin:=(Bq.1 hc.right).1
 obtain⟨g1,g2,g3⟩:=CQ hc.right
 have hmin:min c.inputs.toNat 64=c.inputs.toNat:=by omega
 unfold BO
 rw[Er hc hv,Er hc hv2,AhQ,AhQ,decide_eq_true_eq,hmin,haf,hq2,sT,sT,Nat.mul_div_cancel_left _ (Nat.two_pow_pos _),ht,Nat.mul_add_div (Nat.two_pow_pos _),Nat.div_eq_of_lt hx,Nat.add_zero]
end
def kV(k:Int):Bool:=decide (¬ (k=10∨k=12∨k=14∨k=16∨k=18))
mutual
def Fo.C0:Fo→Bool
 |.mk k _ _ ks=>kV k && Fo.My ks
def Fo.My:List Fo→Bool
 |[]=>true
 |f :: fs=>Fo.C0 f && Fo.My fs
end
theorem Fo.Mx:∀(l:List Fo),Fo.My l=l.all Fo.C0
 |[]=>by rw[Fo.My];rfl
 |f :: fs=>by rw[Fo.My,Fo.Mx fs];rfl
theorem Fo.Da(k:Int)(n:ByteArray)(l:Int)(ks:List Fo):Fo.C0 (.mk k n l ks)=(kV k && ks.all Fo.C0):=by rw[Fo.C0,Fo.Mx]
structure Good (c:Ci) (f:Fo) (s:Nat) (t:Tn):Prop where
 ok:t.ok
 st:t.st=(s:Int)
 acc:(t.acc c f).2=true
 op:f.C0=true→(t.acc c f).1=0
def Df(c:Ci):List Fo→List Nat→List Tn→Prop
 |[],[],[]=>True
 |f :: fs,s :: ss,t :: ts=>Good c f s t∧Df c fs ss ts
 |_,_,_=>False
abbrev sI(r:List Nat):List Int:=r.map fun i:Nat=>(i:Int)
theorem Df.B6{c:Ci}:∀{ts:List Tn} {fs:List Fo} {ss:List Nat},Df c fs ss ts→∀ n:Int,(Tn.B6 c ts fs (sI ss) n).2=true∧((∀ f∈fs,f.C0=true)→n=0→(Tn.B6 c ts fs (sI ss) n).1=0)
 |[],[],[],_,n=>by
  show(Tn.B6 c [] [] [] n).2=true∧_
  exact⟨by rw[No],fun _ h=>by show(Tn.B6 c [] [] [] n).1=0;rw[No];exact h⟩
 |t :: ts,f :: fs,s :: ss,h,n=>by
  have e:sI (s :: ss)=(s:Int) :: sI ss:=rfl
  rw[e,Oz,if_pos (by rw[h.1.acc,h.1.st,decide_eq_true rfl];rfl)]
  obtain⟨h1,h2⟩:=Df.B6 h.2 (IntKind.i64.wrap (n+(Tn.acc c t f).1))
  refine⟨h1,fun ho hn=>h2 (fun g hg=>ho g (by simp[hg])) ?_⟩
  rw[h.1.op (ho f (by simp)),hn];rfl
 |[],[],_ :: _,h,_=>h.elim
 |[],_ :: _,[],h,_=>h.elim
 |[],_ :: _,_ :: _,h,_=>h.elim
 |_ :: _,[],[],h,_=>h.elim
 |_ :: _,[],_ :: _,h,_=>h.elim
 |_ :: _,_ :: _,[],h,_=>h.elim
theorem Df.X6{c:Ci}:∀{ts:List Tn} {fs:List Fo} {ss:List Nat},Df c fs ss ts→ts.length=ss.length∧∀ t∈ts,t.ok
 |[],[],[],_=>⟨rfl,fun t h=>by cases h⟩
 |t :: ts,f :: fs,s :: ss,h=>by
  obtain⟨h1,h2⟩:=Df.X6 h.2
  refine⟨by simp[h1],fun u hu=>?_⟩
  rcases Ai9.1 hu with rfl|hu
  ·exact h.1.ok
  ·exact h2 u hu
 |[],[],_ :: _,h=>h.elim
 |[],_ :: _,[],h=>h.elim
 |[],_ :: _,_ :: _,h=>h.elim
 |_ :: _,[],[],h=>h.elim
 |_ :: _,[],_ :: _,h=>h.elim
 |_ :: _,_ :: _,[],h=>h.elim
theorem Df.app{c:Ci}:∀{ts:List Tn} {fs:List Fo} {ss:List Nat} {ts2:List Tn} {fs2:List Fo} {ss2:List Nat},Df c fs ss ts→Df c fs2 ss2 ts2→Df c (fs++fs2) (ss++ss2) (ts++ts2)
 |[],[],[],_,_,_,_,k=>k
 |t :: ts,f :: fs,s :: ss,_,_,_,h,k=>⟨h.1,Df.app h.2 k⟩
 |[],[],_ :: _,_,_,_,h,_=>h.elim
 |[],_ :: _,[],_,_,_,h,_=>h.elim
 |[],_ :: _,_ :: _,_,_,_,h,_=>h.elim
 |_ :: _,[],[],_,_,_,h,_=>h.elim
 |_ :: _,[],_ :: _,_,_,_,h,_=>h.elim
 |_ :: _,_ :: _,[],_,_,_,h,_=>h.elim
theorem OX{n:Nat}(h:n≤1000000):Bv (n:Int):=⟨by omega,by omega⟩
theorem Mz{kd:Int}{s:Nat}{a:Nat}{ss:List Nat}{ks:List Tn}(h1:0≤kd∧kd≤100)(h2:s≤1000000)(h3:a≤1000000)(h4:ss.length≤1000000)(h5:∀ x∈ss,x≤1000000)(h6:ks.length≤1000000)(h7:∀ t∈ks,t.ok):(Tn.mk kd s a (sI ss) ks).ok:=
 .mk _ _ _ _ _ ⟨by omega,by omega⟩ (OX h2) (OX h3) (by simpa using h4) (fun x hx=>by obtain⟨y,hy,rfl⟩:=Ai5.1 hx;exact OX (h5 y hy)) h6 h7
theorem Gt{r:List Nat}{i:Nat}:(sI r).getD i 0=(gN r i:Int):=by
 unfold sI gN
 rw[AhL,AhL,Ai4]
 cases r[i]?<;>rfl
theorem Fk{k:Int}{n:ByteArray}{l:Int}{ks:List Fo}(h:Fo.C0 (.mk k n l ks)=true):∀ f∈ks,f.C0=true:=by
 rw[Fo.Da,AhO,AhW]at h
 exact h.2
theorem X3:IA.C0=true:=by rw[Fo.Da];rfl
theorem X2:GL.C0=true:=by
 rw[Fo.Da]
 simp[X3,kV]
section
variable {c:Ci} (hc:Wc c) {s:Nat} (hv:bit (Au c).valid s=true)
include hc hv
theorem Es:s≤1000000:=by
 have h1:=zY hc hv
 have h10:=hc.h10
 have:(2:Nat) ^ c.gr.inputs.toNat≤2 ^ 10:=AiJ (by decide) (by omega)
 have e:(2:Nat) ^ 10=1024:=by decide
 omega
theorem KV{f:Fo}(h:f=IA∨(∃ l,f = .mk 3 ⟨#[]⟩ l []∧DM c s l=true)∨∃ l,f = .mk 4 ⟨#[]⟩ 0 [.mk 3 ⟨#[]⟩ l []]∧DM c s l=false):Good c f s (.mk 1 s 0 [] []):=by
 have hl:G6 1 1 0 [] []=true:=rfl
 have hok:(Tn.mk 1 s 0 [] []).ok:=Mz (s:=s) (a:=0) (ss:=[]) (by decide) (Es hc hv) (by omega) (by simp) (fun x h=>by cases h) (by simp) (fun t h=>by cases h)
 have hv:=Er hc hv
 rcases h with rfl|⟨l,rfl,h⟩|⟨l,rfl,h⟩
 ·exact⟨hok,rfl,by rw[jA hv,hl],fun _=>by rw[jA hv]⟩
 ·exact⟨hok,rfl,by rw[iZ hv,hl,h];rfl,fun _=>by rw[iZ hv]⟩
 ·exact⟨hok,rfl,by rw[iY hv,hl,h];rfl,fun _=>by rw[iY hv]⟩
theorem TG{k:Int}(hk:k=10∨k=12∨k=14∨k=16∨k=18)(n:ByteArray)(l:Int)(fs:List Fo):Good c (.mk k n l fs) s (.mk 7 s 0 [] []):=by
 have hl:G6 7 7 0 [] []=true:=rfl
 have hok:(Tn.mk 7 s 0 [] []).ok:=Mz (s:=s) (a:=0) (ss:=[]) (by decide) (Es hc hv) (by omega) (by simp) (fun x h=>by cases h) (by simp) (fun t h=>by cases h)
 have hv:=Er hc hv
 refine⟨hok,rfl,by rw[vJ hk hv,hl],fun h=>?_⟩
 rw[Fo.Da,AhO]at h
 exact absurd hk (dT h.1)
theorem WY{f g:Fo}{t u:Tn}(h:Good c f s t)(k:Good c g s u):Good c (A7 5 f g) s (.mk 2 s 0 [] [t,u]):=by
 have hg:Df c [f,g] [s,s] [t,u]:=⟨h,k,trivial⟩
 have hok:(Tn.mk 2 s 0 [] [t,u]).ok:=Mz (s:=s) (a:=0) (ss:=[]) (by decide) (Es hc hv) (by omega) (by simp) (fun x h=>by cases h) (by simp) hg.X6.2
 have hv:=Er hc hv
 have e:Tn.acc c (.mk 2 s 0 [] [t,u]) (A7 5 f g)=Tn.B6 c [t,u] [f,g] (sI [s,s]) 0:=by rw[vM hv,if_pos ⟨rfl,rfl,rfl⟩];rfl
 obtain⟨h1,h2⟩:=hg.B6 0
 exact⟨hok,rfl,by rw[e];exact h1,fun ho=>by rw[e];exact h2 (Fk ho) rfl⟩
theorem M6{f f1:Fo}{i:Nat}(hi:i≤1){f' g:Fo}(hf:f=A7 6 f' g∧(if i=0 then f' else g)=f1∨f=A7 17 f' g∧(if i=0 then A3 13 g else A7 15 g (A7 5 f' g))=f1){t:Tn}(h:Good c f1 s t):Good c f s (.mk 3 s i [] [t]):=by
 have hg:Df c [f1] [s] [t]:=⟨h,trivial⟩
 have hok:(Tn.mk 3 s i [] [t]).ok:=Mz (s:=s) (ss:=[]) (by decide) (Es hc hv) (by omega) (by simp) (fun x h=>by cases h) (by simp) hg.X6.2
 have hv:=Er hc hv
 have e:Tn.acc c (.mk 3 s i [] [t]) f=Tn.B6 c [t] [f1] (sI [s]) 0:=by
  rcases hf with⟨rfl,rfl⟩|⟨rfl,rfl⟩
  ·rw[vL hv,if_pos ⟨rfl,by omega,by omega,rfl⟩]
   have:i=0∨i=1:=by omega
   rcases this with rfl|rfl<;>rfl
  ·rw[jB hv,if_pos ⟨rfl,by omega,by omega,rfl⟩]
   have:i=0∨i=1:=by omega
   rcases this with rfl|rfl<;>rfl
 obtain⟨h1,h2⟩:=hg.B6 0
 refine⟨hok,rfl,by rw[e];exact h1,fun ho=>by
  rw[e]
  refine h2 (fun x hx=>?_) rfl
  obtain rfl:=AhT.1 hx
  rcases hf with⟨rfl,rfl⟩|⟨rfl,rfl⟩
  ·have:=Fk ho
   split
   ·exact this _ (by simp)
   ·exact this _ (by simp)
  ·have:=Fk ho
   have a1:=this f' (by simp)
   have a2:=this g (by simp)
   split
   ·rw[Fo.Da];simp[a2,kV]
   ·rw[Fo.Da,AiX,AiX,a2,Fo.Da];simp[a1,a2,kV]⟩
theorem WV{f:Fo}{x:Nat}(hx:(x:Int)∈nx (Au c) s){t u:Tn}(h:Good c f x t)(k:Good c GL x u):Good c (A3 9 f) s (.mk 4 s 0 [] [t,u]):=by
 have hg:Df c [f,GL] [x,x] [t,u]:=⟨h,k,trivial⟩
 have hok:(Tn.mk 4 s 0 [] [t,u]).ok:=Mz (s:=s) (a:=0) (ss:=[]) (by decide) (Es hc hv) (by omega) (by simp) (fun x h=>by cases h) (by simp) hg.X6.2
 have hb:=(OC hc hx).2.2
 have hv:=Er hc hv
 have e:Tn.acc c (.mk 4 s 0 [] [t,u]) (A3 9 f)=Tn.B6 c [t,u] [f,GL] (sI [x,x]) 0:=by
  rw[vK hv,if_pos ⟨rfl,rfl,rfl,rfl,by show BO c s t.st=true;rw[h.st];exact hb⟩]
  show Tn.B6 c [t,u] [f,GL] [t.st,t.st] 0=_
  rw[h.st]
  rfl
 obtain⟨h1,h2⟩:=hg.B6 0
 refine⟨hok,rfl,by rw[e];exact h1,fun ho=>by
  rw[e]
  refine h2 (fun y hy=>?_) rfl
  have hy:y=f∨y=GL:=by simpa using hy
  rcases hy with rfl|rfl
  ·exact Fk ho _ (by simp)
  ·exact X2⟩
omit hv in
theorem Uj{p:List Bool}{r:List Nat}(h:C2 (Au c) p s r):C7 c (sI r)=true:=by
 unfold C7
 rw[AhW]
 intro i hi
 have hi:=AiO.1 hi
 rw[AhR]at hi
 rw[Gt,Gt]
 exact(OC hc (h.nxt i (by omega))).2.2
omit hv in
theorem Qn{p:List Bool}{r:List Nat}(h:C2 (Au c) p s r)(h0:bit (Au c).valid s=true):∀ x∈r,bit (Au c).valid x=true:=fun x hx=>by
 obtain⟨i,hi,rfl⟩:=AiI hx
 have e:∀ j (hj:j<r.length),r[j]=gN r j:=fun j hj=>by rw[gN,AhL,AhM hj];rfl
 rw[e]
 cases i with
 |zero=>rw[h.fst];exact h0
 |succ i=>exact(OC hc (h.nxt i hi)).2.1
theorem WW{p:List Bool}{r:List Nat}(hr:C2 (Au c) p s r)(hl:r.length≤100000){f:Fo}{f0 f1:Fo}(hf:f=A7 15 f0 f1∨f=A3 11 f1∧f0=IA){ts:List Tn}{t u:Tn}
    (hts:Df c (List.replicate (r.length - 1) f0) (r.take (r.length - 1)) ts) (h:Good c f1 (Br r) t) (k:Good c GL (Br r) u):Good c f s (.mk 5 s 0 (sI r) (ts ++ [t,u])):=by
 have hpos:=Ai3.2 hr.pos
 have hg:Df c (List.replicate (r.length - 1) f0 ++ [f1,GL]) (r.take (r.length - 1) ++ [Br r,Br r]) (ts ++ [t,u]):=hts.app ⟨h,k,trivial⟩
 have hst:=Qn hc hr hv
 have hch:=Uj hc hr
 have hok:(Tn.mk 5 s 0 (sI r) (ts ++ [t,u])).ok:=Mz (s:=s) (a:=0) (by decide) (Es hc hv) (by omega) (by omega) (fun x hx=>Es hc (hst x hx)) (by
  have:=hts.X6.1
  rw[AiF]at this
  rw[Ai2,this]
  simp only[List.length_cons,List.length_nil];omega) hg.X6.2
 have hv:=Er hc hv
 have er:sI r ++ [(sI r).getD ((sI r).length - 1) 0]=sI (r.take (r.length - 1) ++ [Br r,Br r]):=by
  rw[Gt,AhR]
  have:r=r.take (r.length - 1) ++ [Br r]:=by
   have h1:=List.take_append_drop (r.length - 1) r
   have h2:r.drop (r.length - 1) = [Br r]:=by
    rw[AiZ (by omega),show r.length - 1+1=r.length by omega,List.drop_length]
    unfold Br gN
    rw[AhL,AhM (by omega)];rfl
   rw[h2]at h1
   exact h1.symm
  have e2:sI (r.take (r.length - 1) ++ [Br r,Br r])=sI (r.take (r.length - 1) ++ [Br r]) ++ [(Br r:Int)]:=by simp[sI]
  rw[e2,←this]
  rfl
 have e:Tn.acc c (.mk 5 s 0 (sI r) (ts ++ [t,u])) f=Tn.B6 c (ts ++ [t,u]) (List.replicate (r.length - 1) f0 ++ [f1,GL]) (sI (r.take (r.length - 1) ++ [Br r,Br r])) 0:=by
  have ep:Hp c f0 f1 5 s 0 (sI r) (ts ++ [t,u])=Tn.B6 c (ts ++ [t,u]) (List.replicate (r.length - 1) f0 ++ [f1,GL]) (sI (r.take (r.length - 1) ++ [Br r,Br r])) 0:=by
   rw[Hp,if_pos ⟨by simpa[sI]using hr.pos,by rw[Gt,hr.fst],rfl,rfl,hch⟩,er,AhR]
  rcases hf with rfl|⟨rfl,rfl⟩
  ·rw[jC hv];exact ep
  ·rw[jE hv];exact ep
 obtain⟨h1,h2⟩:=hg.B6 0
 refine⟨hok,rfl,by rw[e];exact h1,fun ho=>by
  rw[e]
  refine h2 (fun y hy=>?_) rfl
  have hf0:f0.C0=true∧f1.C0=true:=by
   rcases hf with rfl|⟨rfl,rfl⟩
   ·exact⟨Fk ho _ (by simp),Fk ho _ (by simp)⟩
   ·exact⟨X3,Fk ho _ (by simp)⟩
  rcases Ai8.1 hy with hy|hy
  ·rw[List.eq_of_mem_replicate hy];exact hf0.1
  ·have hy:y=f1∨y=GL:=by simpa using hy
   rcases hy with rfl|rfl
   ·exact hf0.2
   ·exact X2⟩
theorem WX{p:List Bool}{r:List Nat}{a:Nat}(hr:Lp (Au c) p s r a)(hl:r.length≤100000){f0:Fo}{ts:List Tn}(hts:Df c (List.replicate r.length f0) r ts):Good c (A3 13 f0) s (.mk 6 s a (sI r) ts):=by
 have hpos:=Ai3.2 hr.pos
 have hrc:C2 (Au c) p s r:=⟨hr.pos,hr.fst,fun i hi=>hr.by_ i (by omega),hr.nxt⟩
 have hst:=Qn hc hrc hv
 have hch:=Uj hc hrc
 have hlt:=hr.lt
 have hok:(Tn.mk 6 s a (sI r) ts).ok:=Mz (s:=s) (a:=a) (by decide) (Es hc hv) (by omega) (by omega) (fun x hx=>Es hc (hst x hx)) (by have:=hts.X6.1;omega) hts.X6.2
 have hv:=Er hc hv
 have hb:BO c ((sI r).getD ((sI r).length - 1) 0) ((sI r).getD ((a:Int).toNat) 0)=true:=by
  rw[Gt,Gt,AhR,Ai1]
  exact(OC hc hr.back).2.2
 have hm:SC c ((sI r).drop ((a:Int).toNat))=true:=by
  unfold SC
  rw[AhW]
  intro l hl
  rw[List.any_eq_true,Ai1]
  obtain⟨F,hF1,hF2⟩:∃ F∈(Au c).fair,∀ x:Nat,bit F x=true→DM c x l=true:=⟨_,Ai5.2 ⟨l,hl,rfl⟩,fun x hx=>by
   have hs:x<2 ^ c.gr.inputs.toNat:=by have:=Cd hx;simpa using this
   have h10:=hc.h10
   have hff:c.fair.all c.gr.lit=true:=by
    obtain⟨_,_,_,_,_,_,_,_,_,_,_,hff,_⟩:=Bq.1 hc.right
    exact hff
   rw[PQ hc.right (by omega) hs (AhW.1 hff l hl)]
   rw[bit,AhL,Ai4,List.getElem?_range hs]at hx
   have hx:((AE c).getD x false && Ec ((AY c).getD x []) l)=true:=hx
   rw[AhO]at hx
   exact hx.2⟩
  obtain⟨i,h1,h2,h3⟩:=hr.met F hF1
  refine⟨(gN r i:Int),?_,hF2 _ h3⟩
  rw[List.mem_iff_getElem?]
  refine⟨i - a,?_⟩
  rw[List.getElem?_drop,show a+(i - a)=i by omega,Ai4,AhM h2]
  unfold gN
  rw[AhL,AhM h2]
  rfl
 have e:Tn.acc c (.mk 6 s a (sI r) ts) (A3 13 f0)=Tn.B6 c ts (List.replicate r.length f0) (sI r) 0:=by
  rw[jD hv,Jx,if_pos ⟨by simpa[sI]using hr.pos,by rw[Gt,hr.fst],by omega,by rw[AhR];omega,rfl,hb,hch,hm⟩,AhR]
 obtain⟨h1,h2⟩:=hts.B6 0
 exact⟨hok,rfl,by rw[e];exact h1,fun ho=>by
  rw[e]
  exact h2 (fun y hy=>by rw[List.eq_of_mem_replicate hy];exact Fk ho _ (by simp)) rfl⟩
end
abbrev dI(n:Int):List UInt8:=Lib.decDigits n.toNat
mutual
def Fo.DN:Fo→List UInt8
 |.mk k _ l ks=>40 :: (dI k++32 :: (dI l++(Fo.Cm ks ++ [41])))
def Fo.Cm:List Fo→List UInt8
 |[]=>[]
 |f :: fs=>Fo.DN f++Fo.Cm fs
end
theorem I8(k:Int)(n:ByteArray)(l:Int)(ks:List Fo):Fo.DN (.mk k n l ks)=40 :: (dI k++32 :: (dI l++(Fo.Cm ks ++ [41]))):=by rw[Fo.DN]
theorem keys_cons(f:Fo)(fs:List Fo):Fo.Cm (f :: fs)=f.DN++Fo.Cm fs:=by rw[Fo.Cm]
theorem keys_nil:Fo.Cm [] = []:=by rw[Fo.Cm]
theorem mL:∀(n m:Nat),m<n→∀ b∈Lib.decDigits m,48≤b.toNat:=by
 intro n
 induction n with
 |zero=>intro m h;omega
 |succ n ih =>
  intro m h b hb
  have e:∀ k,k<10→48≤(UInt8.ofNat (48+k)).toNat:=fun k hk=>by rw[UInt8.toNat_ofNat'];omega
  rw[Lib.decDigits]at hb
  split at hb
  ·rename_i h10
   obtain rfl:=AhT.1 hb
   exact e _ h10
  ·rcases Ai8.1 hb with hb|hb
   ·exact ih (m / 10) (by omega) b hb
   ·obtain rfl:=AhT.1 hb
    exact e _ (by omega)
theorem xQ(m:Nat):Lib.decDigits m≠[]:=by
 rw[Lib.decDigits]
 split<;>simp
theorem Vb:∀(n m k:Nat),m<n→Lib.decDigits m=Lib.decDigits k→m=k:=by
 intro n
 induction n with
 |zero=>intro m k h;omega
 |succ n ih =>
  intro m k h he
  have e:∀ a b,a<10→b<10→UInt8.ofNat (48+a)=UInt8.ofNat (48+b)→a=b:=fun a b ha hb h=>by
   have:=congrArg UInt8.toNat h
   rw[UInt8.toNat_ofNat',UInt8.toNat_ofNat']at this
   omega
  have d1:∀ u,u<10→Lib.decDigits u = [UInt8.ofNat (48+u)]:=fun u h=>by rw[Lib.decDigits,dif_pos h]
  have d2:∀ u,¬ u<10→Lib.decDigits u=Lib.decDigits (u / 10) ++ [UInt8.ofNat (48+u % 10)]:=fun u h=>by rw[Lib.decDigits,dif_neg h]
  have dl:∀ u,¬ u<10→2≤(Lib.decDigits u).length:=fun u h=>by
   have:=Ai3.2 (xQ (u / 10))
   rw[d2 u h,Ai2,AiG];omega
  by_cases h1:m<10<;>by_cases h2:k<10
  ·rw[d1 m h1,d1 k h2]at he
   exact e _ _ h1 h2 (Aj2 he).1
  ·have:=dl k h2
   rw[←he,d1 m h1]at this
   simp at this
  ·have:=dl m h1
   rw[he,d1 k h2]at this
   simp at this
  ·rw[d2 m h1,d2 k h2]at he
   obtain⟨h3,h4⟩:=List.append_inj' he rfl
   have h5:=ih (m / 10) (k / 10) (by omega) h3
   have h6:=e _ _ (Nat.mod_lt _ (by decide)) (Nat.mod_lt _ (by decide)) (Aj2 h4).1
   omega
theorem PX:∀{a b:List UInt8} {x y:UInt8} {s t:List UInt8},(∀ c∈a,48≤c.toNat)→(∀ c∈b,48≤c.toNat)→x.toNat<48→y.toNat<48→a++x :: s=b++y :: t→a=b∧x=y∧s=t
 |[],[],x,y,s,t,_,_,_,_,h=>⟨rfl,(Aj2 h).1,(Aj2 h).2⟩
 |[],c :: b,x,y,s,t,_,hb,hx,_,h=>by
  obtain rfl:=(Aj2 h).1
  have:=hb x (by simp)
  omega
 |c :: a,[],x,y,s,t,ha,_,_,hy,h=>by
  obtain rfl:=(Aj2 h).1
  have:=ha c (by simp)
  omega
 |c :: a,d :: b,x,y,s,t,ha,hb,hx,hy,h=>by
  obtain⟨h1,h2⟩:=Aj2 h
  obtain⟨h3,h4,h5⟩:=PX (fun c hc=>ha c (by simp[hc])) (fun c hc=>hb c (by simp[hc])) hx hy h2
  exact⟨by rw[h1,h3],h4,h5⟩
inductive Kf:Fo→Prop
 |mk (k l:Int) (ks:List Fo) (h1:0≤k) (h2:0≤l) (h:∀ f∈ks,Kf f):Kf (.mk k ⟨#[]⟩ l ks)
theorem Pu.kf{f:Fo}(h:Pu f):Kf f:=by
 have leaf:∀ l:Int,0≤l→Kf (.mk 3 ⟨#[]⟩ l []):=fun l h=>.mk _ _ _ (by decide) h (fun f hf=>by cases hf)
 induction h with
 |c k hk=>exact .mk _ _ _ (by omega) (by decide) (fun f hf=>by cases hf)
 |a l h0 hl=>exact leaf l h0
 |n l h0 hl=>exact .mk _ _ _ (by decide) (by decide) (fun f hf=>by rw[AhT.1 hf];exact leaf l h0)
 |o k f hk h ih=>exact .mk _ _ _ (by omega) (by decide) (fun g hg=>by rw[AhT.1 hg];exact ih)
 |t k f g hk h h2 ih ih2 =>
  refine .mk _ _ _ (by omega) (by decide) (fun x hx=>?_)
  have hx:x=f∨x=g:=by simpa using hx
  rcases hx with rfl|rfl
  ·exact ih
  ·exact ih2
theorem Oa(ks:List Fo)(x:List UInt8):∃ b t,Fo.Cm ks++41 :: x=b :: t∧b.toNat<48:=by
 cases ks with
 |nil=>exact⟨41,x,by rw[keys_nil];rfl,by decide⟩
 |cons f fs =>
  obtain⟨k,n,l,ks⟩:=f
  exact⟨40,_,by rw[keys_cons,I8];rfl,by decide⟩
theorem lN{f:Fo}(hf:Kf f):∀{g:Fo},Kf g→∀{x y:List UInt8},f.DN++x=g.DN++y→f=g∧x=y:=by
 induction hf with
 |mk k l ks h1 h2 h ih =>
  intro g hg x y he
  obtain⟨k',l',ks',g1,g2,g3⟩:=hg
  have dm:∀ n:Int,∀ c∈dI n,48≤c.toNat:=fun n c hc=>mL _ _ (Aj3 _) c hc
  rw[I8,I8]at he
  simp only[List.cons_append,List.append_assoc,List.nil_append,List.cons.injEq,true_and]at he
  obtain⟨e1,_,e2⟩:=PX (dm k) (dm k') (by decide) (by decide) he
  obtain⟨b,t,e3,e4⟩:=Oa ks x
  obtain⟨b',t',e5,e6⟩:=Oa ks' y
  rw[e3,e5]at e2
  obtain⟨e7,e8,e9⟩:=PX (dm l) (dm l') e4 e6 e2
  have e10:Fo.Cm ks++41 :: x=Fo.Cm ks'++41 :: y:=by rw[e3,e5,e8,e9]
  have hl:∀(us:List Fo),(∀ f∈us,∀{g:Fo},Kf g→∀{x y:List UInt8},f.DN++x=g.DN++y→f=g∧x=y)→∀ bs:List Fo,(∀ g∈bs,Kf g)→∀ x y,Fo.Cm us++41 :: x=Fo.Cm bs++41 :: y→us=bs∧x=y:=by
   intro us
   induction us with
   |nil =>
    intro _ bs _ x y h
    cases bs with
    |nil=>rw[keys_nil]at h;exact⟨rfl,(Aj2 h).2⟩
    |cons g gs =>
     obtain⟨k,n,l,ks⟩:=g
     rw[keys_nil,keys_cons,I8]at h
     exact absurd (Aj2 h).1 (by decide)
   |cons a us iha =>
    intro hk bs hb x y h
    cases bs with
    |nil =>
     obtain⟨k,n,l,ks⟩:=a
     rw[keys_nil,keys_cons,I8]at h
     exact absurd (Aj2 h).1 (by decide)
    |cons g gs =>
     rw[keys_cons,keys_cons,List.append_assoc,List.append_assoc]at h
     obtain⟨e1,e2⟩:=hk a (by simp) (hb g (by simp)) h
     obtain⟨e3,e4⟩:=iha (fun f hf=>hk f (by simp[hf])) gs (fun g hg=>hb g (by simp[hg])) x y e2
     exact⟨by rw[e1,e3],e4⟩
  obtain⟨e11,e12⟩:=hl ks (fun f hf {g} hg {x y}=>ih f hf hg) ks' g3 x y e10
  have e13:k=k':=by have:=Vb _ _ _ (Aj3 _) e1;omega
  have e14:l=l':=by have:=Vb _ _ _ (Aj3 _) e7;omega
  exact⟨by rw[e11,e13,e14],e12⟩
theorem key_inj{f g:Fo}(hf:Pu f)(hg:Pu g)(h:f.DN=g.DN):f=g:=(lN hf.kf hg.kf (x:=[]) (y:=[]) (by rw[h])).1
theorem Hv(e:Key × AV)(es:List (Key × AV))(k:Key):Jf (e :: es) k=if e.1=k then some e.2 else Jf es k:=by
 unfold Jf H8
 rw[List.findIdx?_cons]
 by_cases h:e.1=k
 ·simp[h]
 ·simp only[h,decide_false,Bool.false_eq_true,if_false,Option.bind_map]
  cases List.findIdx? (fun e=>decide (e.1=k)) es<;>rfl
theorem UU{es:List (Key × AV)}{k k':Key}{v:AV}:Jf (CW es k v) k'=if k=k' then some v else Jf es k':=by
 induction es with
 |nil=>rw[CW,Hv]
 |cons e es ih =>
  rw[CW]
  by_cases h:e.1=k
  ·rw[if_pos h,Hv,Hv]
   show(if e.1=k' then _ else _)=_
   rw[h]
   by_cases h2:k=k'
   ·rw[if_pos h2,if_pos h2]
   ·rw[if_neg h2,if_neg h2,if_neg h2]
  ·rw[if_neg h,Hv,ih,Hv]
   by_cases h2:e.1=k'
   ·rw[if_pos h2,if_pos h2,if_neg (fun e2=>h (h2.trans e2.symm))]
   ·rw[if_neg h2,if_neg h2]
def G2(c:Ci)(es:List (Key × AV)):Prop:=∀ f,Pu f→∀ v,Jf es (.s f.DN)=some v→v=aL aB (A0 c f)
theorem G2.nil(c:Ci):G2 c []:=fun f _ v h=>by simp[Jf,H8]at h
theorem G2.ins{c:Ci}{es:List (Key × AV)}(h:G2 c es){f:Fo}(hf:Pu f):G2 c (CW es (.s f.DN) (aL aB (A0 c f))):=fun g hg v hv=>by
 rw[UU]at hv
 split at hv
 ·rename_i e
  injection e with e
  have:=key_inj hf hg e
  subst this
  injection hv with hv
  exact hv.symm
 ·exact h g hg v hv
def rX(k:Int):Nat:=if k=2∨k=5∨k=13 then 1 else if k=17 then 6 else 4
mutual
def Fo.wt:Fo→Nat
 |.mk k _ _ ks=>rX k+Fo.Qm ks*(if k=17 then 2 else 1)
def Fo.Qm:List Fo→Nat
 |[]=>0
 |f :: fs=>Fo.wt f+Fo.Qm fs
end
theorem Ji(k:Int)(n:ByteArray)(l:Int)(ks:List Fo):Fo.wt (.mk k n l ks)=rX k+Fo.Qm ks*(if k=17 then 2 else 1):=by rw[Fo.wt]
theorem Ui(f:Fo):Fo.Qm [f]=f.wt:=by rw[Fo.Qm,Fo.Qm];rfl
theorem Uh(f g:Fo):Fo.Qm [f,g]=f.wt+g.wt:=by rw[Fo.Qm,Ui]
theorem Gj(k:Int)(f:Fo)(hk:k≠17):(A3 k f).wt=rX k+f.wt:=by rw[Ji,Ui,if_neg hk,Nat.mul_one]
theorem FB(k:Int)(f g:Fo)(hk:k≠17):(A7 k f g).wt=rX k+(f.wt+g.wt):=by rw[Ji,Uh,if_neg hk,Nat.mul_one]
theorem zV(f g:Fo):(A7 17 f g).wt=6+(f.wt+g.wt)*2:=by rw[Ji,Uh];rfl
theorem Se:IA.wt=1:=by rw[Ji,Fo.Qm];rfl
theorem jZ:GL.wt=2:=by rw[Gj 13 IA (by decide),Se];rfl
theorem AbE:Pu IA:=.c _ (.inr rfl)
theorem XU:Pu GL:=.o _ _ (by decide) AbE
theorem OR{s:Sp}(h:LA s)(i:Nat):∀ k∈nx s i,0≤k∧k<s.valid.length:=fun k hk=>by
 unfold nx at hk
 rw[AhL]at hk
 cases e:s.next[i]? with
 |none=>rw[e]at hk;cases hk
 |some x=>rw[e]at hk;exact h.mem x (AiS e) k hk
section
variable {c:Ci} {s:Nat}
theorem AaG(h:bit (A0 c (.mk 1 ⟨#[]⟩ 0 [])) s=true):False:=by
 rw[A0,DX,B8]at h
 cases hb:bit (Au c).valid s<;>rw[hb]at h<;>cases h
theorem AaF{l:Int}(h:bit (A0 c (.mk 3 ⟨#[]⟩ l [])) s=true):DM c s l=true:=by
 rw[A0,C8,CE,E3,AhO]at h
 exact h.2
theorem AaE{l:Int}(h:bit (A0 c (.mk 4 ⟨#[]⟩ 0 [.mk 3 ⟨#[]⟩ l []])) s=true):DM c s l=false:=by
 rw[A0,CI (by decide),C8]at h
 have h:bit (A5 (Au c) (CE c (Au c) l)) s=true:=h
 rw[B8,CE,E3,AhO]at h
 rw[h.1]at h
 simpa using h.2
theorem sD{f g:Fo}(h:bit (A0 c (A7 5 f g)) s=true):bit (A0 c f) s=true∧bit (A0 c g) s=true:=by
 rw[EF 5 f g (by decide)]at h
 have h:bit (Bm (A0 c f) (A0 c g)) s=true:=h
 rwa [Bi,AhO]at h
theorem AaD{f g:Fo}(hf:Pu f)(hg:Pu g)(h:bit (A0 c (A7 6 f g)) s=true):bit (A0 c f) s=true∨bit (A0 c g) s=true:=by
 rw[EF 6 f g (by decide)]at h
 have h:bit (EC (A0 c f) (A0 c g)) s=true:=h
 rwa [CR (by rw[(FP hf).len,(FP hg).len]),Bool.or_eq_true]at h
theorem wE{f g:Fo}(hf:Pu f)(hg:Pu g)(h:bit (A0 c (A7 17 f g)) s=true):bit (A0 c (A3 13 g)) s=true∨bit (A0 c (A7 15 g (A7 5 f g))) s=true:=by
 have e1:A0 c (A3 13 g)=DO (Au c) (A0 c g):=FM 13 g (by decide)
 have e2:A0 c (A7 15 g (A7 5 f g))=Bn (Au c) (DO (Au c) (Au c).valid) (A0 c g) (Bm (A0 c f) (A0 c g)):=by
  rw[EF 15 _ _ (by decide),EF 5 _ _ (by decide)];rfl
 rw[EF 17 f g (by decide)]at h
 have h:bit (EC (DO (Au c) (A0 c g)) (Bn (Au c) (DO (Au c) (Au c).valid) (A0 c g) (Bm (A0 c f) (A0 c g)))) s=true:=h
 rw[e1,e2]
 rwa [CR (by rw[PW,Bn,PU,DJ,DJ,(FP hf).len,(FP hg).len]),Bool.or_eq_true]at h
variable (hc:Wc c)
include hc
theorem AaC{f:Fo}(h:bit (A0 c (A3 9 f)) s=true):∃ k:Nat,(k:Int)∈nx (Au c) s∧bit (A0 c f) k=true∧bit (A0 c GL) k=true:=by
 rw[FM 9 f (by decide)]at h
 have h:bit (Ny (Au c) (Bm (A0 c f) (DO (Au c) (Au c).valid))) s=true:=h
 rw[K0]at h
 obtain⟨_,_,k,h1,h2⟩:=h
 have hk:=OR hc.sp s k h1
 rw[Bi,AhO]at h2
 exact⟨k.toNat,by rw[Int.toNat_of_nonneg hk.1];exact h1,h2.1,by rw[XG];exact h2.2⟩
theorem NR{p:List Bool}{g:Fo}(h:bit (Bn (Au c) (DO (Au c) (Au c).valid) p (A0 c g)) s=true):Rc (Au c) p (Bm (A0 c g) (A0 c GL)) s:=by
 rw[Bn,D1]at h
 rw[XG]
 exact h.2.rc
theorem wH{g:Fo}(h:bit (A0 c (A3 11 g)) s=true):Rc (Au c) (A0 c IA) (Bm (A0 c g) (A0 c GL)) s:=by
 rw[FM 11 g (by decide)]at h
 rw[XH]
 exact NR hc h
theorem wF{f g:Fo}(h:bit (A0 c (A7 15 f g)) s=true):Rc (Au c) (A0 c f) (Bm (A0 c g) (A0 c GL)) s:=by
 rw[EF 15 f g (by decide)]at h
 exact NR hc h
theorem wG{f:Fo}(hf:Pu f)(h:bit (A0 c (A3 13 f)) s=true):(∃ t,Rc (Au c) (A0 c (A3 13 f)) (CO (Au c).valid.length t) s∧Home (Au c) (A0 c (A3 13 f)) t)∧∀ i,bit (A0 c (A3 13 f)) i=true→bit (A0 c f) i=true:=by
 have e1:A0 c (A3 13 f)=DO (Au c) (A0 c f):=FM 13 f (by decide)
 rw[e1]at h ⊢
 refine⟨lR (fun i k hk=>(OR hc.sp i k hk).1) (FP hf).len h,fun i hi=>?_⟩
 have:=sV i hi
 rw[Bi,AhO]at this
 exact this.1
omit hc in
theorem XT{f:Fo}(hf:Pu f)(h:bit (A0 c f) s=true):bit (Au c).valid s=true:=(FP hf).sub s h
end
open Go Go.Shelf Go.Proofs
def PO:Go.Shelf.Ren:=⟨fun|171=>144|243=>163|246=>185|283=>194|284=>195|285=>196|286=>197|129=>203|317=>202|318=>204|319=>205|320=>206|337=>211|338=>212|n=>n,fun|3=>3|9=>9|2=>2|4=>4|171=>216|0=>0|53=>208|37=>23|5=>5|173=>219|212=>226|51=>171|20=>20|213=>227|46=>142|232=>240|233=>241|n=>n,fun|17=>0|18=>1|19=>2|n=>n⟩
theorem Ro:Go.Proofs.LaysM.n171 Pg PO where
 mixed:=by kernel_rfl
 f129:=Tryz.func203.trans (congrArg some (by kernel_rfl))
 f171:=Tryz.func144.trans (congrArg some (by kernel_rfl))
 f243:=Tryz.func163.trans (congrArg some (by kernel_rfl))
 f246:=Tryz.func185.trans (congrArg some (by kernel_rfl))
 f283:=Tryz.func194.trans (congrArg some (by kernel_rfl))
 f284:=Tryz.func195.trans (congrArg some (by kernel_rfl))
 f285:=Tryz.func196.trans (congrArg some (by kernel_rfl))
 f286:=Tryz.func197.trans (congrArg some (by kernel_rfl))
 f317:=Tryz.func202.trans (congrArg some (by kernel_rfl))
 f318:=Tryz.func204.trans (congrArg some (by kernel_rfl))
 f319:=Tryz.func205.trans (congrArg some (by kernel_rfl))
 f320:=Tryz.func206.trans (congrArg some (by kernel_rfl))
 f337:=Tryz.func211.trans (congrArg some (by kernel_rfl))
 f338:=Tryz.func212.trans (congrArg some (by kernel_rfl))
 t0:=Tryz.underlying0
 a0:=Tryz.isAgg0
 z0:=Tryz.sizeOf0
 v0:=Tryz.zeroValue0
 t2:=Tryz.underlying2
 a2:=Tryz.isAgg2
 z2:=Tryz.sizeOf2
 v2:=Tryz.zeroValue2
 t3:=Tryz.underlying3
 a3:=Tryz.isAgg3
 z3:=Tryz.sizeOf3
 v3:=Tryz.zeroValue3
 t4:=Tryz.underlying4
 a4:=Tryz.isAgg4
 z4:=Tryz.sizeOf4
 v4:=Tryz.zeroValue4
 t5:=Tryz.underlying5
 a5:=Tryz.isAgg5
 z5:=Tryz.sizeOf5
 v5:=Tryz.zeroValue5
 t9:=Tryz.underlying9
 a9:=Tryz.isAgg9
 z9:=Tryz.sizeOf9
 v9:=Tryz.zeroValue9
 t20:=Tryz.underlying20
 a20:=Tryz.isAgg20
 z20:=Tryz.sizeOf20
 v20:=Tryz.zeroValue20
 t37:=Tryz.underlying23
 a37:=Tryz.isAgg23
 z37:=Tryz.sizeOf23
 v37:=Tryz.zeroValue23
 t46:=Tryz.underlying142
 a46:=Tryz.isAgg142
 z46:=Tryz.sizeOf142
 v46:=Tryz.zeroValue142
 t51:=Tryz.underlying171
 a51:=Tryz.isAgg171
 z51:=Tryz.sizeOf171
 v51:=Tryz.zeroValue171
 t53:=Tryz.underlying208
 a53:=Tryz.isAgg208
 z53:=Tryz.sizeOf208
 v53:=Tryz.zeroValue208
 t171:=Tryz.underlying216
 a171:=Tryz.isAgg216
 z171:=Tryz.sizeOf216
 v171:=Tryz.zeroValue216
 t173:=Tryz.underlying219
 a173:=Tryz.isAgg219
 z173:=Tryz.sizeOf219
 v173:=Tryz.zeroValue219
 t212:=Tryz.underlying226
 a212:=Tryz.isAgg226
 z212:=Tryz.sizeOf226
 v212:=Tryz.zeroValue226
 t213:=Tryz.underlying227
 a213:=Tryz.isAgg227
 z213:=Tryz.sizeOf227
 t232:=Tryz.underlying240
 a232:=Tryz.isAgg240
 z232:=Tryz.sizeOf240
 v232:=Tryz.zeroValue240
 t233:=Tryz.underlying241
 a233:=Tryz.isAgg241
 z233:=Tryz.sizeOf241
 v233:=Tryz.zeroValue241
 g17:=by kernel_rfl
 g18:=by kernel_rfl
 g19:=by kernel_rfl
 i0:=by kernel_rfl
 i2:=by kernel_rfl
 i3:=by kernel_rfl
 i4:=by kernel_rfl
 i5:=by kernel_rfl
 i9:=by kernel_rfl
 i20:=by kernel_rfl
 i37:=by kernel_rfl
 i46:=by kernel_rfl
 i51:=by kernel_rfl
 i53:=by kernel_rfl
 i171:=by kernel_rfl
 i173:=by kernel_rfl
 i212:=by kernel_rfl
 i232:=by kernel_rfl
 i233:=by kernel_rfl
 m17:=by kernel_rfl
 m18:=by kernel_rfl
 m19:=by kernel_rfl
open Go Go.Ab Go.RowKit
theorem iR{n:Int}(hn:Bv n):BF Pg 144 [aI n] (.v (.string ⟨(Lib.itoa n).toArray⟩)):=fun S =>
 Ad.below (by kernel_rfl) fun w g vs hh ha=>by
  obtain rfl:=ha.one
  obtain⟨_,cs,hv,hok⟩:=hh.gl _ _ Ro.m17 (by decide)
  have ht : Lib.TabIs Pg w "internal/strconv.uint64pow10" .u64 Lib.pow10Tab := by
   unfold Lib.TabIs
   rw[hv,hok.2.1 rfl,Lib.pow10Tab,AiU]
   rfl
  refine(Any.strconv_Itoa Ro n (by have:=hn.1;omega) (by have:=hn.2;omega) w ht).mono fun e w' ⟨he,k,os,hw⟩=>⟨?_,_,he,.v _⟩
  rw[hw]
  exact Lib.below_grow _ _ (AhN _) _ _
abbrev sB(l:List UInt8):AV:=.v (.string ⟨l.toArray⟩)
theorem Ke{a b:List UInt8}(h:a.length+b.length≤9223372036854775807){kd:Nat}{S:Aa}{K:AV→Aa→Prop}:bin .add kd (sB a) (sB b) S K=K (sB (a++b)) S:=by
 have e:(⟨a.toArray⟩:ByteArray)++⟨b.toArray⟩=⟨(a++b).toArray⟩:=by
  apply ByteArray.ext
  simp[ByteArray.data_append]
 have hs:(⟨a.toArray⟩:ByteArray).size+(⟨b.toArray⟩:ByteArray).size≤9223372036854775807:=by
  show a.toArray.size+b.toArray.size≤_
  simpa using h
 show BK (VH .add _ _) _=_
 simp only[VH,if_pos hs,BP,e]
theorem U3{n:Int}(h:0≤n):Lib.itoa n=dI n:=by unfold Lib.itoa;rw[if_neg (by omega)]
theorem Va:∀(k m:Nat),1≤k→m<10 ^ k→(Lib.decDigits m).length≤k
 |0,m,h,_=>by omega
 |k+1,m,_,h=>by
  rw[Lib.decDigits]
  split
  ·simp
  ·rename_i h10
   have hk:1≤k:=by
    rcases Nat.eq_zero_or_pos k with e|e
    ·subst e;simp at h;omega
    ·exact e
   have:=Va k (m / 10) hk (by rw[Nat.pow_succ]at h;omega)
   simp;omega
theorem PY{n:Int}(h:0≤n)(h2:Bv n):(dI n).length≤21:=by
 have:=h2.2
 exact Nat.le_trans (Va 19 _ (by decide) (by have:(10:Nat) ^ 19=10000000000000000000:=by decide
                                             omega)) (by decide)
theorem MZ:∀(l r:List Fo),Fo.Cm (l++r)=Fo.Cm l++Fo.Cm r
 |[],r=>by rw[keys_nil];rfl
 |f :: l,r=>by rw[List.cons_append,keys_cons,MZ l r,keys_cons,List.append_assoc]
theorem j0(k:Int):1≤rX k:=by
 unfold rX
 split
 ·exact AhN _
 ·split<;>decide
theorem DW(k:Int)(n:ByteArray)(l:Int)(ks:List Fo):1+Fo.Qm ks≤Fo.wt (.mk k n l ks):=by
 rw[Ji]
 have:=j0 k
 split<;>omega
theorem Ug:∀{l:List Fo} {f:Fo},f∈l→f.wt≤Fo.Qm l
 |g :: l,f,h=>by
  rw[Fo.Qm]
  rcases Ai9.1 h with rfl|h
  ·omega
  ·have:=Ug h;omega
theorem lM{f:Fo}(hk:Kf f):f.ok→f.DN.length≤45*f.wt:=by
 induction hk with
 |mk k l ks h1 h2 h ih =>
  intro hok
  cases hok with
  |mk _ _ _ _ o1 o2 o3 o4 o5 =>
  have hl:∀ us:List Fo,(∀ f∈us,f.DN.length≤45*f.wt)→(Fo.Cm us).length≤45*Fo.Qm us:=by
   intro us
   induction us with
   |nil=>intro _;rw[keys_nil];simp
   |cons u us ihu =>
    intro hu
    have a1:=hu u (by simp)
    have a2:=ihu fun f hf=>hu f (by simp[hf])
    rw[keys_cons,Ai2,Fo.Qm]
    omega
  have a1:=hl ks fun f hf=>ih f hf (o5 f hf)
  have a2:=DW k ⟨#[]⟩ l ks
  have a3:=PY h1 o1
  have a4:=PY h2 o2
  rw[I8]
  simp only[List.length_cons,Ai2,List.length_nil]
  omega
theorem yW{f:Fo}(hk:Kf f):f.ok→f.wt≤1000000000000000→BF Pg 112 [f.av] (sB f.DN):=by
 induction hk with
 |mk k l ks h1 h2 h ih =>
  intro hok hwt S
  have hlen:=lM (.mk k l ks h1 h2 h) hok
  have hwl:=DW k ⟨#[]⟩ l ks
  cases hok with
  |mk _ _ _ _ o1 o2 o3 o4 o5 =>
  have a3:=PY h1 o1
  have a4:=PY h2 o2
  refine Ad.Bu (dY ?_)
  dsimp only[Ae3,Lf,Lq,Ld]
  rw[Fo.av,Fo.AD]
  refine Ai rfl fun S1 k1 n1 p1=>?_
  show ∃ q:AV,_
  refine⟨_,by rw[Ac];exact⟨rfl,rfl⟩,?_⟩
  refine⟨_,by rw[Ae p1 rfl rfl];exact⟨rfl,rfl⟩,?_⟩
  refine⟨_,Af (iR o1) ⟨rfl,rfl⟩,?_⟩
  rw[U3 h1]
  refine⟨sB ([40]++dI k),W (Ke (a:=[40]) (by simp;omega)) ⟨rfl,rfl⟩,?_⟩
  refine⟨sB ([40]++dI k ++ [32]),W (Ke (b:=[32]) (by simp;omega)) ⟨rfl,rfl⟩,?_⟩
  refine⟨_,by rw[Ac];exact⟨rfl,rfl⟩,?_⟩
  refine⟨_,by rw[Ae p1 rfl rfl];exact⟨rfl,rfl⟩,?_⟩
  refine⟨_,Af (iR o2) ⟨rfl,rfl⟩,?_⟩
  rw[U3 h2]
  refine⟨sB ([40]++dI k ++ [32]++dI l),W (Ke (by simp;omega)) ⟨rfl,rfl⟩,?_⟩
  rw[Ac,Ae p1 rfl rfl,BJ]
  obtain⟨hd,hhd⟩:∃ hd:List UInt8,hd = [40]++dI k ++ [32]++dI l:=⟨_,rfl⟩
  have hdl:hd.length≤44:=by rw[hhd];simp;omega
  have hkey:(Fo.mk k ⟨#[]⟩ l ks).DN=hd++Fo.Cm ks ++ [41]:=by rw[I8,hhd];simp
  have htot:hd.length+(Fo.Cm ks).length≤45000000000000000:=by
   rw[hkey]at hlen
   simp only[Ai2,List.length_cons,List.length_nil]at hlen
   omega
  rw[←hhd]
  refine WE (fun y z S'=>Am S S'∧∃ i:Nat,z=aI i∧i≤ks.length∧y=sB (hd++Fo.Cm (ks.take i))) (fun _ z _=>ks.length - ((Aw z).getD 0).toNat) ⟨k1,0,rfl,AhS _,by rw[List.take_zero,keys_nil,List.append_nil]⟩ ?_
  dsimp only[Dw]
  rintro _ _ T1 ⟨kT,i,rfl,hi,rfl⟩ KE hKE
  dsimp only[gM,Fi]
  rw[As,Ag]
  refine Al (fun hlt=>?_) (fun hge=>?_)
  ·have hlt:i<ks.length:=by have:=dT hlt;omega
   have hm:=AhP hlt
   have et:ks.take (i+1)=ks.take i ++ [ks[i]]:=(List.take_append_getElem hlt).symm
   have e1:Fo.Cm (ks.take (i+1))=Fo.Cm (ks.take i)++ks[i].DN:=by rw[et,MZ,keys_cons,keys_nil,List.append_nil]
   have e2:Fo.Cm ks=Fo.Cm (ks.take (i+1))++Fo.Cm (ks.drop (i+1)):=by rw[←MZ,List.take_append_drop]
   have e3:=congrArg List.length e2
   rw[e1,Ai2,Ai2]at e3
   rw[Cg hlt,Ca (Fo.Aj _)]
   refine Ai rfl fun S2 k2 n2 p2=>?_
   refine AG (cs':=ks[i].row) p2 (Fo.Aj _) rfl fun S3 n3 p3 f3=>?_
   rw[An (n:=4) p3 (Fo.Aj _)]
   refine Af (ih _ hm (o5 _ hm) (by have:=Ug hm;omega)) ?_
   rw[Ke (by rw[Ai2];omega),Ar (by omega) (by omega)]
   exact hKE _ _ _ ⟨(kT.trans k2).st (id:=T1.n) kT.1 n3 f3,i+1,rfl,hlt,by rw[e1,List.append_assoc]⟩ (by simp[Aw];omega)
  ·have hge:i=ks.length:=by have:=dF hge;omega
   subst hge
   rw[AiM,show ∀ K:AV→Aa→Prop,bin .add 0 (sB (hd++Fo.Cm ks)) (.v (.string { data:=#[41] })) T1 K=K (sB (hd++Fo.Cm ks ++ [41])) T1 from fun K=>Ke (b:=[41]) (by simp;omega)]
   exact⟨by rw[hkey],kT⟩
theorem Ou(k:Int)(fs:List Fo):BF Pg 63 [aI k,Du fs] (Fo.mk k ⟨#[]⟩ 0 fs).av:=by
 intro S
 refine Ad.tree (oC ?_)
 unfold m63
 refine Ai rfl fun S1 k1 n1 p1=>?_
 rw[A6 (cs:=[aI k,.v (.string ByteArray.empty),aI 0,Du fs]) rfl]
 refine AG (cs':=[aI k,.v (.string ByteArray.empty),aI 0,Du fs]) p1 rfl rfl fun S2 n2 p2 f2=>?_
 rw[An (n:=4) p2 rfl]
 refine⟨_,rfl,k1.st (AhN _) n2 f2,?_⟩
 have:=Fo.tr (Fo.mk k ⟨#[]⟩ 0 fs) (S2.BA (AL S.n)) S.n
 rw[Fo.av,Fo.AD]at this ⊢
 exact this
theorem Vp:BF Pg 62 [] IA.av:=by
 intro S
 refine Ad.tree (oD ?_)
 unfold m62
 refine Ai rfl fun S1 k1 n1 o1=>?_
 rw[A6 (cs:=[aI 2,.v (.string ByteArray.empty),aI 0,.nl]) rfl]
 refine AG (cs':=[aI 2,.v (.string ByteArray.empty),aI 0,.nl]) o1 rfl rfl fun S2 n2 o2 f2=>?_
 rw[An (n:=4) o2 rfl]
 refine⟨_,rfl,k1.st (AhN _) n2 f2,?_⟩
 rw[Fo.av,Fo.AD]
 refine .a _ _ rfl fun k u u2 e1 e2=>?_
 match k with
 |0=>cases e1;cases e2;exact .v _
 |1=>cases e1;cases e2;exact .v _
 |2=>cases e1;cases e2;exact .v _
 |3=>cases e1;cases e2;exact .nl
 |k+4=>simp at e1
set_option linter.unusedSectionVars false
theorem wV(a b:List Bool)(ha:a.length<140737488355328)(hab:b.length=a.length):Ns 105 [aL aB a,aL aB b] (Bm a b):=by
 intro S
 refine eF ?_
 unfold AeA
 refine Ns.call (XZ a ha) fun x S1 k1 o1=>?_
 rw[Ax]
 refine WL (fun y S'=>Am S S'∧∃ i:Nat,y=aI i∧i≤b.length∧A4 S.n S' x 4 (CG a.length fun k=>[aB (if k<i then bit a k && bit b k else bit a k)]))
  (fun y _=>b.length - ((Aw y).getD 0).toNat) ⟨k1,0,rfl,AhS _,by
   rw[LD a,Eu]at o1;simpa using o1⟩ ?_
 dsimp only[BS]
 rintro _ S2 ⟨k2,i,rfl,hi,o2⟩ KE hKE
 dsimp only[gS,Fi];unfold aI
 rw[As,Ag]
 refine Al (fun h=>?_) (fun h=>?_)
 ·have hlt:i<b.length:=by simpa using h
  have hia:i<a.length:=by omega
  obtain⟨id,rfl,hid,hid2,q2⟩:=A4.ix o2 (i:=i) (by simpa using hia)
  have hg:=BR (f:=fun k=>[aB (if k<i then bit a k && bit b k else bit a k)]) hia
  have hg':(CG a.length fun k=>[aB (if k<i then bit a k && bit b k else bit a k)])[0+i]? = some [aB (bit a i)]:=by rw[AhZ,hg];simp
  have hi':i<(CG a.length fun k=>[aB (if k<i then bit a k && bit b k else bit a k)]).length:=by simpa using hia
  rw[AM hlt,A1,Cf hi' q2,Ae q2 hg' rfl,Ag]
  have hadd:∀ K:AV→Aa→Prop,∀ S,bin .add 0 (.v (.int .i64 (i:Int))) (.v (.int .i64 1)) S K=K (aI (i+1:Nat)) S:=fun K S=>Ar (by omega) (by omega) 0
  have step:∀(c:Bool) (S5:Aa),c=(bit a i && bit b i)→S5.n=S2.n→S5.obj id=some (.cells 4 ((CG a.length fun k=>[aB (if k<i then bit a k && bit b k else bit a k)]).set (0+i) [.v (.bool c)]) true)→(∀ x,x≠id→S5.obj x=S2.obj x)→
      KE 29 (F9 (.s id 0 (CG a.length fun k=>[aB (if k<i then bit a k && bit b k else bit a k)]).length) (aL aB b) (.v (.int .i64 b.length)) (aI (i+1:Nat))) S5:=by
   intro c S5 hc n5 o5 f5
   refine hKE _ _ ⟨k2.st hid n5 f5,i+1,rfl,hlt,.inr ⟨id,by simp,hid,by omega,?_⟩⟩ ?_
   ·rw[o5,AhZ,Fc,hc]
    congr 2
    refine BU fun k hk=>?_
    by_cases e:k=i
    ·subst e;simp[aB]
    ·have:k<i+1↔k<i:=by omega
     simp[e,this]
   ·simp[Aw,aI];omega
  refine Al (fun hb=>?_) (fun hb=>?_)
  ·rw[Cf hi' q2]
   refine B9 q2 hg' rfl fun S5 n5 o5 f5=>?_
   rw[hadd]
   exact step b[i] S5 (by rw[hb,Bc hlt];rfl) n5 o5 f5
  ·rw[Cf hi' q2]
   refine B9 q2 hg' rfl fun S5 n5 o5 f5=>?_
   rw[hadd]
   exact step false S5 (by rw[hb];rfl) n5 o5 f5
 ·have hge:i=b.length:=by simp at h;omega
  subst hge
  refine⟨_,rfl,k2,?_⟩
  have e:((Bm a b).map fun b=>[aB b])=CG a.length fun k=>[aB (if k<b.length then bit a k && bit b k else bit a k)]:=by
   rw[Bm,Eu]
   refine BU fun k hk=>?_
   have:k<b.length:=by omega
   simp[this]
  rw[e]
  exact o2
abbrev fdC(c:Ci)(m:Nat):List AV:=c.cells++(Au c).cells ++ [.m m]
abbrev mB(c:Ci)(m:Nat):Bw:=.cells 82 [fdC c m] true
theorem mC(c:Ci)(m:Nat):(fdC c m).length=14:=rfl
theorem sU{c:Ci}{m id:Nat}{S:Aa}{K:AV→Aa→Prop}(h:S.obj id=some (mB c m)):AB 5 (.p id 0 8) S K=K (Au c).av S:=by
 simp[AB,Xp,place,Aa.get,h,fdC,Ci.cells,Sp.cells,Sp.av]
theorem AeP{c:Ci}{m id:Nat}{S:Aa}{K:AV→Aa→Prop}(h:S.obj id=some (mB c m)):AB 8 (.p id 0 0) S K=K c.av S:=by
 simp[AB,Xp,place,Aa.get,h,fdC,Ci.cells,Ci.av]
theorem wU{c:Ci}{m id t:Nat}{S:Aa}(h:S.obj id=some (mB c m))(hid:id<S.n)(ht:t<(Au c).valid.length)(hl:(Au c).valid.length≤1000000):
    Ad Pg 110 [.p id 0 0,aI t] S (fun r S'=>∃ x,r = .ret x∧Am S S'∧A4 S.n S' x 4 ((CO (Au c).valid.length t).map fun b=>[aB b])):=by
 refine eA ?_
 dsimp only[Ae5,Lf]
 rw[AH,Ac,Ac,Ae h rfl rfl,Ax]
 refine Lg (by omega) (by omega) fun S1 k1 n1 o1=>?_
 rw[Cf ht o1,AhZ]
 refine B9 o1 (u0:=.v (.bool false)) (by rw[List.getElem?_replicate,if_pos ht]) rfl fun S2 n2 o2 f2=>?_
 refine⟨_,rfl,k1.st (AhN _) n2 f2,.inr ⟨S.n,by simp,AhN _,by omega,?_⟩⟩
 rw[o2,OD,Fc,CO,Eu]
 congr 2
 refine BU fun k hk=>?_
 by_cases e:k=t
 ·rw[if_pos e,decide_eq_true e]
 ·rw[if_neg e,decide_eq_false e]
theorem Vl{c:Ci}{m id t:Nat}{S:Aa}(h:S.obj id=some (mB c m))(hid:id<S.n)(ht:t<(Au c).valid.length)(hl:(Au c).valid.length≤1000000):AT Pg 110 [.p id 0 0,aI t] S (aL aB (CO (Au c).valid.length t)):=
 Dq (f:=fun b=>.bool b) (wU h hid ht hl)
abbrev Np(n:Int):AV:=.v (.int .u64 n)
def kP:List Nat:=[1,2,4,8,16,32,64,128,256,512,1024]
theorem Ef{op:BinOp}{kd:Nat}{a b r:Value}{S:Aa}{K:AV→Aa→Prop}(h:b2 op kd a b=some r):bin op kd (.v a) (.v b) S K=K (.v r) S:=by
 show BK (b2 op kd a b) _=_
 rw[h,BP]
theorem yI{n:Nat}(hn:n∈kP):BF Pg 183 [Np 1,Np n] (.t [Np 0,Np n]):=by
 intro S
 refine bK ?_
 unfold AcB
 have hx:b2 .and 0 (.int .u64 n) (.int .u64 4294967295)=some (.int .u64 n)∧b2 .shr 0 (.int .u64 n) (.int .u64 32)=some (.int .u64 0)∧b2 .mul 0 (.int .u64 1) (.int .u64 n)=some (.int .u64 n)∧b2 .mul 0 (.int .u64 0) (.int .u64 n)=some (.int .u64 0):=by
  simp only[kP,Ai9,AiE,or_false]at hn
  rcases hn with rfl|rfl|rfl|rfl|rfl|rfl|rfl|rfl|rfl|rfl|rfl<;>exact⟨rfl,rfl,rfl,rfl⟩
 obtain⟨h1,h2,h3,h4⟩:=hx
 rw[Ef (r:=.int .u64 1) rfl,Ef (r:=.int .u64 0) rfl,Ef h1,Ef h2,Ef h3,Ef h4,Ef h2,Ef (r:=.int .u64 0) rfl,Ef (r:=.int .u64 0) rfl,Ef (r:=.int .u64 0) rfl,Ef (r:=.int .u64 0) rfl,Ef (r:=.int .u64 0) rfl,Ef (r:=.int .u64 0) rfl,Ef (r:=.int .u64 0) rfl,Ef (r:=.int .u64 0) rfl,Ef (r:=.int .u64 0) rfl,Ef h3]
 exact⟨rfl,rfl⟩
theorem yN{n:Nat}(hn:n∈kP):BF Pg 160 [Np 1,Np n] (.t [Np 0,Np n]):=by
 intro S
 refine cF ?_
 unfold AcW
 refine Af (yI hn) ?_
 rw[Co,Cn]
 exact⟨rfl,rfl⟩
theorem wS{n:Nat}(hn:n∈kP)(S:Aa):Ad Pg 141 [aL aI [-1],aI n] S (fun r S'=>∃ x,r = .ret x∧Am S S'∧A4 S.n S' x 3 (List.replicate n [aI (-1)])):=by
 refine cW ?_
 dsimp only[AdD,SH,Fi]
 have hb:1≤n∧n≤1024:=by
  simp only[kP,Ai9,AiE,or_false]at hn
  omega
 have hw:IntKind.u64.wrap (n:Int)=n∧IntKind.i64.wrap (n:Int)=n:=by
  simp only[kP,Ai9,AiE,or_false]at hn
  rcases hn with rfl|rfl|rfl|rfl|rfl|rfl|rfl|rfl|rfl|rfl|rfl<;>exact⟨rfl,rfl⟩
 rw[As,Ag,decide_eq_false (by omega),A2,Ax]
 rw[show ∀ K:AV→Aa→Prop,Cq .u64 (.v (.int .i64 (([-1]:List Int).length:Nat))) S K=K (Np 1) S from fun K=>rfl,show ∀ K:AV→Aa→Prop,Cq .u64 (aI n) S K=K (Np n) S from fun K=>by show K (.v (.int .u64 (IntKind.u64.wrap (n:Int)))) S=_;rw[hw.1]]
 refine Af (yN hn) ?_
 rw[Co,Cn,AO,Ag,decide_eq_false (by omega),A2,AO,Ag,decide_eq_false (by omega),A2]
 rw[show ∀ K:AV→Aa→Prop,Cq .i64 (Np n) S K=K (aI n) S from fun K=>by show K (.v (.int .i64 (IntKind.i64.wrap (n:Int)))) S=_;rw[hw.2]]
 refine Lg (by omega) (by omega) fun S1 k1 n1 o1=>?_
 have row:∀ j,j≤n→(List.replicate j [aI (-1)]++List.replicate (n - j) [aI 0]).length=n:=fun j hj=>by simp;omega
 have cp:∀{T:Aa} {j k:Nat} {y:AV} {ys:List (List AV)} {K:AV→Aa→Prop},j≤n→T.obj S.n=some (.cells 3 (List.replicate j [aI (-1)]++List.replicate (n - j) [aI 0]) true)→IZ T y=some ys→(∀ c∈ys,c = [aI (-1)])→k=min ys.length (n - j)→
     (∀ T',T'.n=T.n→T'.obj S.n=some (.cells 3 (List.replicate (j+k) [aI (-1)]++List.replicate (n - (j+k)) [aI 0]) true)→(∀ x,x≠S.n→T'.obj x=T.obj x)→K (aI k) T')→mN 3 (.s S.n j (n - j)) y T K:=fun{T j k y ys K} hj ho hy hys hk kk=>by
  refine⟨ys,hy,fun c hc=>by rw[hys c hc];rfl,?_⟩
  unfold xT
  simp only[ho]
  refine⟨⟨trivial,by rw[row j hj];omega⟩,?_⟩
  rw[←hk]
  refine kk _ rfl ?_ fun x hx=>C3 hx
  rw[BG]
  have hkl:k≤ys.length∧k≤n - j:=by omega
  have e1:ys.take k=List.replicate k [aI (-1)]:=by
   refine List.eq_replicate_iff.2 ⟨by rw[AiF];omega,fun c hc=>hys c (List.mem_of_mem_take hc)⟩
  have e2:(List.replicate j [aI (-1)]++List.replicate (n - j) [aI 0]).take j=List.replicate j [aI (-1)]:=by
   rw[List.take_append_of_le_length (by simp),AiD (by simp)]
  have e3:(List.replicate j [aI (-1)]++List.replicate (n - j) [aI 0]).drop (j+k)=List.replicate (n - (j+k)) [aI 0]:=by
   rw[List.drop_append,List.drop_of_length_le (by simp),List.nil_append,List.length_replicate,List.drop_replicate]
   congr 1;omega
  rw[e1,e2,e3,List.replicate_append_replicate]
 have o1':S1.obj S.n=some (.cells 3 (List.replicate 0 [aI (-1)]++List.replicate (n - 0) [aI 0]) true):=o1
 refine cp (j:=0) (k:=1) (AhS _) o1' (ys:=[[aI (-1)]]) rfl (by simp) (by simp;omega) fun S2 n2 o2 f2=>?_
 refine Wp (fun y T=>Am S T∧S.n<T.n∧∃ j:Nat,y=aI j∧1≤j∧j≤n∧T.obj S.n=some (.cells 3 (List.replicate j [aI (-1)]++List.replicate (n - j) [aI 0]) true)) (fun y _=>n - ((Aw y).getD 0).toNat) ⟨k1.st (AhN _) n2 f2,by omega,1,rfl,AhN _,by omega,by rw[AhZ]at o2;exact o2⟩ ?_
 dsimp only[BS]
 rintro _ T ⟨kT,hT,j,rfl,hj1,hj,oT⟩ KE hKE
 dsimp only[fV,Fi,Lt]
 rw[Dm,As,Ag]
 refine Al (fun hlt=>?_) (fun hge=>?_)
 ·have hlt:j<n:=by have:=dT hlt;omega
  have sl1:∀(U:Aa) (hU:Am T U) (K:AV→Aa→Prop),K (.s S.n j (n - j)) U→Hi 3 1 (.s S.n 0 n) (some (aI j)) none none U K:=fun U hU K k=>by
   have e1:((n:Int) - j).toNat=n - j:=by omega
   simp[Hi,Ly,Aw,BK,e1]
   refine⟨by omega,.inr ?_,k⟩
   simp[Aa.ty,(hU.2 _ hT).trans oT]
  have sl2:∀(U:Aa) (K:AV→Aa→Prop),K (.s S.n 0 j) U→Hi 3 1 (.s S.n 0 n) none (some (aI j)) none U K:=fun U K k=>by
   simp[Hi,Ly,Aw,BK]
   exact⟨by omega,k⟩
  refine⟨_,fun U hU=>sl1 U hU _ ⟨rfl,rfl⟩,_,fun U hU=>sl2 U _ ⟨rfl,rfl⟩,?_⟩
  refine cp (k:=min j (n - j)) hj oT (ys:=List.replicate j [aI (-1)]) ?_ (fun c hc=>List.eq_of_mem_replicate hc) (by simp) fun T2 n2 o2 f2=>?_
  ·simp only[IZ,oT,row j hj]
   rw[if_pos (by omega),List.drop_zero,List.take_append_of_le_length (by simp),AiD (by simp)]
  refine⟨_,fun U hU=>by rw[Ar (by omega) (by omega)];exact⟨rfl,rfl⟩,?_⟩
  exact hKE _ _ ⟨kT.st (AhN _) n2 f2,by omega,j+min j (n - j),by simp,by omega,by omega,o2⟩ (by simp[Aw];omega)
 ·have hge:j=n:=by have:=dF hge;omega
  subst hge
  refine⟨_,rfl,kT,.inr ⟨S.n,by simp,AhN _,hT,?_⟩⟩
  rw[oT,Nat.sub_self];simp
set_option linter.unusedSectionVars false
abbrev nR(r:List Nat):List (List AV):=r.map fun i:Nat=>[aI (i:Int)]
theorem Sz{r:List Nat}{i:Nat}(h:i<r.length):(nR r)[i]? = some [aI (gN r i)]:=by
 rw[Ai4,AhM h]
 unfold gN
 rw[AhL,AhM h]
 rfl
theorem Ye(r:List Nat):nR r=CG r.length fun k=>[aI (gN r k:Int)]:=by
 apply List.ext_getElem?
 intro k
 by_cases h:k<r.length
 ·rw[Sz h,BR h]
 ·rw[AiH (by simpa using h),AiH (by simpa using h)]
theorem Is{e:Nat}{z u:AV}{S:Aa}{K:AV→Aa→Prop}(hu:u.one=true)(hA:∀ cs,u≠.a cs)(k:∀ S',Am S S'→S'.n=S.n+1→S'.obj S.n=some (.cells e [[u]] true)→K (.s S.n 0 1) S'):AU e 1 1 [z] [(0,u)] S K:=by
 refine⟨[u],?_,.inl ?_⟩
 ·have:cellsOf u=some [u]:=by cases u<;>first|rfl|(simp[AV.one]at hu;simp[cellsOf,AV.one,hu];done)|(simp[AV.one]at hu)|(simp[cellsOf,hu])
  simp[CC,this,Kq]
 ·have:=k (S.new (.cells e [[u]] true)) ((Am.refl S).new _) rfl (B1 _)
  simpa[chunks]using this
theorem wL{S:Aa}{id:Nat}{r:List Nat}(hr:r.length≤1000000)(ho:S.obj id=some (.cells 3 (nR r) true))(hid:id<S.n){Q:Bh→Aa→Prop}{K:AV→Aa→Prop}
    (k:∀ S',S'.n=S.n→S'.obj id=some (.cells 3 (nR r.reverse) true)→(∀ x,x≠id→S'.obj x=S.obj x)→K (.t []) S'):Ah Pg 161 [.s id 0 r.length] S Q K:=by
 refine .inl (Ad.mono (Q:=fun e S'=>e = .ret (.t [])∧S'.n=S.n∧S'.obj id=some (.cells 3 (nR r.reverse) true)∧∀ x,x≠id→S'.obj x=S.obj x) (cE ?_) fun e S' ⟨he,h1,h2,h3⟩=>by subst he;exact k S' h1 h2 h3)
 unfold AcV
 have hf:nR r.reverse=CG r.length fun k=>[aI (gN r (r.length - 1 - k):Int)]:=by
  rw[Ye,List.length_reverse]
  refine BU fun k hk=>?_
  unfold gN
  rw[AhL,AhL,List.getElem?_reverse hk]
 let g:Nat→Nat→List AV:=fun i k=>[aI (gN r (if k<i∨r.length<i+k+1 then r.length - 1 - k else k):Int)]
 rw[Dm,Bx (by omega) (by omega)]
 refine Wf (fun y z T=>T.n=S.n∧(∀ x,x≠id→T.obj x=S.obj x)∧∃ i:Nat,y=aI i∧z=aI ((r.length:Int) - 1 - i)∧2*i≤r.length+1∧T.obj id=some (.cells 3 (CG r.length (g i)) true)) (fun y _ _=>r.length - ((Aw y).getD 0).toNat) ⟨rfl,fun _ _=>rfl,0,rfl,by simp,by omega,by
  rw[ho,Ye]
  congr 2
  refine BU fun k hk=>?_
  show _ = [aI _]
  rw[if_neg (by omega)]⟩ ?_
 dsimp only[Dw]
 rintro _ _ T ⟨hn,hx,i,rfl,rfl,hi,oT⟩ KE hKE
 dsimp only[fH,Fi,Lt]
 rw[As,Ag]
 refine Al (fun hlt=>?_) (fun hge=>?_)
 ·have hlt:=dT hlt
  obtain⟨j,hj⟩:∃ j:Nat,(r.length:Int) - 1 - i=j:=⟨r.length - 1 - i,by omega⟩
  rw[hj]
  have hji:i<j∧j=r.length - 1 - i∧j<r.length:=by omega
  have lt_:∀{q:Nat},q<r.length→∀{U:Aa} {f:Nat→List AV} {K:AV→Aa→Prop},U.obj id=some (.cells 3 (CG r.length f) true)→AS 3 1 (.s id 0 r.length) (aI q) U K=K (.p id q 0) U:=fun{q} hq {U f K} h=>by rw[Cf hq h,AhZ]
  have AR:∀{U:Aa},Am T U→U.obj id=some (.cells 3 (CG r.length (g i)) true):=fun hU=>(Kg hU oT)
  have gi:g i i = [aI (gN r i:Int)]:=by show[aI _]=_;rw[if_neg (by omega)]
  have gj:g i j = [aI (gN r j:Int)]:=by show[aI _]=_;rw[if_neg (by omega)]
  refine⟨_,fun U hU=>by rw[lt_ hji.2.2 (AR hU)];exact⟨rfl,rfl⟩,?_⟩
  refine⟨_,fun U hU=>by rw[Ae (AR hU) ((BR hji.2.2).trans (congrArg some gj)) rfl];exact⟨rfl,rfl⟩,?_⟩
  refine⟨_,fun U hU=>by rw[lt_ (show i<r.length by omega) (AR hU)];exact⟨rfl,rfl⟩,?_⟩
  refine⟨_,fun U hU=>by rw[Ae (AR hU) ((BR (show i<r.length by omega)).trans (congrArg some gi)) rfl];exact⟨rfl,rfl⟩,?_⟩
  refine⟨_,fun U hU=>by rw[lt_ (show i<r.length by omega) (AR hU)];exact⟨rfl,rfl⟩,?_⟩
  refine B9 oT ((BR (show i<r.length by omega)).trans (congrArg some gi)) rfl fun T1 n1 o1 f1=>?_
  rw[Fc]at o1
  refine⟨_,fun U hU=>by rw[lt_ hji.2.2 (Kg hU o1)];exact⟨rfl,rfl⟩,?_⟩
  refine B9 o1 (u0:=aI (gN r j:Int)) ((BR hji.2.2).trans (by rw[if_neg (show ¬ j=i by omega),gj])) rfl fun T2 n2 o2 f2=>?_
  rw[Fc]at o2
  rw[Ar (by omega) (by omega),Bx (by omega) (by omega)]
  refine hKE _ _ _ ⟨by omega,fun x hne=>(f2 x hne).trans ((f1 x hne).trans (hx x hne)),i+1,rfl,by rw[show(j:Int) - 1=(r.length:Int) - 1 - ((i+1:Nat):Int)by omega],by omega,?_⟩ (by simp[Aw];omega)
  rw[o2]
  congr 2
  refine BU fun k hk=>?_
  show _ = [aI _]
  by_cases e1:k=j
  ·subst e1
   rw[if_pos rfl,if_pos (by omega)]
   congr 4;omega
  ·rw[if_neg e1]
   by_cases e2:k=i
   ·subst e2
    rw[if_pos rfl,if_pos (by omega)]
    congr 4;omega
   ·rw[if_neg e2]
    show[aI _]=_
    by_cases e3:k<i∨r.length<i+k+1
    ·rw[if_pos e3,if_pos (by omega)]
    ·rw[if_neg e3,if_neg (by omega)]
 ·have hge:=dF hge
  refine⟨rfl,hn,?_,hx⟩
  rw[oT,hf]
  congr 2
  refine BU fun k hk=>?_
  show[aI _]=_
  by_cases e3:k<i∨r.length<i+k+1
  ·rw[if_pos e3]
  ·rw[if_neg e3]
   congr 4;omega
structure Bk (a:List Int) (r:List Nat):Prop where
 pos:r≠[]
 at_:∀ i,i+1<r.length→a[gN r (i+1)]? = some (gN r i:Int)∧gN r (i+1)≠gN r 0
theorem wR{S:Aa}{ida:Nat}{a:List Int}(ho:S.obj ida=some (.cells 3 (a.map fun x=>[aI x]) true))(hida:ida<S.n){r:List Nat}(hb:Bk a r)(hr:r.length≤1000000):
    Ad Pg 142 [.s ida 0 a.length,aI (gN r 0),aI (Br r)] S (fun e S'=>∃ x,e = .ret x∧Am S S'∧A4 S.n S' x 3 (nR r)):=by
 refine cV ?_
 unfold AdC
 have hpos:=Ai3.2 hb.pos
 refine Is rfl (fun _ h=>by cases h) fun S1 k1 n1 o1=>?_
 refine Wo (fun y z T=>Am S T∧∃ k:Nat,y=aI (gN r k)∧k<r.length∧A4 S.n T z 3 (nR (r.drop k).reverse)) (fun y z _=>match z with|.s _ _ n=>r.length - n|_=>0) ⟨k1,r.length - 1,rfl,by omega,.inr ⟨S.n,?_,AhN _,by omega,?_⟩⟩ ?_
 ·rw[AhR,List.length_reverse,List.length_drop,show r.length - (r.length - 1)=1 by omega]
 ·rw[o1]
  congr 2
  have e:r.drop (r.length - 1) = [Br r]:=by
   rw[AiZ (by omega),show r.length - 1+1=r.length by omega,List.drop_length]
   unfold Br gN
   rw[AhL,AhM (by omega)];rfl
  rw[e];rfl
 rintro _ z T ⟨kT,k,rfl,hk,wT⟩ KE hKE
 dsimp only[fU,Fi]
 rw[Bl,Ag]
 refine Al (fun hne=>?_) (fun heq=>?_)
 ·have hk0:0<k:=by
    rcases Nat.eq_zero_or_pos k with e|e
    ·subst e;simp at hne
    ·exact e
  obtain⟨i,rfl⟩:∃ i,k=i+1:=⟨k - 1,by omega⟩
  obtain⟨h1,h2⟩:=hb.at_ i hk
  have hlt:=(List.getElem?_eq_some_iff.1 h1).1
  have oT:=(kT.2 _ hida).trans ho
  rw[Cf hlt oT,AhZ,Ae oT (by rw[Ai4,h1];rfl) rfl]
  refine BM rfl (fun _ h=>by cases h) ?_
  have hlen:(nR (r.drop (i+1)).reverse).length≤1000000:=by rw[AhR,List.length_reverse,List.length_drop];omega
  refine wT.app (b:=8) (c:=[aI (gN r i:Int)]) kT.1 rfl (by omega) (fun z' T' w' b' hz'=>?_) rfl
  obtain⟨m',hz'⟩:=hz'
  have er:nR (r.drop (i+1)).reverse ++ [[aI (gN r i:Int)]]=nR (r.drop i).reverse:=by
   have e:r.drop i=gN r i :: r.drop (i+1):=by
    rw[AiZ (by omega)]
    unfold gN
    rw[AhL,AhM (by omega)];rfl
   rw[e,List.reverse_cons]
   simp[nR]
  rw[er]at w'
  refine hKE _ _ _ ⟨wT.AR (AhN _) b' kT,i,rfl,by omega,w'⟩ ?_
  have l1:∀{q:AV} {U:Aa} {q':Nat},A4 S.n U q 3 (nR (r.drop q').reverse)→q'<r.length→∃ d,q = .s d 0 (r.length - q'):=fun{q U q'} h hq=>by
   rcases h with⟨_,he⟩|⟨d,h1,_⟩
   ·have:=congrArg List.length he
    simp at this
    omega
   ·exact⟨d,by rw[h1,AhR,List.length_reverse,List.length_drop]⟩
  obtain⟨d1,rfl⟩:=l1 wT hk
  obtain⟨d2,rfl⟩:=l1 w' (by omega)
  show r.length - (r.length - i)<r.length - (r.length - (i+1))
  omega
 ·have hk0:k=0:=by
    have he:(gN r k:Int)=gN r 0:=by simpa using heq
    rcases Nat.eq_zero_or_pos k with e|e
    ·exact e
    ·obtain⟨i,rfl⟩:∃ i,k=i+1:=⟨k - 1,by omega⟩
     exact absurd (by omega) (hb.at_ i hk).2
  subst hk0
  rw[List.drop_zero]at wT
  rcases wT with⟨_,he⟩|⟨d,rfl,h1,h2,h3⟩
  ·have:=congrArg List.length he
   simp at this
   exact absurd this hb.pos
  ·rw[AhR]
   refine wL (r:=r.reverse) (by rw[List.length_reverse];exact hr) h3 h2 fun S' n' o' f'=>?_
   rw[List.reverse_reverse]at o'
   exact⟨_,rfl,kT.st h1 n' f',.inr ⟨d,by rw[AhR,List.length_reverse],h1,by omega,o'⟩⟩
set_option linter.unusedSectionVars false
def Can(s:Sp)(p q:List Bool)(a least:Nat):Prop:=(least=0∧Rc s p q a)∨(bit p a=true∧∃ k:Nat,(k:Int)∈nx s a∧Rc s p q k)
structure Xo (s:Sp) (p:List Bool) (a N:Nat) (al:List Int) (ql:List Nat):Prop where
 ll:al.length=N
 nd:ql.Nodup
 lt:∀ t∈ql,t<N
 ha:a∈ql
 am:∀ t,t<N→t≠a→(0≤al.getD t 0↔t∈ql)
 path:∀ t∈ql,∃ r,Bk al r∧C2 s p a r∧Br r=t∧r.length≤ql.length∧∀ i,i<r.length→gN r i∈ql
theorem Xo.len{s:Sp}{p:List Bool}{a N:Nat}{al:List Int}{ql:List Nat}(h:Xo s p a N al ql):ql.length≤N:=MA N ql h.nd h.lt
theorem Xo.start{s:Sp}{p:List Bool}{a N:Nat}(ha:a<N):Xo s p a N (List.replicate N (-1)) [a] where
 ll:=by simp
 nd:=by simp
 lt t h:=by rw[AhT.1 h];exact ha
 ha:=by simp
 am t h hne:=by
  rw[AhL,List.getElem?_replicate,if_pos h]
  constructor
  ·intro h;exact absurd h (by decide)
  ·intro h;exact absurd (AhT.1 h) hne
 path t h:=by
  rw[AhT.1 h]
  exact⟨[a],⟨by simp,fun i h=>by simp at h⟩,C2.one s p a,rfl,AhN _,fun i h=>by
   have:i=0:=by simpa using h
   subst this;exact AhT.2 rfl⟩
theorem Xo.add{s:Sp}{p:List Bool}{a N:Nat}{al:List Int}{ql:List Nat}(h:Xo s p a N al ql){u t:Nat}(hu:u∈ql)(hp:bit p u=true)(ht:(t:Int)∈nx s u)(htN:t<N)(hta:t≠a)(htq:t∉ql):Xo s p a N (al.set t u) (ql ++ [t]) where
 ll:=by rw[List.length_set];exact h.ll
 nd:=by
  rw[Aj0]
  refine⟨h.nd,by simp,fun x hx y hy=>?_⟩
  rw[AhT.1 hy]
  rintro rfl
  exact htq hx
 lt x hx:=by
  rcases Ai8.1 hx with hx|hx
  ·exact h.lt x hx
  ·rw[AhT.1 hx];exact htN
 ha:=AiP _ h.ha
 am x hx hne:=by
  have hl:=h.ll
  rw[AhL,List.getElem?_set]
  by_cases e:t=x
  ·subst e
   rw[if_pos rfl,if_pos (by omega)]
   simp
  ·rw[if_neg e,←AhL,h.am x hx hne,Ai8,AhT]
   constructor
   ·exact .inl
   ·rintro(h|h)
    ·exact h
    ·exact absurd h.symm e
 path x hx:=by
  have Eh:∀ r,Bk al r→(∀ i,i<r.length→gN r i∈ql)→Bk (al.set t u) r:=fun r hb hm=>⟨hb.pos,fun i hi=>by
   obtain⟨h1,h2⟩:=hb.at_ i hi
   refine⟨?_,h2⟩
   rw[List.getElem?_set,if_neg (fun e=>htq (by rw[e];exact hm _ hi))]
   exact h1⟩
  rcases Ai8.1 hx with hx|hx
  ·obtain⟨r,h1,h2,h3,h4,h5⟩:=h.path x hx
   exact⟨r,Eh r h1 h5,h2,h3,by rw[Ai2];omega,fun i hi=>AiP _ (h5 i hi)⟩
  ·rw[AhT.1 hx]
   obtain⟨r,h1,h2,h3,h4,h5⟩:=h.path u hu
   have hb:=Eh r h1 h5
   have hl:=h.ll
   have hr:=Ai3.2 h2.pos
   refine⟨r ++ [t],⟨by simp,fun i hi=>?_⟩,h2.snoc (by rw[h3];exact hp) (by rw[h3];exact ht),KR (by simp),by simp;omega,fun i hi=>?_⟩
   ·rw[Ai2,AiG]at hi
    rw[DE,DE,DE,if_pos (show i<r.length by omega),if_pos hr]
    by_cases e:i+1<r.length
    ·rw[if_pos e];exact hb.at_ i e
    ·have e2:i+1=r.length:=by omega
     rw[if_neg e,e2,Nat.sub_self]
     show(al.set t u)[t]? = _∧t≠_
     have e3:gN r i=u:=by rw[←h3];unfold Br;congr 1;omega
     rw[List.getElem?_set,if_pos rfl,if_pos (by omega),e3,h2.fst]
     exact⟨rfl,hta⟩
   ·rw[Ai2,AiG]at hi
    rw[DE]
    split
    ·rename_i hlt;exact AiP _ (h5 i hlt)
    ·have:i - r.length=0:=by omega
     rw[this];exact List.mem_append_right _ (AhT.2 rfl)
theorem Xo.xU{s:Sp}{p q:List Bool}{a N least:Nat}{al:List Int}{ql:List Nat}(h:Xo s p a N al ql)(hz:least=0→bit q a=false)(hall:∀ u∈ql,bit p u=true→∀ t:Nat,(t:Int)∈nx s u→t∈ql∧bit q t=false):¬ Can s p q a least:=by
 have key:∀ u,Rc s p q u→u∈ql→bit q u=false→False:=fun u hr=>by
  induction hr with
  |base i h1=>intro _ h2;rw[h1]at h2;cases h2
  |step i k h1 h3 hr ih =>
   intro hi _
   obtain⟨h4,h5⟩:=hall i hi h1 k h3
   exact ih h4 h5
 rintro(⟨h0,hr⟩|⟨hp,k,hk,hr⟩)
 ·exact key a hr h.ha (hz h0)
 ·obtain⟨h4,h5⟩:=hall a h.ha hp k hk
  exact key k hr h4 h5
theorem wP{k:Nat}(h:k≤10):2 ^ k∈kP:=by
 have:k=0∨k=1∨k=2∨k=3∨k=4∨k=5∨k=6∨k=7∨k=8∨k=9∨k=10:=by omega
 rcases this with rfl|rfl|rfl|rfl|rfl|rfl|rfl|rfl|rfl|rfl|rfl<;>decide
theorem zZ{c:Ci}(hc:Wc c):(Au c).valid.length∈kP∧1≤(Au c).valid.length∧(Au c).valid.length≤1024:=by
 have e:(Au c).valid.length=2 ^ c.gr.inputs.toNat:=by simp[Au,AE]
 have h10:=hc.h10
 have:=wP (k:=c.gr.inputs.toNat) (by omega)
 rw[←e]at this
 refine⟨this,?_⟩
 simp only[kP,Ai9,AiE,or_false]at this
 omega
theorem X1{c:Ci}(hc:Wc c){m id:Nat}{S:Aa}(h:S.obj id=some (mB c m))(hid:id<S.n){a:Nat}{p q:List Bool}{least:Nat}(hle:least≤1)(ha:a<(Au c).valid.length)(hp:p.length=(Au c).valid.length)(hq:q.length=(Au c).valid.length):
    Ad Pg 109 [.p id 0 0,aI a,aL aB p,aL aB q,aI least] S (fun e S'=>∃ x,e = .ret x∧Am S S'∧((x = .nl∧¬ Can (Au c) p q a least)∨∃ r,A4 S.n S' x 3 (nR r)∧Wy (Au c) p q a least r)):=by
 refine eB ?_
 dsimp only[Ae6,SI,Fi]
 obtain⟨hN,hN1,hN2⟩:=zZ hc
 have hsp:=hc.sp
 have hnl:=hsp.next
 have haq:a<q.length:=by omega
 rw[AA,Ag]
 refine Al (fun h0=>?_) (fun h0=>?_)
 rw[AM haq,A1,Ag]
 refine Al (fun hqa=>?_) (fun hqa=>?_)
 ·have h0:least=0:=by have:=dT h0;omega
  refine Is rfl (fun _ h=>by cases h) fun S1 k1 n1 o1=>?_
  exact⟨_,rfl,k1,.inr ⟨[a],.inr ⟨S.n,rfl,AhN _,by omega,o1⟩,C2.one _ _ _,by rw[←Bc haq]at hqa;exact hqa,by simp;omega,by simp⟩⟩
 have hz:least=0→bit q a=false:=fun _=>by rw[Bc haq];exact hqa
 rotate_left
 have hz:least=0→bit q a=false:=fun e=>by subst e;simp at h0
 all_goals
  refine BM rfl (fun _ h=>by cases h) ?_
  rw[Ax,hp]
  refine .inl ((wS hN _).mono ?_)
  rintro e S1 ⟨x,rfl,k1,w1⟩
  show AU _ _ _ _ _ _ _
  obtain⟨ida,rfl,ida1,ida2,oa⟩:=w1.ix (i:=0) (by simp;omega)
  rw[List.length_replicate]at *
  refine Is rfl (fun _ h=>by cases h) fun S2 k2 n2 o2=>?_
  refine WI (fun y z T=>∃(n:Nat) (al:List Int) (ql:List Nat),z=aI n∧n≤ql.length∧Am S T∧ida<T.n∧T.obj ida=some (.cells 3 (al.map fun x=>[aI x]) true)∧A4 S.n T y 3 (nR ql)∧(∀ b m,y≠.s ida b m)∧Xo (Au c) p a (Au c).valid.length al ql∧
   ∀ i,i<n→bit p (gN ql i)=true→∀ t:Nat,(t:Int)∈nx (Au c) (gN ql i)→t∈ql∧bit q t=false)
   (fun _ z _=>2000 - ((Aw z).getD 0).toNat) ⟨0,List.replicate (Au c).valid.length (-1),[a],rfl,by simp,k1.trans k2,by have:=k2.1;omega,by rw[(k2.2 _ ida2).trans oa];simp,.inr ⟨S1.n,rfl,k1.1,by omega,o2⟩,fun b m e=>by cases e;omega,Xo.start ha,fun i hi=>absurd hi (AhY _)⟩ ?_
  dsimp only[Dw]
  rintro y z T ⟨n,al,ql,rfl,hn,kT,idT,oaT,wq,apq,bf,hall⟩ KE hKE
  dsimp only[gQ,Fi,Lf]
  have hql:=bf.len
  have hal:=bf.ll
  rw[wq.len,AhR,As,Ag]
  refine Al (fun hlt=>?_) (fun hge=>?_)
  ·have hlt:n<ql.length:=by have:=dT hlt;omega
   obtain⟨idq,rfl,idq1,idq2,oq⟩:=wq.ix (i:=n) (by simpa using hlt)
   rw[Cf (by simpa using hlt) oq,AhZ,Ae oq (Sz hlt) rfl]
   have hum:gN ql n∈ql:=by unfold gN;rw[AhL,AhM hlt];exact AhP hlt
   have hu:=bf.lt _ hum
   obtain⟨u,hud⟩:∃ u,u=gN ql n:=⟨_,rfl⟩
   rw[←hud]at hum hu ⊢
   have hup:u<p.length:=by omega
   rw[AM hup,A1,AJ,Ag]
   refine Al (fun hb=>?_) (fun hb=>?_)
   ·rw[Ar (by omega) (by omega)]
    refine hKE _ _ _ ⟨n+1,al,ql,rfl,hlt,kT,idT,oaT,wq,apq,bf,fun i hi hpi t ht=>?_⟩ (by simp[Aw];omega)
    by_cases e:i=n
    ·subst e
     rw[←hud,Bc hup]at hpi
     rw[hpi]at hb
     cases hb
    ·exact hall i (by omega) hpi t ht
   have hpu:bit p u=true:=by rw[Bc hup];simpa using hb
   have hT:=(kT.2 _ hid).trans h
   have hun:u<(Au c).next.length:=by omega
   have hrow:=EI hun
   have hrng:=OR hsp u
   have hlr:((Au c).next)[u].length≤1024:=hsp.small.h4 _ (AhP hun)
   rw[AH,Ac,Ac,Ae hT rfl rfl,AM hun,A1,Ax]
   obtain⟨row,hrw⟩:∃ row,row=((Au c).next)[u]:=⟨_,rfl⟩
   rw[←hrw]at hlr hrow ⊢
   refine WH (fun y w T=>∃(k:Nat) (al:List Int) (ql:List Nat),w=aI k∧k≤row.length∧n<ql.length∧gN ql n=u∧u∈ql∧Am S T∧ida<T.n∧T.obj ida=some (.cells 3 (al.map fun x=>[aI x]) true)∧A4 S.n T y 3 (nR ql)∧(∀ b m,y≠.s ida b m)∧Xo (Au c) p a (Au c).valid.length al ql∧
    (∀ i,i<n→bit p (gN ql i)=true→∀ t:Nat,(t:Int)∈nx (Au c) (gN ql i)→t∈ql∧bit q t=false)∧∀ i (hi:i<row.length),i<k→row[i].toNat∈ql∧bit q row[i].toNat=false)
    (fun _ w _=>2000 - ((Aw w).getD 0).toNat) ⟨0,al,ql,rfl,AhS _,hlt,hud.symm,hum,kT,idT,oaT,wq,apq,bf,hall,fun i _ hi=>absurd hi (AhY _)⟩ ?_
   dsimp only[Dw]
   rintro y w T ⟨k,al,ql,rfl,hk,hlt,hud,hum,kT,idT,oaT,wq,apq,bf,hall,hdone⟩ KE1 hKE1
   dsimp only[gP,Fi]
   have hql:=bf.len
   have hal:=bf.ll
   rw[As,Ag]
   refine Al (fun hkl=>?_) (fun hkl=>?_)
   ·have hkl:k<row.length:=by have:=dT hkl;omega
    have hmem:row[k]∈nx (Au c) u:=by rw[hrow];exact AhP hkl
    obtain⟨t0,t1⟩:=hrng _ hmem
    obtain⟨t,ht⟩:=AhX t0
    have hrt:row[k].toNat=t:=by omega
    have htN:t<(Au c).valid.length:=by omega
    have htq:t<q.length:=by omega
    rw[ht]at hmem
    rw[AM hkl,A1,ht,AM htq,A1,Ag]
    refine Al (fun hqt=>?_) (fun hqt=>?_)
    ·obtain⟨r,h1,h2,h3,h4,h5⟩:=bf.path u hum
     refine .inl ((?_:Ad Pg 142 [.s ida 0 (Au c).valid.length,aI a,aI u] T (fun e S'=>∃ x,e = .ret x∧Am T S'∧A4 T.n S' x 3 (nR r))).mono ?_)
     ·have:=wR oaT idT h1 (by omega)
      rw[h2.fst,h3,hal]at this
      exact this
     rintro e T1 ⟨x,rfl,kT1,wx⟩
     show AU _ _ _ _ _ _ _
     refine BM rfl (fun _ h=>by cases h) ?_
     refine wx.app (b:=8) (c:=[aI (t:Int)]) kT1.1 rfl (by rw[AhR];omega) (fun x' T2 w2 b2 hx2=>?_) rfl
     have hch:=h2.snoc (by rw[h3];exact hpu) (by rw[h3];exact hmem)
     have er:nR r ++ [[aI (t:Int)]]=nR (r ++ [t]):=by simp[nR]
     rw[er]at w2
     have hrp:=Ai3.2 h2.pos
     refine⟨_,rfl,kT.trans (wx.AR (AhN _) b2 kT1),.inr ⟨r ++ [t],w2.low kT.1,hch,by rw[KR (by simp)];rw[←Bc htq]at hqt;exact hqt,?_,by simp;omega⟩⟩
     rw[Ai2,AiG]
     have hl1:least≤1:=hle
     omega
    ·have hqt:bit q t=false:=by rw[Bc htq];exact hqt
     have next:∀(al':List Int) (ql':List Nat) (y':AV) (T':Aa),(∀ x,x∈ql→x∈ql')→(∀ i,i<ql.length→gN ql' i=gN ql i)→ql.length≤ql'.length→t∈ql'→Am S T'→ida<T'.n→T'.obj ida=some (.cells 3 (al'.map fun x=>[aI x]) true)→A4 S.n T' y' 3 (nR ql')→(∀ b m,y'≠.s ida b m)→Xo (Au c) p a (Au c).valid.length al' ql'→
         bin .add 0 (aI k) (.v (.int .i64 1)) T' fun v T'=>KE1 91 (Ed (.p id 0 0) (aI a) (aL aB p) (aL aB q) (.s ida 0 (Au c).valid.length) y' (aI n) (aI u) (aL aI row) (aI row.length) v) T':=fun al' ql' y' T' g1 g2 g3 g4 g5 g6 g7 g8 g9 g10=>by
      rw[Ar (by omega) (by omega)]
      refine hKE1 _ _ _ ⟨k+1,al',ql',rfl,hkl,by omega,by rw[g2 n hlt];exact hud,g1 _ hum,g5,g6,g7,g8,g9,g10,fun i hi hpi x hx=>?_,fun i hi hik=>?_⟩ (by simp[Aw];omega)
      ·rw[g2 i (by omega)]at hpi hx
       obtain⟨e1,e2⟩:=hall i hi hpi x hx
       exact⟨g1 _ e1,e2⟩
      ·by_cases e:i=k
       ·subst e;rw[hrt];exact⟨g4,hqt⟩
       ·obtain⟨e1,e2⟩:=hdone i hi (by omega)
        exact⟨g1 _ e1,e2⟩
     have htal:t<al.length:=by omega
     have hag:(al.map fun x=>[aI x])[t]? = some [aI (al.getD t 0)]:=by
      rw[Ai4,AhM htal,AhL,AhM htal];rfl
     rw[Cf htN oaT,AhZ,Ae oaT hag rfl,As,Ag]
     refine Al (fun hneg=>?_) (fun hneg=>?_)
     ·have hneg:=dT hneg
      rw[Bl,Ag]
      refine Al (fun hne=>?_) (fun hne=>?_)
      ·have hne:t≠a:=by
         intro e;subst e;simp at hne
       have htql:t∉ql:=fun e=>by
        have:=(bf.am t htN hne).2 e
        omega
       rw[Cf htN oaT,AhZ]
       refine B9 oaT hag rfl fun T1 n1 o1 f1=>?_
       have es:(al.map fun x=>[aI x]).set t [aI (u:Int)]=(al.set t (u:Int)).map fun x=>[aI x]:=by rw[List.map_set]
       rw[es]at o1
       refine BM rfl (fun _ h=>by cases h) ?_
       have wq1:=wq.st (id:=ida) apq n1 f1
       refine wq1.app (b:=8) (c:=[aI (t:Int)]) (by have:=kT.1;omega) rfl (by rw[AhR];omega) (fun y' T2 w2 b2 hy2=>?_) rfl
       obtain⟨my,rfl⟩:=hy2
       have kT1:Am S T1:=kT.st ida1 n1 f1
       have er:nR ql ++ [[aI (t:Int)]]=nR (ql ++ [t]):=by simp[nR]
       rw[er]at w2
       refine next _ _ _ _ (fun x hx=>AiP _ hx) (fun i hi=>by rw[DE,if_pos hi]) (by simp) (by simp) (wq1.AR (AhN _) b2 kT1) (by have:=b2.1;omega) ?_ w2 (fun b m e=>by cases e;omega) (bf.add hum hpu hmem htN hne htql)
       rw[b2.2 ida (by omega) apq]
       exact o1
      ·have hta:t=a:=by
         have:¬ ((t:Int)≠a):=by simpa using hne
         omega
       exact next al ql y T (fun _ h=>h) (fun _ _=>rfl) (AhN _) (by rw[hta];exact bf.ha) kT idT oaT wq apq bf
     ·have hneg:=dF hneg
      have:t∈ql:=by
       by_cases e:t=a
       ·rw[e];exact bf.ha
       ·exact(bf.am t htN e).1 (by omega)
      exact next al ql y T (fun _ h=>h) (fun _ _=>rfl) (AhN _) this kT idT oaT wq apq bf
   ·have hkl:k=row.length:=by have:=dF hkl;omega
    subst hkl
    rw[Ar (by omega) (by omega)]
    refine hKE _ _ _ ⟨n+1,al,ql,rfl,hlt,kT,idT,oaT,wq,apq,bf,fun i hi hpi t ht=>?_⟩ (by simp[Aw];omega)
    by_cases e:i=n
    ·subst e
     rw[hud,hrow]at ht
     obtain⟨j,hj,hjt⟩:=AiI ht
     have:=hdone j hj hj
     rw[hjt,Ai1]at this
     exact this
    ·exact hall i (by omega) hpi t ht
  ·have hge:n=ql.length:=by have:=dF hge;omega
   subst hge
   refine⟨_,rfl,kT,.inl ⟨rfl,bf.xU hz fun u hu hpu t ht=>?_⟩⟩
   obtain⟨i,hi,rfl⟩:=AiI hu
   have e:ql[i]=gN ql i:=by unfold gN;rw[AhL,AhM hi];rfl
   rw[e]at hpu ht
   exact hall i hi hpu t ht
set_option linter.unusedSectionVars false
theorem Gs(r:List Nat):(sI r).length=r.length:=AhR _
theorem AbS{n m:Nat}{S:Aa}{x:AV}{r:List Nat}(h:A4 n S x 3 (nR r))(hm:n=m):Cv (S.BA (AL m)) m x (aL aI (sI r)):=by
 subst hm
 have e:nR r=(sI r).map fun a=>[.v (.int .i64 a)]:=by rw[AiU];rfl
 rw[e]at h
 exact h.mM
theorem Yf{S:Aa}{d n k:Nat}{r:List Nat}(h:S.obj d=some (.cells 3 (nR r) true))(hd:n≤d)(hk:k≤r.length):Cv (S.BA (AL n)) n (.s d 0 k) (aL aI (sI (r.take k))):=by
 have hf:(S.BA (AL n)).obj d=some (.cells 3 (nR r) false):=by
  rw[GK h]
  have:AL n d=true:=by simp[AL];omega
  rw[this];rfl
 have hl:(nR (r.take k)).length=k:=by rw[AhR,AiF];omega
 refine .s d 0 k _ (nR r) ((sI (r.take k)).map fun a=>[aI a]) hf (by rw[AhR];omega) (by simp;omega) (fun i c c2 e1 e2=>?_) (fun i c c2 j u u2 e1 e2 e3 e4=>?_)
 ·rw[Ai4]at e2
  obtain⟨a,_,rfl⟩:=AiQ.1 e2
  rw[Ai4]at e1
  obtain⟨b,_,rfl⟩:=AiQ.1 e1
  rfl
 ·rw[AhZ,Ai4]at e1
  rw[Ai4,Ai4,List.getElem?_take]at e2
  split at e2
  ·cases hb:r[i]? with
   |none=>rw[hb]at e1;cases e1
   |some b =>
    rw[hb]at e1 e2
    cases e1
    cases e2
    match j with
    |0=>cases e3;cases e4;exact .v _
    |j+1=>simp at e3
  ·cases e2
theorem OJ{c:Ci}(hc:Wc c){m id:Nat}{S:Aa}(h:S.obj id=some (mB c m))(hid:id<S.n){a:Nat}{p q:List Bool}{least:Nat}(hle:least≤1)(ha:a<(Au c).valid.length)(hp:p.length=(Au c).valid.length)(hq:q.length=(Au c).valid.length){Q:Bh→Aa→Prop}{K:AV→Aa→Prop}
    (k0:¬ Can (Au c) p q a least→K (aL aI (sI [])) S) (k1:∀ r,Wy (Au c) p q a least r→K (aL aI (sI r)) S):
    Ah Pg 109 [.p id 0 0,aI a,aL aB p,aL aB q,aI least] S Q K:=by
 refine .inl ((Ad.NN (Φ:=fun tr=>(tr=aL aI (sI [])∧¬ Can (Au c) p q a least)∨∃ r,tr=aL aI (sI r)∧Wy (Au c) p q a least r) ((X1 hc h hid hle ha hp hq).mono fun e S' hh=>?_)).mono ?_)
 ·obtain⟨x,he,hk,hx⟩:=hh
  rcases hx with⟨rfl,h2⟩|⟨r,h2,h3⟩
  ·exact⟨_,_,he,hk,.nl,.inl ⟨rfl,h2⟩⟩
  ·exact⟨_,_,he,hk,AbS h2 rfl,.inr ⟨r,rfl,h3⟩⟩
 ·rintro e S' ⟨tr,rfl,rfl,⟨rfl,h2⟩|⟨r,rfl,h3⟩⟩
  ·exact k0 h2
  ·exact k1 r h3
theorem C2.lK{s:Sp}{p:List Bool}{t:Nat}{r:List Nat}(h:C2 s p t r)(hl:Br r=t)(h2:2≤r.length)(hm:∀ f∈s.fair,∃ i,i<r.length∧bit f (gN r i)=true):jK s p t (r.take (r.length - 1)):=by
 have e:(r.take (r.length - 1)).length=r.length - 1:=by rw[AiF];omega
 have g:∀ i,i<r.length - 1→gN (r.take (r.length - 1)) i=gN r i:=fun i hi=>PR hi
 have glast:Br (r.take (r.length - 1))=gN r (r.length - 2):=by unfold Br;rw[e,g _ (by omega)];congr 1
 refine⟨fun hn=>by rw[hn]at e;simp at e;omega,by rw[g 0 (by omega)];exact h.fst,fun i hi=>?_,fun i hi=>?_,?_,fun f hf=>?_⟩
 ·rw[e]at hi;rw[g i hi];exact h.by_ i (by omega)
 ·rw[e]at hi;rw[g i (by omega),g _ hi];exact h.nxt i (by omega)
 ·rw[glast,←hl]
  have:=h.nxt (r.length - 2) (by omega)
  rw[show r.length - 2+1=r.length - 1 by omega]at this
  exact this
 ·obtain⟨i,h3,h4⟩:=hm f hf
  by_cases e2:i<r.length - 1
  ·exact⟨i,by omega,by rw[g i e2];exact h4⟩
  ·have:gN r i=t:=by rw[←hl];unfold Br;congr 1;omega
   exact⟨0,by omega,by rw[g 0 (by omega),h.fst,←this];exact h4⟩
theorem Uo{r:List Nat}{e:Nat}(h:0<r.length){S:Aa}{K:AV→Aa→Prop}:Hi e 1 (aL aI (sI r)) (some (.v (.int .i64 1))) none none S K=K (aL aI (sI r.tail)) S:=by
 have h1:(1:Int)≤r.length:=by omega
 have e1:((r.length:Int) - 1).toNat=r.length - 1:=by omega
 cases r with
 |nil=>simp at h
 |cons a r =>
  simp[Hi,Ly,Aw,aL,BK,sI]
  rw[AiD (by simp)]
  exact⟨fun h=>h.2,fun h=>⟨by omega,h⟩⟩
theorem XC{r:List Nat}{e:Nat}(h:0<r.length){S:Aa}{K:AV→Aa→Prop}:Hi e 1 (aL aI (sI r)) none (some (aI ((r.length:Int) - 1))) none S K=K (aL aI (sI (r.take (r.length - 1)))) S:=by
 have e1:((r.length:Int) - 1).toNat=r.length - 1:=by omega
 simp[Hi,Ly,Aw,aL,BK,sI,e1,List.map_take]
 intro _
 omega
theorem Qg{a b:List Bool}(ha:a.length<140737488355328)(hab:b.length=a.length):BF Pg 105 [aL aB a,aL aB b] (aL aB (Bm a b)):=(wV a b ha hab).NA
theorem wM{c:Ci}(hc:Wc c){m id:Nat}{S:Aa}(h:S.obj id=some (mB c m))(hid:id<S.n){t:Nat}{p:List Bool}(hp:In (Au c) p)(ht:bit p t=true){Q:Bh→Aa→Prop}{K:AV→Aa→Prop}
    (k0:¬ Home (Au c) p t→K (.t [aL aI (sI []),aB false]) S) (k1:∀ r,jK (Au c) p t r→r.length≤10000→K (.t [aL aI (sI r),aB true]) S):
    Ah Pg 111 [.p id 0 0,aI t,aL aB p] S Q K:=by
 obtain⟨hN,hN1,hN2⟩:=zZ hc
 have hsp:=hc.sp
 have htN:t<(Au c).valid.length:=by have:=Cd ht;have:=hp.len;omega
 have hfl:(Au c).fair.length≤1:=by have:=hc.fair;simpa[Au]using this
 refine .inl ((Ad.NN (Φ:=fun tr=>(tr = .t [aL aI (sI []),aB false]∧¬ Home (Au c) p t)∨∃ r,tr = .t [aL aI (sI r),aB true]∧jK (Au c) p t r∧r.length≤10000) (dZ ?_)).mono ?_)
 rotate_left
 ·rintro e S' ⟨tr,rfl,rfl,⟨rfl,h2⟩|⟨r,rfl,h3,h4⟩⟩
  ·exact k0 h2
  ·exact k1 r h3 h4
 dsimp only[Ae4,Lf,Lq,Ld]
 refine Is rfl (fun _ h=>by cases h) fun S1 k1' n1 o1=>?_
 have hS1:=(k1'.2 _ hid).trans h
 have hon:(CO (Au c).valid.length t).length=(Au c).valid.length:=NU _ _
 have ceu:=iS hsp.sm p (CO (Au c).valid.length t)
 rw[Ue (hsp.fit hp.len) (hsp.fit hon)]at ceu
 obtain⟨hm,hhm⟩:∃ hm,hm=IM (Au c) p (CO (Au c).valid.length t):=⟨_,rfl⟩
 have hml:hm.length=(Au c).valid.length:=by rw[hhm,PU,hon]
 show ∃ q:AV,_
 refine⟨_,by rw[AH];exact⟨rfl,rfl⟩,?_⟩
 refine⟨_,by rw[Ac];exact⟨rfl,rfl⟩,?_⟩
 refine⟨_,by rw[sU hS1];exact⟨rfl,rfl⟩,?_⟩
 refine⟨_,At (Vl hS1 (by omega) htN (by omega)) ⟨rfl,rfl⟩,?_⟩
 refine⟨_,Af ceu ⟨rfl,rfl⟩,?_⟩
 rw[←hhm,AH,Ac,Ac,Ae hS1 rfl rfl,Ax]
 refine WG (fun y z T=>∃(k:Nat) (r:List Nat),z=aI k∧k≤(Au c).fair.length∧Am S T∧A4 S.n T y 3 (nR r)∧C2 (Au c) p t r∧Br r=t∧r.length≤1+k*2100∧∀ j (hj:j<(Au c).fair.length),j<k→∃ i,i<r.length∧bit (Au c).fair[j] (gN r i)=true)
  (fun _ z _=>10 - ((Aw z).getD 0).toNat) ⟨0,[t],rfl,AhS _,k1',.inr ⟨S.n,rfl,AhN _,by omega,o1⟩,C2.one _ _ _,rfl,by simp,fun j _ hj=>absurd hj (AhY _)⟩ ?_
 dsimp only[Dw]
 rintro y z T ⟨k,r,rfl,hk,kT,wT,ch,hl,hlen,hmet⟩ KE hKE
 dsimp only[gO,Fi,Lt,Lc]
 have hT:=(kT.2 _ hid).trans h
 have hidT:id<T.n:=by have:=kT.1;omega
 have hrp:=Ai3.2 ch.pos
 rw[As,Ag]
 refine Al (fun hlt=>?_) (fun hge=>?_)
 ·have hlt:k<(Au c).fair.length:=by have:=dT hlt;omega
  have hff:=hsp.fair _ (AhP hlt)
  obtain⟨f,hf⟩:∃ f,f=(Au c).fair[k]:=⟨_,rfl⟩
  rw[AM hlt,A1,←hf]
  rw[←hf]at hff
  refine Af (Qg (by have:=hp.len;omega) (by rw[hff,hp.len])) ?_
  refine Af (Qg (by rw[DJ];have:=hp.len;omega) (by rw[DJ,hml,hp.len])) ?_
  have hql:(Bm (Bm p f) hm).length=(Au c).valid.length:=by rw[DJ,DJ,hp.len]
  refine OJ hc hT hidT (least:=0) (by decide) htN hp.len hql (fun hno=>?_) (fun r1 w1=>?_)
  ·rw[Ax,AA,Ag,Bb (by rfl)]
   refine⟨_,_,rfl,kT,DU .nl (.v _),.inl ⟨rfl,fun hh=>hno (.inl ⟨rfl,?_⟩)⟩⟩
   have:=hh.lK f (by rw[hf];exact AhP hlt)
   rw[←hhm]at this
   exact this
  ·have r1p:=Ai3.2 w1.ch.pos
   have hs1:=w1.small
   have hpl:=hp.len
   rw[Ax,Gs,AA,Ag,Be (decide_eq_false (by omega)),Uo r1p]
   have hto:=w1.to
   rw[Bi,Bi,AhO,AhO]at hto
   obtain⟨a1,a2,a3,a4⟩:=ch.app (by rw[hl];exact w1.ch)
   refine A4.Qe (b:=8) wT kT.1 (ys:=(sI r1.tail).map fun a=>[aI a]) (fun c' hc'=>by obtain⟨_,_,rfl⟩:=Ai5.1 hc';rfl) (by simp;omega) (fun y1 T1 w1' b1 hy1=>?_) rfl
   have er1:nR r++(sI r1.tail).map (fun a=>[aI a])=nR (r++r1.tail):=by rw[AiU];exact List.map_append.symm
   rw[er1]at w1'
   have kT1:Am S T1:=wT.AR (AhN _) b1 kT
   have hT1:=(kT1.2 _ hid).trans h
   have hidT1:id<T1.n:=by have:=kT1.1;omega
   have rl:(r++r1.tail).length=r.length+(r1.length - 1):=by simp
   obtain⟨d1,rfl,d11,d12,do1⟩:=w1'.ix (i:=(r++r1.tail).length - 1) (by rw[AhR];omega)
   rw[AhR]
   have hgl:(nR (r++r1.tail))[(r++r1.tail).length - 1]? = some [aI (Br r1:Int)]:=by
    rw[Sz (by omega),←a2];rfl
   have hu:Br r1<(Au c).valid.length:=by have:=Cd hto.1.1;omega
   refine⟨_,fun U hU=>by rw[Dm];exact⟨rfl,rfl⟩,?_⟩
   refine⟨aI (((r++r1.tail).length - 1:Nat):Int),fun U hU=>by
    rw[Bx (by omega) (by omega)]
    exact⟨by rw[show(((r++r1.tail).length:Nat):Int) - 1=(((r++r1.tail).length - 1:Nat):Int)by omega],rfl⟩,?_⟩
   refine⟨_,fun U hU=>by rw[Cf (by omega) ((hU.2 _ d12).trans do1),AhZ];exact⟨rfl,rfl⟩,?_⟩
   refine⟨_,fun U hU=>by rw[Ae ((hU.2 _ d12).trans do1) hgl rfl];exact⟨rfl,rfl⟩,?_⟩
   refine⟨_,fun U hU=>At (Vl ((hU.2 _ hidT1).trans hT1) (by have:=hU.1;omega) htN (by omega)) ⟨rfl,rfl⟩,?_⟩
   refine OJ hc hT1 hidT1 (least:=0) (by decide) hu hp.len hon (fun hno=>?_) (fun r2 w2=>?_)
   ·exfalso
    refine hno (.inl ⟨rfl,?_⟩)
    have:=hto.2
    rw[hhm,D1]at this
    exact this.2.rc
   ·have r2p:=Ai3.2 w2.ch.pos
    have hs2:=w2.small
    rw[Uo r2p]
    obtain⟨c1,c2,c3,c4⟩:=a1.app (by rw[a2];exact w2.ch)
    have hlt2:Br r2=t:=(E2.1 w2.to).1
    have w1'':A4 S.n T1 (.s d1 0 (r++r1.tail).length) 3 (nR (r++r1.tail)):=.inr ⟨d1,by rw[AhR],d11,d12,do1⟩
    refine A4.Qe (b:=8) w1'' kT1.1 (ys:=(sI r2.tail).map fun a=>[aI a]) (fun c' hc'=>by obtain⟨_,_,rfl⟩:=Ai5.1 hc';rfl) (by simp;omega) (fun y2 T2 w2' b2 hy2=>?_) rfl
    have er2:nR (r++r1.tail)++(sI r2.tail).map (fun a=>[aI a])=nR ((r++r1.tail)++r2.tail):=by rw[AiU];exact List.map_append.symm
    rw[er2]at w2'
    rw[Ar (by omega) (by omega)]
    have rl2:((r++r1.tail)++r2.tail).length=r.length+(r1.length - 1)+(r2.length - 1):=by simp;omega
    refine hKE _ _ _ ⟨k+1,_,rfl,hlt,w1''.AR (AhN _) b2 kT1,w2',c1,c2.trans hlt2,by rw[rl2];omega,fun j hj hjk=>?_⟩ (by simp[Aw];omega)
    by_cases e:j=k
    ·subst e
     refine⟨(r++r1.tail).length - 1,by rw[rl2];omega,?_⟩
     rw[c3 _ (by omega)]
     have:gN (r++r1.tail) ((r++r1.tail).length - 1)=Br r1:=a2
     rw[this,←hf]
     exact hto.1.2
    ·obtain⟨i,h1,h2⟩:=hmet j hj (by omega)
     exact⟨i,by rw[rl2];omega,by rw[c3 i (by rw[rl];omega),a3 i h1];exact h2⟩
 ·have hge:k=(Au c).fair.length:=by have:=dF hge;omega
  have hmet':∀ f∈(Au c).fair,∃ i,i<r.length∧bit f (gN r i)=true:=fun f hf=>by
   obtain⟨j,hj,rfl⟩:=AiI hf
   exact hmet j hj (by omega)
  rw[wT.len,AhR,AO,Ag]
  refine Al (fun hgt=>?_) (fun hgt=>?_)
  ·have hgt:2≤r.length:=by have:=dT hgt;omega
   obtain⟨d,rfl,d1,d2,do_⟩:=wT.ix (i:=0) (by rw[AhR];omega)
   rw[AhR,Dm,Bx (by omega) (by omega)]
   have esl:∀{K:AV→Aa→Prop},Hi 3 1 (.s d 0 r.length) none (some (aI ((r.length:Int) - 1))) none T K=K (.s d 0 (r.length - 1)) T:=by
    intro K
    have e1:((r.length:Int) - 1).toNat=r.length - 1:=by omega
    simp[Hi,Ly,Aw,BK,e1]
    intro _
    omega
   rw[esl]
   refine⟨_,_,rfl,kT,DU (Yf do_ d1 (Nat.sub_le _ _)) (.v _),.inr ⟨_,rfl,ch.lK hl hgt hmet',by rw[AiF];omega⟩⟩
  ·have hr1:r.length=1:=by have:=dF hgt;omega
   refine At (Vl hT hidT htN (by omega)) ?_
   refine OJ hc hT hidT (least:=1) (by decide) htN hp.len hon (fun hno=>?_) (fun r2 w2=>?_)
   ·rw[Ax,AA,Ag,Bb (by rfl)]
    refine⟨_,_,rfl,kT,DU .nl (.v _),.inl ⟨rfl,fun hh=>hno (.inr ⟨ht,hh.round⟩)⟩⟩
   ·have hl2:=w2.len
    have hs2:=w2.small
    have hpl:=hp.len
    rw[Ax,Gs,AA,Ag,Be (decide_eq_false (by omega)),Ax,Gs,Bx (by omega) (by omega),XC (by omega)]
    refine⟨_,_,rfl,kT,DU (Tree.aL (fun _ _=>Tree.v _) _ _) (.v _),.inr ⟨_,rfl,w2.ch.lK (E2.1 w2.to).1 (by omega) fun f hf=>?_,by rw[AiF];omega⟩⟩
    obtain⟨i,h1,h2⟩:=hmet' f hf
    have:i=0:=by omega
    subst this
    rw[ch.fst]at h2
    exact⟨0,by omega,by rw[w2.ch.fst];exact h2⟩
set_option linter.unusedSectionVars false
theorem lA(r:List Nat)(k:Nat):(nR r).take k=nR (r.take k):=List.map_take.symm
theorem Us(r:List Nat):(sI r).map (fun a=>[aI a])=nR r:=by rw[AiU];rfl
theorem AhC{T:Aa}{d:Nat}{r r2:List Nat}(hr:r≠[])(hr2:r2≠[])(hd:d<T.n)(ho:T.obj d=some (.cells 3 (nR r) true))(hb:r.length+r2.length≤1000000){K:AV→Aa→Prop}
    (k:∀ T',T'.n=T.n+1→(∀ x,x<T.n→x≠d→T'.obj x=T.obj x)→T'.obj T.n=some (.cells 3 (nR (r.take (r.length - 1)++r2)) true)→K (.s T.n 0 (r.take (r.length - 1)++r2).length) T'):
    Hi 3 1 (.s d 0 r.length) none (some (aI ((r.length:Int) - 1))) (some (aI ((r.length:Int) - 1))) T fun v T=>Bo 3 1 8 v (aL aI (sI r2)) T K:=by
 have hp:=Ai3.2 hr
 have hp2:=Ai3.2 hr2
 have e1:((r.length:Int) - 1).toNat=r.length - 1:=by omega
 have el:(r.take (r.length - 1)++r2).length=r.length - 1+r2.length:=by rw[Ai2,AiF];omega
 have hrow:∀ c∈(sI r2).map (fun a=>[aI a]),c.length=1:=fun c hc=>by obtain⟨_,_,rfl⟩:=Ai5.1 hc;rfl
 have hys:∃ y0 yr,(sI r2).map (fun a=>[aI a])=y0 :: yr:=by
  cases r2 with
  |nil=>exact absurd rfl hr2
  |cons a r2=>exact⟨_,_,rfl⟩
 obtain⟨y0,yr,hy⟩:=hys
 have eyl:(y0 :: yr).length=r2.length:=by rw[←hy,AhR,Gs]
 have fin:∀ v:AV,v=(if(r.length:Int) - 1=0 then .nl else .s d 0 (r.length - 1))→Bo 3 1 8 v (aL aI (sI r2)) T K:=by
  intro v hv
  by_cases e:r.length=1
  ·rw[if_pos (by omega)]at hv
   subst hv
   refine⟨rfl,_,rfl,hrow,?_⟩
   rw[hy]
   refine⟨by rw[eyl];omega,?_⟩
   have:=k (T.new (.cells 3 (y0 :: yr) true)) rfl (fun x hx _=>I3 hx) (by rw[B1,←hy,Us,e];rfl)
   rw[el]at this
   rw[eyl]
   rw[show r.length - 1+r2.length=r2.length by omega]at this
   exact this
  ·rw[if_neg (by omega)]at hv
   subst hv
   refine⟨rfl,_,rfl,hrow,?_⟩
   rw[hy]
   simp only[Qf,ho]
   refine⟨⟨trivial,by rw[AhR];omega,by rw[eyl];omega⟩,?_⟩
   have:=k ((T.kill d).new (.cells 3 ((nR r).take (r.length - 1)++y0 :: yr) true)) rfl (fun x hx hne=>by simp[Aa.new,Aa.kill,hne,show x≠T.n by omega]) (by
    have e2:(nR r).take (r.length - 1)++y0 :: yr=nR (r.take (r.length - 1)++r2):=by rw[lA,←hy,Us];exact List.map_append.symm
    rw[←e2]
    simp[Aa.new,Aa.kill])
   rw[el]at this
   rw[eyl]
   exact this
 simp only[Hi,Ly,Aw]
 refine⟨_,rfl,_,rfl,_,rfl,rfl,⟨by omega,by omega,by omega,by omega⟩,.inl rfl,fin _ ?_⟩
 by_cases e:(r.length:Int) - 1=0
 ·rw[if_pos e,if_pos e]
 ·rw[if_neg e,if_neg e];simp[e1]
theorem AaI{c:Ci}(hc:Wc c){m id:Nat}{S:Aa}(h:S.obj id=some (mB c m))(hid:id<S.n){a:Nat}{p:List Bool}(hp:In (Au c) p)(ha:bit p a=true)(hex:∃ t,Rc (Au c) p (CO (Au c).valid.length t) a∧Home (Au c) p t){Q:Bh→Aa→Prop}{K:AV→Aa→Prop}
    (k1:∀ r at_,Lp (Au c) p a r at_→r.length≤20000→K (.t [aL aI (sI r),aI (at_:Nat)]) S):
    Ah Pg 64 [.p id 0 0,aI a,aL aB p] S Q K:=by
 obtain⟨hN,hN1,hN2⟩:=zZ hc
 have hpl:=hp.len
 have haN:a<(Au c).valid.length:=by have:=Cd ha;omega
 refine .inl ((Ad.NN (Φ:=fun tr=>∃(r:List Nat) (at_:Nat),tr = .t [aL aI (sI r),aI at_]∧Lp (Au c) p a r at_∧r.length≤20000) (oB ?_)).mono ?_)
 rotate_left
 ·rintro e S' ⟨tr,rfl,rfl,r,at_,rfl,h3,h4⟩
  exact k1 r at_ h3 h4
 unfold m64
 rw[Ax]
 refine Zr (fun z T=>∃ i:Nat,z=aI i∧i≤p.length∧Am S T∧∀ t,t<i→¬ (Rc (Au c) p (CO (Au c).valid.length t) a∧Home (Au c) p t))
  (fun z _=>2000 - ((Aw z).getD 0).toNat) ⟨0,rfl,AhS _,Am.refl S,fun t ht=>absurd ht (AhY _)⟩ ?_
 dsimp only[BS]
 rintro z T ⟨i,rfl,hi,kT,hno⟩ KE hKE
 dsimp only[tT,Fi]
 have hT:=(kT.2 _ hid).trans h
 have hidT:id<T.n:=by have:=kT.1;omega
 rw[As,Ag]
 refine Al (fun hlt=>?_) (fun hge=>?_)
 ·have hlt:i<p.length:=by have:=dT hlt;omega
  have next:∀ T',Am S T'→¬ (Rc (Au c) p (CO (Au c).valid.length i) a∧Home (Au c) p i)→bin .add 0 (aI i) (.v (.int .i64 1)) T' fun v T'=>KE 54 (GQ (.p id 0 0) (aI a) (aL aB p) (aL aB p) (aI p.length) v) T':=fun T' kT' hn=>by
   rw[Ar (by omega) (by omega)]
   refine hKE _ _ ⟨i+1,rfl,hlt,kT',fun t ht=>?_⟩ (by simp[Aw];omega)
   by_cases e:t=i
   ·subst e;exact hn
   ·exact hno t (by omega)
  rw[AM hlt,A1,AJ,Ag]
  refine Al (fun hb=>?_) (fun hb=>?_)
  ·refine next T kT fun hh=>?_
   have:=hh.2.in_
   rw[Bc hlt]at this
   rw[this]at hb;cases hb
  have hbi:bit p i=true:=by rw[Bc hlt];simpa using hb
  have hon:(CO (Au c).valid.length i).length=(Au c).valid.length:=NU _ _
  refine At (Vl hT hidT (by omega) (by omega)) ?_
  refine .inl ((X1 hc hT hidT (least:=0) (by decide) haN hpl hon).mono ?_)
  rintro e T1 ⟨x,rfl,kT1,hx⟩
  show AF _ _ _
  have kS1:=kT.trans kT1
  rcases hx with⟨rfl,hcan⟩|⟨r,wr,w⟩
  ·rw[lJ,AA,Ag,Bb (by rfl)]
   exact next T1 kS1 fun hh=>hcan (.inl ⟨rfl,hh.1⟩)
  ·have hrp:=Ai3.2 w.ch.pos
   have hsm:=w.small
   obtain⟨d,rfl,d1,d2,do_⟩:=wr.ix (i:=0) (by rw[AhR];exact hrp)
   have hli:=(E2.1 w.to).1
   rw[AhR,Dm,AA,Ag,Be (decide_eq_false (by omega))]
   refine wM hc ((kS1.2 _ hid).trans h) (by have:=kS1.1;omega) hp hbi (fun hnh=>?_) (fun r2 l2 hl2=>?_)
   ·rw[Co,Cn,Ag,A2]
    exact next T1 kS1 fun hh=>hnh hh.2
   ·rw[Co,Cn,Ag,Bf,Dm,Bx (by omega) (by omega),Dm,Bx (by omega) (by omega)]
    refine AhC w.ch.pos l2.pos d2 do_ (by omega) fun T2 n2 f2 o2=>?_
    rw[Dm,Bx (by omega) (by omega)]
    have hlp:=l2.loop w.ch hli
    have hd:d≠T1.n:=by omega
    refine⟨_,.t [aL aI (sI (r.take (r.length - 1)++r2)),aI ((r.length - 1:Nat):Int)],rfl,⟨by have:=kS1.1;omega,fun x hx=>(f2 x (by have:=kS1.1;omega) (by have:=kT.1;omega)).trans (kS1.2 x hx)⟩,DU ?_ ?_,_,_,rfl,hlp,by rw[Ai2,AiF];omega⟩
    ·have:=Yf (k:=(r.take (r.length - 1)++r2).length) o2 (n:=S.n) kS1.1 (AhN _)
     rwa [AiM]at this
    ·rw[show(r.length:Int) - 1=((r.length - 1:Nat):Int)by omega];exact .v _
 ·exfalso
  have hge:i=p.length:=by have:=dF hge;omega
  obtain⟨t,h1,h2⟩:=hex
  exact hno t (by rw[hge];exact Cd h2.in_) ⟨h1,h2⟩
set_option linter.unusedSectionVars false
theorem wO{f:Fo}(h:Pu f):f.BQ (f.wt:Int)=true:=by
 have leaf:∀(l d:Int),0≤l→0<d→Fo.BQ (.mk 3 ⟨#[]⟩ l []) d=true:=fun l d h0 hd=>by
  rw[Fo.CJ]
  simp only[AhO,decide_eq_true_eq,List.all_nil,Bool.and_true]
  refine⟨hd,?_,trivial,rfl⟩
  by_cases e:l=0
  ·exact .inl e
  ·exact .inr ⟨by omega,trivial⟩
 induction h with
 |c k hk =>
  rw[Fo.CJ]
  simp only[AhO,decide_eq_true_eq,List.all_nil,Bool.and_true]
  have:=DW k ⟨#[]⟩ 0 []
  refine⟨by omega,by simp,trivial,?_⟩
  rcases hk with rfl|rfl<;>rfl
 |a l h0 hl=>exact leaf l _ h0 (by have:=DW 3 ⟨#[]⟩ l [];omega)
 |n l h0 hl =>
  have h1:=DW 4 ⟨#[]⟩ 0 [.mk 3 ⟨#[]⟩ l []]
  have h2:=DW 3 ⟨#[]⟩ l []
  rw[Ui]at h1
  rw[Fo.CJ]
  simp only[AhO,decide_eq_true_eq,AiX,List.all_nil,Bool.and_true]
  exact⟨by omega,by simp,trivial,rfl,leaf l _ h0 (by omega)⟩
 |o k f hk h ih =>
  have h1:=DW k ⟨#[]⟩ 0 [f]
  rw[Ui]at h1
  rw[Fo.CJ]
  simp only[AhO,decide_eq_true_eq,AiX,List.all_nil,Bool.and_true]
  refine⟨by omega,by simp,trivial,?_,KN f (by omega) ih⟩
  unfold CB
  rw[if_neg (by omega),if_neg (by omega),if_pos (by omega)];rfl
 |t k f g hk h h2 ih ih2 =>
  have h1:=DW k ⟨#[]⟩ 0 [f,g]
  rw[Uh]at h1
  rw[Fo.CJ]
  simp only[AhO,decide_eq_true_eq,AiX,List.all_nil,Bool.and_true]
  refine⟨by omega,by simp,trivial,?_,KN f (by omega) ih,KN g (by omega) ih2⟩
  unfold CB
  rw[if_neg (by omega),if_neg (by omega),if_neg (by omega)];rfl
structure Fd (c:Ci) (id m:Nat) (S:Aa):Prop where
 o:S.obj id=some (mB c m)
 hid:id<S.n
 hm:m<S.n
 ne:id≠m
 mp:∃ es,S.obj m=some (.map .s es true)∧G2 c es
def Fx(c:Ci)(id m:Nat)(S S':Aa):Prop:=S.n≤S'.n∧Fd c id m S'∧∀ x,x<S.n→x≠m→S'.obj x=S.obj x
theorem Fx.of{c:Ci}{id m:Nat}{S S':Aa}(h:Fd c id m S)(hn:S.n≤S'.n)(ho:∀ x,x<S.n→S'.obj x=S.obj x):Fx c id m S S':=by
 obtain⟨es,e1,e2⟩:=h.mp
 exact⟨hn,⟨(ho _ h.hid).trans h.o,by have:=h.hid;omega,by have:=h.hm;omega,h.ne,es,(ho _ h.hm).trans e1,e2⟩,fun x hx _=>ho x hx⟩
theorem Fx.AR{c:Ci}{id m:Nat}{S S':Aa}(h:Fd c id m S)(k:Am S S'):Fx c id m S S':=Fx.of h k.1 k.2
theorem Fx.trans{c:Ci}{id m:Nat}{S S' S'':Aa}(h:Fx c id m S S')(k:Fx c id m S' S''):Fx c id m S S'':=⟨Nat.le_trans h.1 k.1,k.2.1,fun x hx hne=>(k.2.2 x (by have:=h.1;omega) hne).trans (h.2.2 x hx hne)⟩
theorem Fx.st{c:Ci}{id m:Nat}{S S' S'':Aa}(h:Fx c id m S S'){x:Nat}(hx:S.n≤x)(hn:S''.n=S'.n)(hf:∀ y,y≠x→S''.obj y=S'.obj y)(hi:Fd c id m S):Fx c id m S S'':=by
 have h1:=hi.hid
 have h2:=hi.hm
 obtain⟨es,e1,e2⟩:=h.2.1.mp
 exact⟨by rw[hn];exact h.1,⟨(hf _ (by omega)).trans h.2.1.o,by rw[hn];exact h.2.1.hid,by rw[hn];exact h.2.1.hm,hi.ne,es,(hf _ (by omega)).trans e1,e2⟩,fun y hy hne=>(hf y (by omega)).trans (h.2.2 y hy hne)⟩
theorem Mo{c:Ci}(hc:Wc c){id m:Nat}{S:Aa}(hS:Fd c id m S){f:Fo}(hf:Pu f)(hw:f.wt≤1000000000000000){Q:Bh→Aa→Prop}{K:AV→Aa→Prop}
    (k:∀ S',Fx c id m S S'→K (aL aB (A0 c f)) S'):Ah Pg 65 [.p id 0 0,f.av] S Q K:=by
 refine .inl (Ad.mono (Q:=fun e S'=>e = .ret (aL aB (A0 c f))∧Fx c id m S S') (oA ?_) fun e S' ⟨he,h1⟩=>by subst he;exact k S' h1)
 dsimp only[m65,Fi,Lf,Lt,Lc]
 refine Ai (Fo.Aj f) fun S1 k1 n1 o1=>?_
 have fx1:=Fx.AR hS k1
 obtain⟨es,e1,e2⟩:=fx1.2.1.mp
 have oi:=fx1.2.1.o
 have hm:=fx1.2.1.hm
 have hi:=fx1.2.1.hid
 rw[An (n:=4) o1 (Fo.Aj f)]
 refine Af (yW hf.kf hf.ok hw) ?_
 have hkey:Hx .s (sB f.DN)=some (.s f.DN):=by simp[Hx]
 have lk:∀{T:Aa} {es:List (Key × AV)} {b:Bool} {K:AV→Aa→Prop},T.obj m=some (.map .s es true)→UW .s .nl b (.m m) (sB f.DN) T K=K (jU .nl b (Jf es (.s f.DN))) T:=fun{T es b K} h=>by
  simp[UW,Ol,h,hkey,BK]
 rw[AH,Ac,Ae oi rfl rfl,lk e1]
 have cs:=u9 hc.ok hc.sp hf.ok (wO hf)
 rw[show jU AV.nl true (Jf es (.s f.DN)) = .t [(Jf es (.s f.DN)).getD .nl,aB (Jf es (.s f.DN)).isSome]from rfl,Co,Cn,AJ,Ag]
 cases hl:Jf es (.s f.DN)with
 |some v =>
  have hv:=e2 f hf v hl
  show gd (!true) _ _
  rw[AK rfl,AH,Ac,Ae oi rfl rfl,lk e1,hl]
  show Bh.ret v=_∧_
  exact⟨by rw[hv],fx1⟩
 |none =>
  show gd (!false) _ _
  rw[AQ rfl]
  refine⟨_,fun U hU=>by rw[AH];exact⟨rfl,rfl⟩,?_⟩
  refine⟨_,fun U hU=>by rw[Ac];exact⟨rfl,rfl⟩,?_⟩
  refine⟨_,fun U hU=>by rw[Ae ((hU.2 _ hi).trans oi) rfl rfl];exact⟨rfl,rfl⟩,?_⟩
  refine⟨_,fun U hU=>by rw[AH];exact⟨rfl,rfl⟩,?_⟩
  refine⟨_,fun U hU=>by rw[Ac];exact⟨rfl,rfl⟩,?_⟩
  refine⟨_,fun U hU=>by rw[AeP ((hU.2 _ hi).trans oi)];exact⟨rfl,rfl⟩,?_⟩
  refine⟨_,fun U hU=>by rw[AH];exact⟨rfl,rfl⟩,?_⟩
  refine⟨_,fun U hU=>by rw[Ac];exact⟨rfl,rfl⟩,?_⟩
  refine⟨_,fun U hU=>by rw[sU ((hU.2 _ hi).trans oi)];exact⟨rfl,rfl⟩,?_⟩
  refine⟨_,fun U hU=>by rw[An (n:=4) (Kg hU o1) (Fo.Aj f)];exact⟨rfl,rfl⟩,?_⟩
  refine⟨_,fun U hU=>Af cs ⟨rfl,rfl⟩,?_⟩
  show Hf _ (.m m) _ _ _ _
  simp only[Hf,e1]
  refine⟨trivial,_,hkey,?_⟩
  obtain⟨T,hT⟩:∃ T,T=S1.Dl m (.map .s (CW es (.s f.DN) (aL aB (A0 c f))) true):=⟨_,rfl⟩
  have oT:T.obj m=some (.map .s (CW es (.s f.DN) (aL aB (A0 c f))) true):=by rw[hT];exact BG _ _
  have fT:∀ x,x≠m→T.obj x=S1.obj x:=fun x hx=>by rw[hT];exact C3 hx
  have nT:T.n=S1.n:=by rw[hT];rfl
  show AI (.p id 0 0) (S1.Dl m (.map .s (CW es (.s f.DN) (aL aB (A0 c f))) true)) _
  rw[←hT,AH,Ac,Ae ((fT _ hS.ne).trans oi) rfl rfl,lk oT,UU,if_pos rfl]
  exact⟨rfl,by rw[nT];exact fx1.1,⟨(fT _ hS.ne).trans oi,by omega,by omega,hS.ne,_,oT,e2.ins hf⟩,fun x hx hne=>(fT x hne).trans (fx1.2.2 x hx hne)⟩
set_option linter.unusedSectionVars false
theorem eN{e:Nat}{z1 z2 z3 z4 z5:AV}{r:List AV}{S:Aa}{K:AV→Aa→Prop}(hr:r.length=5)(k:K (.l [r]) S):AU e 5 1 [z1,z2,z3,z4,z5] [(0,.a r)] S K:=by
 match r,hr with
 |[u,v,w,x,y],_ =>
  refine⟨[u,v,w,x,y],?_,.inr ?_⟩
  ·simp[CC,cellsOf,Kq,Ai7]
  ·simpa[chunks,Ai7]using k
theorem eM{e:Nat}{z1 z2 z3 z4 z5:AV}{r r2:List AV}{S:Aa}{K:AV→Aa→Prop}(hr:r.length=5)(hr2:r2.length=5)(k:K (.l [r,r2]) S):AU e 5 2 [z1,z2,z3,z4,z5] [(0,.a r),(1,.a r2)] S K:=by
 match r,hr,r2,hr2 with
 |[u,v,w,x,y],_,[u2,v2,w2,x2,y2],_ =>
  refine⟨[u,v,w,x,y,u2,v2,w2,x2,y2],?_,.inr ?_⟩
  ·simp[CC,cellsOf,Kq,Ai7]
  ·simpa[chunks,Ai7]using k
def VC(c:Ci)(id m:Nat)(S:Aa)(f:Fo)(s:Nat)(e:Bh)(S':Aa):Prop:=∃ t:Tn,e = .ret t.av∧Good c f s t∧Fx c id m S S'
def FdQ(c:Ci)(id m:Nat)(S:Aa)(f:Fo)(s:Nat)(e:Bh)(S':Aa):Prop:=∃ r tr,e = .ret r∧Cv (S'.BA (AL S.n)) S'.n r tr∧∃ t:Tn,tr=t.av∧Good c f s t∧Fx c id m S S'
theorem Fx.BA{c:Ci}{id m:Nat}{S S':Aa}(hS:Fd c id m S)(h:Fx c id m S S'):Fx c id m S (S'.BA (AL S.n)):=by
 have hold:∀ x,x<S.n→(S'.BA (AL S.n)).obj x=S'.obj x:=fun x hx=>D0 (by simp[AL];omega)
 obtain⟨es,e1,e2⟩:=h.2.1.mp
 exact⟨h.1,⟨(hold _ hS.hid).trans h.2.1.o,h.2.1.hid,h.2.1.hm,hS.ne,es,(hold _ hS.hm).trans e1,e2⟩,fun x hx hne=>(hold x hx).trans (h.2.2 x hx hne)⟩
theorem EU{P:Program}{fn:FuncId}{args:List AV}{c:Ci}{id m:Nat}{S:Aa}{f:Fo}{s:Nat}(hS:Fd c id m S)(h:Ad P fn args S (FdQ c id m S f s)):Ad P fn args S (VC c id m S f s):=by
 refine(Ad.r8 (Φ:=fun tr S'=>∃ t:Tn,tr=t.av∧Good c f s t∧Fx c id m S S') (h.mono fun e S' ⟨r,tr,h1,h2,h3⟩=>⟨r,tr,h1,h2,h3⟩)).mono ?_
 rintro e S'' ⟨tr,S',rfl,rfl,t,rfl,h1,h2⟩
 exact⟨t,rfl,h1,h2.BA hS⟩
theorem Cp{P:Program}{fn:FuncId}{args:List AV}{c:Ci}{id m:Nat}{S:Aa}{f:Fo}{s:Nat}(h:Ad P fn args S (VC c id m S f s)){Q:Bh→Aa→Prop}{K:AV→Aa→Prop}(kk:∀ t S',Good c f s t→Fx c id m S S'→K t.av S'):Ah P fn args S Q K:=
 .inl (h.mono fun e S' ⟨t,he,h1,h2⟩=>by subst he;exact kk t S' h1 h2)
def vU(c:Ci)(n:Nat):Prop:=∀{f:Fo},Pu f→f.wt<n→f.wt≤1000000000000000→∀{s:Nat},bit (A0 c f) s=true→∀{S:Aa} {id m:Nat},Fd c id m S→Ad Pg 31 [.p id 0 0,f.av,aI s] S (VC c id m S f s)
section
variable {c:Ci} {id m:Nat} {S:Aa} (hS:Fd c id m S)
include hS
theorem D4{T:Aa}(fx:Fx c id m S T){b:Nat}(hb:S.n≤b){zr:List AV}(hz:zr.length=5)(ob:T.obj b=some (.cells 51 [zr] true)){f:Fo}{s0:Nat}{kd s a:Int}{ss:List Int}{ks:List Tn}{xs xk:AV}(g:Good c f s0 (.mk kd s a ss ks))
    (hx:∀ T':Aa,T'.n=T.n→(∀ x,x≠b→T'.obj x=T.obj x)→Cv (T'.BA (AL S.n)) T'.n xs (aL aI ss)∧Cv (T'.BA (AL S.n)) T'.n xk (K8 ks)):
    A8 5 (.p b 0 0) (.a [aI kd,aI s,aI a,xs,xk]) T fun _ T=>AB 5 (.p b 0 0) T fun v T=>FdQ c id m S f s0 (.ret v) T:=by
 refine AG ob rfl hz fun T1 n1 o1 f1=>?_
 rw[An (n:=5) o1 rfl]
 obtain⟨c1,c2⟩:=hx T1 n1 f1
 refine⟨_,(Tn.mk kd s a ss ks).av,rfl,?_,_,rfl,g,fx.st hb n1 f1 hS⟩
 rw[Tn.av,Tn.AD]
 refine .a _ _ rfl fun j u u2 e1 e2=>?_
 match j with
 |0=>cases e1;cases e2;exact .v _
 |1=>cases e1;cases e2;exact .v _
 |2=>cases e1;cases e2;exact .v _
 |3=>cases e1;cases e2;exact c1
 |4=>cases e1;cases e2;exact c2
 |j+5=>simp at e1
theorem KX{T:Aa}(fx:Fx c id m S T){b:Nat}(hb:S.n≤b){zr:List AV}(hz:zr.length=5)(ob:T.obj b=some (.cells 51 [zr] true)){f:Fo}{s0:Nat}{t:Tn}(g:Good c f s0 t):
    A8 5 (.p b 0 0) t.av T fun _ T=>AB 5 (.p b 0 0) T fun v T=>FdQ c id m S f s0 (.ret v) T:=by
 refine AG (cs':=t.row) ob (Tn.Aj t) hz fun T1 n1 o1 f1=>?_
 rw[An (n:=5) o1 (Tn.Aj t)]
 exact⟨_,t.av,rfl,Tn.tr t _ _,_,rfl,g,fx.st hb n1 f1 hS⟩
end
theorem aQ{c:Ci}{n:Nat}(IH:vU c n){f:Fo}(hf:Pu f)(hn:f.wt<n)(hw:f.wt≤1000000000000000){id m:Nat}{S:Aa}(hS:Fd c id m S){r:List Nat}(hr:r.length≤100000)(hb:∀ i,i<r.length→bit (A0 c f) (gN r i)=true){Q:Bh→Aa→Prop}{K:AV→Aa→Prop}
    (k:∀ x ts S',A4 S.n S' x 51 (ts.map Tn.row)→Df c (List.replicate r.length f) r ts→Fx c id m S S'→K x S'):Ah Pg 66 [.p id 0 0,f.av,aL aI (sI r)] S Q K:=by
 refine .inl (Ad.mono (Q:=fun e S'=>∃ x ts,e = .ret x∧A4 S.n S' x 51 (ts.map Tn.row)∧Df c (List.replicate r.length f) r ts∧Fx c id m S S') (nZ ?_) fun e S' ⟨x,ts,he,h1,h2,h3⟩=>by subst he;exact k x ts S' h1 h2 h3)
 unfold m66
 refine Ai (Fo.Aj f) fun S1 k1 n1 o1=>?_
 rw[Ax,Gs]
 refine Zq (fun y z T=>∃(i:Nat) (ts:List Tn),z=aI i∧i≤r.length∧Fx c id m S T∧T.obj S.n=some (.cells 32 [f.row] true)∧S.n<T.n∧A4 (S.n+1) T y 51 (ts.map Tn.row)∧Df c (List.replicate i f) (r.take i) ts)
  (fun _ z _=>r.length - ((Aw z).getD 0).toNat) ⟨0,[],rfl,AhS _,Fx.AR hS k1,o1,by omega,.nl _ _ _,by rw[List.take_zero];exact trivial⟩ ?_
 dsimp only[Dw]
 rintro y z T ⟨i,ts,rfl,hi,fx,oT,hT,wy,hg⟩ KE hKE
 dsimp only[tS,Fi]
 rw[As,Ag]
 refine Al (fun hlt=>?_) (fun hge=>?_)
 ·have hlt:i<r.length:=by have:=dT hlt;omega
  have hsi:i<(sI r).length:=by rw[Gs];exact hlt
  have hel:(sI r)[i]=(gN r i:Int):=by
   rw[List.getElem_map]
   unfold gN
   rw[AhL,AhM hlt];rfl
  rw[AM hsi,A1,hel,An (n:=4) oT (Fo.Aj f)]
  refine Cp (IH hf hn hw (hb i hlt) fx.2.1) fun t T1 g1 fx1=>?_
  refine eN (Tn.Aj t) ?_
  have hid:=hS.hid
  have hmm:=hS.hm
  have oT1:=(fx1.2.2 S.n hT (by omega)).trans oT
  have wy1:A4 (S.n+1) T1 y 51 (ts.map Tn.row):=wy.same fx1.1 fun x hx hx2=>fx1.2.2 x hx2 (by omega)
  have htl:=hg.X6.1
  rw[AiF]at htl
  refine wy1.app (b:=72) (c:=t.row) (by have:=fx1.1;omega) (Tn.Aj t) (by rw[AhR];omega) (fun y' T2 w2 b2 hy2=>?_) rfl
  rw[Ar (by omega) (by omega)]
  have er:ts.map Tn.row ++ [t.row]=(ts ++ [t]).map Tn.row:=by simp
  rw[er]at w2
  have lowT:∀ x,x<S.n+1→T2.obj x=T1.obj x:=fun x hx=>b2.2 x (by have:=fx1.1;omega) (fun b m e=>by have:=wy1.lt e;omega)
  have fx2:Fx c id m S T2:=by
   have f1:=fx.trans fx1
   obtain⟨es,e1,e2⟩:=f1.2.1.mp
   exact⟨Nat.le_trans f1.1 b2.1,⟨(lowT _ (by omega)).trans f1.2.1.o,by have:=f1.1;have:=b2.1;omega,by have:=f1.1;have:=b2.1;omega,hS.ne,es,(lowT _ (by omega)).trans e1,e2⟩,fun x hx hne=>(lowT x (by omega)).trans (f1.2.2 x hx hne)⟩
  refine hKE _ _ _ ⟨i+1,ts ++ [t],rfl,hlt,fx2,(lowT _ (by omega)).trans oT1,by have:=fx1.1;have:=b2.1;omega,w2,?_⟩ (by simp[Aw];omega)
  have e1:r.take (i+1)=r.take i ++ [gN r i]:=by
   rw[←List.take_append_getElem hlt]
   unfold gN
   rw[AhL,AhM hlt];rfl
  have e2:List.replicate (i+1) f=List.replicate i f ++ [f]:=by rw[List.replicate_succ']
  rw[e1,e2]
  exact hg.app ⟨g1,trivial⟩
 ·have hge:i=r.length:=by have:=dF hge;omega
  subst hge
  rw[AiM]at hg
  exact⟨_,ts,rfl,wy.low (Nat.le_succ _),hg,fx⟩
theorem XO{c:Ci}{n:Nat}(IH:vU c n)(hn:2<n){id m:Nat}{S:Aa}(hS:Fd c id m S){s:Nat}(hb:bit (A0 c GL) s=true){Q:Bh→Aa→Prop}{K:AV→Aa→Prop}
    (k:∀ t S',Good c GL s t→Fx c id m S S'→K t.av S'):Ah Pg 108 [.p id 0 0,aI s] S Q K:=by
 refine Cp (EU hS (eC ?_)) k
 unfold Ae7
 refine Ai rfl fun S1 k1 n1 o1=>?_
 have fx1:=Fx.AR hS k1
 refine Af Vp ?_
 refine G7 (r:=IA.row) (Fo.Aj _) ?_
 refine Af (Ou 13 [IA]) ?_
 refine Cp (IH XU (by rw[jZ];exact hn) (by rw[jZ];decide) hb fx1.2.1) fun t S2 g2 fx2=>?_
 have hm:=hS.hm
 exact KX hS (fx1.trans fx2) (AhN _) rfl ((fx2.2.2 _ (by omega) (by omega)).trans o1) g2
set_option linter.unusedSectionVars false
theorem Fx.P1{c:Ci}{id m:Nat}{S T1 T2:Aa}(hS:Fd c id m S)(h:Fx c id m S T1){n:Nat}{y:AV}{e:Nat}{es:List (List AV)}(w:A4 n T1 y e es)(hn:S.n≤n)(b:zK T1 T2 y):Fx c id m S T2∧∀ x,x<n→x<T1.n→T2.obj x=T1.obj x:=by
 have low:∀ x,x<n→x<T1.n→T2.obj x=T1.obj x:=fun x hx hx2=>b.2 x hx2 (fun b m e=>by have:=w.lt e;omega)
 have h1:=h.1
 have h2:=b.1
 have h3:=hS.hid
 have h4:=hS.hm
 obtain⟨es,e1,e2⟩:=h.2.1.mp
 exact⟨⟨by omega,⟨(low _ (by omega) (by omega)).trans h.2.1.o,by omega,by omega,hS.ne,es,(low _ (by omega) (by omega)).trans e1,e2⟩,fun x hx hne=>(low x (by omega) (by omega)).trans (h.2.2 x hx hne)⟩,low⟩
theorem sF{c:Ci}(hc:Wc c){n:Nat}(IH:vU c n)(hn:2<n){f0 f1 F:Fo}(h0:Pu f0)(h1:Pu f1)(hF:F=A7 15 f0 f1∨F=A3 11 f1∧f0=IA)(w0:f0.wt<n)(w1:f1.wt<n)(v0:f0.wt≤1000000000000000)(v1:f1.wt≤1000000000000000)
    {id m:Nat} {S:Aa} (hS:Fd c id m S) {s:Nat} (hv:bit (Au c).valid s=true) (hr:Rc (Au c) (A0 c f0) (Bm (A0 c f1) (A0 c GL)) s) {Q:Bh→Aa→Prop} {K:AV→Aa→Prop}
    (k:∀ t S',Good c F s t→Fx c id m S S'→K t.av S'):Ah Pg 61 [.p id 0 0,f0.av,f1.av,aI s] S Q K:=by
 refine Cp (EU hS (oE ?_)) k
 dsimp only[m61,Lt,Lc]
 obtain⟨hN,hN1,hN2⟩:=zZ hc
 have hid:=hS.hid
 have hm:=hS.hm
 have i0:=FP (c:=c) h0
 have i1:=FP (c:=c) h1
 have iG:=FP (c:=c) XU
 have hsN:s<(Au c).valid.length:=Cd hv
 refine Ai (Fo.Aj f0) fun S1 k1 n1 o1=>?_
 refine Ai (Fo.Aj f1) fun S2 k2 n2 o2=>?_
 refine Ai rfl fun S3 k3 n3 o3=>?_
 have fx3:Fx c id m S S3:=Fx.AR hS ((k1.trans k2).trans k3)
 have p1:=(Kg k3 (Kg k2 o1))
 have p2:=(Kg k3 o2)
 refine⟨_,fun U hU=>by rw[An (n:=4) (Kg hU p1) (Fo.Aj f0)];exact⟨rfl,rfl⟩,?_⟩
 refine⟨_,fun U hU=>by rw[An (n:=4) (Kg hU p2) (Fo.Aj f1)];exact⟨rfl,rfl⟩,?_⟩
 refine Mo hc fx3.2.1 h0 v0 fun S4 fx4=>?_
 have q1:=(fx4.2.2 S.n (by omega) (by omega)).trans p1
 have q2:=(fx4.2.2 S1.n (by omega) (by omega)).trans p2
 have q3:=(fx4.2.2 S2.n (by omega) (by omega)).trans o3
 have l4:=fx4.1
 refine⟨fun U hU=>by rw[An (n:=4) (Kg hU q2) (Fo.Aj f1)];exact⟨rfl,rfl⟩,?_⟩
 refine Mo hc fx4.2.1 h1 v1 fun S5 fx5=>?_
 have l5:=fx5.1
 refine⟨_,fun U hU=>Af Vp ⟨rfl,rfl⟩,?_⟩
 refine⟨.l [IA.row],fun U hU=>G7 (Fo.Aj _) ⟨rfl,rfl⟩,?_⟩
 refine⟨_,fun U hU=>Af (Ou 13 [IA]) ⟨rfl,rfl⟩,?_⟩
 refine Mo hc fx5.2.1 XU (by rw[jZ];decide) fun S6 fx6=>?_
 have l6:=fx6.1
 refine⟨_,fun U hU=>Af (Qg (by have:=i1.len;omega) (by rw[iG.len,i1.len])) ⟨rfl,rfl⟩,?_⟩
 refine OJ hc fx6.2.1.o fx6.2.1.hid (least:=0) (by decide) hsN i0.len (by rw[DJ];exact i1.len) (fun hno=>absurd (.inl ⟨rfl,hr⟩) hno) (fun r w=>?_)
 have hrp:=Ai3.2 w.ch.pos
 have hsm:=w.small
 have hl0:=i0.len
 have hto:=w.to
 rw[Bi,AhO]at hto
 have hlast:(sI r)[r.length - 1]? = some (Br r:Int):=by
  rw[Ai4,AhM (by omega)]
  unfold Br gN
  rw[AhL,AhM (by omega)];rfl
 have hli:r.length - 1<(sI r).length:=by rw[Gs];omega
 have hle:(sI r)[r.length - 1]=(Br r:Int):=by
  rw[AhM hli]at hlast
  exact Option.some.inj hlast
 have hsub:(r.length:Int) - 1=((r.length - 1:Nat):Int):=by omega
 rw[Ax,Gs,Bx (by omega) (by omega),hsub,AM hli,A1,hle]
 have fx03:=(fx4.trans fx5).trans fx6
 have r1:=(fx6.2.2 S.n (by omega) (by omega)).trans ((fx5.2.2 S.n (by omega) (by omega)).trans q1)
 have r2:=(fx6.2.2 S1.n (by omega) (by omega)).trans ((fx5.2.2 S1.n (by omega) (by omega)).trans q2)
 have r3:=(fx6.2.2 S2.n (by omega) (by omega)).trans ((fx5.2.2 S2.n (by omega) (by omega)).trans q3)
 refine⟨_,fun U hU=>by rw[An (n:=4) (Kg hU r1) (Fo.Aj f0)];exact⟨rfl,rfl⟩,?_⟩
 refine⟨_,fun U hU=>by rw[Ax,Gs];exact⟨rfl,rfl⟩,?_⟩
 refine⟨_,fun U hU=>by rw[Bx (by omega) (by omega)];exact⟨rfl,rfl⟩,?_⟩
 refine⟨_,fun U hU=>by rw[XC hrp];exact⟨rfl,rfl⟩,?_⟩
 have htl:(r.take (r.length - 1)).length=r.length - 1:=by rw[AiF];omega
 refine aQ IH h0 w0 v0 fx6.2.1 (r:=r.take (r.length - 1)) (by omega) (fun i hi=>by rw[htl]at hi;rw[PR hi];exact w.ch.by_ i (by omega)) fun x ts S7 wx gx fx7=>?_
 rw[htl]at gx
 have l7:=fx7.1
 have s2:=(fx7.2.2 S1.n (by omega) (by omega)).trans r2
 have s3:=(fx7.2.2 S2.n (by omega) (by omega)).trans r3
 rw[An (n:=4) s2 (Fo.Aj f1)]
 refine Cp (IH h1 w1 v1 hto.1 fx7.2.1) fun t S8 g8 fx8=>?_
 have l8:=fx8.1
 refine XO IH hn fx8.2.1 hto.2 fun u S9 g9 fx9=>?_
 have l9:=fx9.1
 refine eM (Tn.Aj t) (Tn.Aj u) ?_
 have hfx89:∀ y,S6.n≤y→y<S7.n→S9.obj y=S7.obj y:=fun y hy hy2=>(fx9.2.2 y (by omega) (by omega)).trans (fx8.2.2 y (by omega) (by omega))
 have wx9:=wx.same (by omega) hfx89
 have fx9':Fx c id m S S9:=(fx3.trans fx03).trans (fx7.trans (fx8.trans fx9))
 have htsl:=gx.X6.1
 rw[htl]at htsl
 refine A4.Qe (b:=72) wx9 (ys:=[t.row,u.row]) (by omega) (fun c' hc'=>by
  have:c'=t.row∨c'=u.row:=by simpa using hc'
  rcases this with rfl|rfl<;>exact Tn.Aj _) (by rw[AhR];simp;omega) (fun y T w2 b2 hy2=>?_) rfl
 have er:ts.map Tn.row ++ [t.row,u.row]=(ts ++ [t,u]).map Tn.row:=by simp
 rw[er]at w2
 obtain⟨fxT,lowT⟩:=fx9'.P1 hS wx9 (by omega) b2
 obtain⟨dy,hyy,_,_,_⟩:=w2.ix (i:=0) (by simp)
 subst hyy
 rw[A6 (cs:=[aI 5,aI s,aI 0,aL aI (sI r),.s dy 0 ((ts ++ [t,u]).map Tn.row).length]) rfl]
 have ob:=(lowT S2.n (by omega) (by omega)).trans ((fx9.2.2 S2.n (by omega) (by omega)).trans ((fx8.2.2 S2.n (by omega) (by omega)).trans s3))
 have hyS:∀ T':Aa,T'.n=T.n→(∀ x,x≠S2.n→T'.obj x=T.obj x)→A4 S6.n T' (.s dy 0 ((ts ++ [t,u]).map Tn.row).length) 51 ((ts ++ [t,u]).map Tn.row):=fun T' n' f'=>w2.same (by omega) fun q hq hq2=>f' q (by omega)
 exact D4 hS fxT (by omega) rfl ob (WW hc hv w.ch (by omega) hF gx g8 g9) fun T' n' f'=>⟨D7 _ _ _,D9 (fun r hr u hu=>by obtain⟨f,_,rfl⟩:=Ai5.1 hr;exact Tn.tree f u hu) (hyS T' n' f') (by omega)⟩
theorem sG{c:Ci}(hc:Wc c){n:Nat}(IH:vU c n){g0 g1 F:Fo}(h0:Pu g0)(h1:Pu g1)(w0:g0.wt<n)(w1:g1.wt<n)(v0:g0.wt≤1000000000000000)(v1:g1.wt≤1000000000000000)
    {id m:Nat} {S:Aa} (hS:Fd c id m S) {s:Nat} (hv:bit (Au c).valid s=true) (hor:bit (A0 c g0) s=true∨bit (A0 c g1) s=true) (hF:∀(i:Nat) t,i≤1→Good c (if i=0 then g0 else g1) s t→Good c F s (.mk 3 s i [] [t])) {Q:Bh→Aa→Prop} {K:AV→Aa→Prop}
    (k:∀ t S',Good c F s t→Fx c id m S S'→K t.av S'):Ah Pg 59 [.p id 0 0,aI s,Du [g0,g1]] S Q K:=by
 refine Cp (EU hS (oG ?_)) k
 dsimp only[m59,Fi]
 have hid:=hS.hid
 have hm:=hS.hm
 have i0:=FP (c:=c) h0
 have hsN:s<(A0 c g0).length:=by rw[i0.len];exact Cd hv
 refine Ai rfl fun S1 k1 n1 o1=>?_
 have fx1:Fx c id m S S1:=Fx.AR hS k1
 rw[KT,Ca (Fo.Aj _)]
 refine Mo hc fx1.2.1 h0 v0 fun S2 fx2=>?_
 have l2:=fx2.1
 have o2:=(fx2.2.2 S.n (by omega) (by omega)).trans o1
 rw[AM hsN,A1,AJ,Ag]
 refine Al (fun hb=>?_) (fun hb=>?_)
 ·have hb1:bit (A0 c g1) s=true:=by
    rcases hor with h|h
    ·rw[Bc hsN]at h;rw[h]at hb;cases hb
    ·exact h
  rw[Rq,Ca (Fo.Aj _)]
  refine Cp (IH h1 w1 v1 hb1 fx2.2.1) fun t S3 g3 fx3=>?_
  refine eN (Tn.Aj t) ?_
  rw[A6 (cs:=[aI 3,aI s,aI (1:Nat),.nl,K8 [t]]) rfl]
  exact D4 hS (fx1.trans (fx2.trans fx3)) (AhN _) rfl ((fx3.2.2 S.n (by omega) (by omega)).trans o2) (hF 1 t (by decide) g3) fun T' _ _=>⟨.nl,Kt [t] _ _⟩
 ·have hb0:bit (A0 c g0) s=true:=by rw[Bc hsN];simpa using hb
  rw[KT,Ca (Fo.Aj _)]
  refine Cp (IH h0 w0 v0 hb0 fx2.2.1) fun t S3 g3 fx3=>?_
  refine eN (Tn.Aj t) ?_
  rw[A6 (cs:=[aI 3,aI s,aI (0:Nat),.nl,K8 [t]]) rfl]
  exact D4 hS (fx1.trans (fx2.trans fx3)) (AhN _) rfl ((fx3.2.2 S.n (by omega) (by omega)).trans o2) (hF 0 t (by decide) g3) fun T' _ _=>⟨.nl,Kt [t] _ _⟩
set_option linter.unusedSectionVars false
theorem AfD{p:List Bool}{k:Int}(h0:0≤k)(h1:k<p.length){S:Aa}{b t:Nat}{l:Bool}(h:S.obj b=some (.cells t [[aL aB p]] l)):AT Pg 107 [aI k,.p b 0 0] S (aB (bit p k.toNat)):=by
 refine eD ?_
 unfold Ae8
 obtain⟨j,rfl⟩:=AhX h0
 have hj:j<p.length:=by omega
 rw[Ae h rfl rfl,AM hj,A1]
 exact⟨by rw[Ai1,Bc hj],rfl⟩
theorem AaJ{c:Ci}(hc:Wc c){n:Nat}(IH:vU c n)(hn:2<n){f:Fo}(hf:Pu f)(hw:f.wt<n)(hv1:f.wt≤1000000000000000)
    {id m:Nat} {S:Aa} (hS:Fd c id m S) {s:Nat} (hv:bit (Au c).valid s=true) (hx:∃ k:Nat,(k:Int)∈nx (Au c) s∧bit (A0 c f) k=true∧bit (A0 c GL) k=true) {Q:Bh→Aa→Prop} {K:AV→Aa→Prop}
    (k:∀ t S',Good c (A3 9 f) s t→Fx c id m S S'→K t.av S'):Ah Pg 60 [.p id 0 0,f.av,aI s] S Q K:=by
 refine Cp (EU hS (oF ?_)) k
 dsimp only[m60,Lf]
 obtain⟨hN,hN1,hN2⟩:=zZ hc
 have hsp:=hc.sp
 have hid:=hS.hid
 have hm:=hS.hm
 have i0:=FP (c:=c) hf
 have iG:=FP (c:=c) XU
 have hsN:s<(Au c).next.length:=by rw[hsp.next];exact Cd hv
 refine Ai (Fo.Aj f) fun S1 k1 n1 o1=>?_
 refine Ai rfl fun S2 k2 n2 o2=>?_
 have fx2:Fx c id m S S2:=Fx.AR hS (k1.trans k2)
 have p1:=(Kg k2 o1)
 rw[An (n:=4) p1 (Fo.Aj f)]
 refine Mo hc fx2.2.1 hf hv1 fun S3 fx3=>?_
 have l3:=fx3.1
 refine Af Vp ?_
 refine G7 (r:=IA.row) (Fo.Aj _) ?_
 refine Af (Ou 13 [IA]) ?_
 refine Mo hc fx3.2.1 XU (by rw[jZ];decide) fun S4 fx4=>?_
 have l4:=fx4.1
 refine Af (Qg (by have:=i0.len;omega) (by rw[iG.len,i0.len])) ?_
 refine BN rfl fun S5 k5 n5 o5=>?_
 refine B9 o5 (u0:=.nl) rfl rfl fun S6 n6 o6 f6=>?_
 obtain⟨P,hP⟩:∃ P,P=Bm (A0 c f) (A0 c GL):=⟨_,rfl⟩
 rw[←hP]at o6
 have hPl:P.length=(Au c).valid.length:=by rw[hP,DJ,i0.len]
 have fx6:Fx c id m S S6:=by
  have a:=(fx2.trans (fx3.trans fx4)).trans (Fx.AR fx4.2.1 k5)
  exact a.st (x:=S4.n) (by omega) n6 f6 hS
 have oid:=fx6.2.1.o
 have hrow:=EI hsN
 have hrl:((Au c).next)[s].length≤1024:=hsp.small.h4 _ (AhP hsN)
 have hrng:=OR hsp s
 rw[AH,Ac,Ac,Ae oid rfl rfl,AM hsN,A1]
 obtain⟨row,hr⟩:∃ row,row=((Au c).next)[s]:=⟨_,rfl⟩
 rw[←hr]at hrow hrl ⊢
 rw[hrow]at hrng
 have o6':S6.obj S4.n=some (.cells 41 [[aL aB P]] true):=o6
 refine At (u3 (by omega) (g:=fun k=>bit P k.toNat) fun x hx=>AfD (hrng x hx).1 (by have:=(hrng x hx).2;omega) o6') ?_
 obtain⟨kx,h1,h2,h3⟩:=hx
 rw[hrow]at h1
 obtain⟨i,hi,hgi⟩:∃ i,row.findIdx? (fun k=>bit P k.toNat)=some i∧∃ h:i<row.length,bit P (row[i].toNat)=true:=by
  cases e:row.findIdx? (fun k=>bit P k.toNat)with
  |none =>
   have:=AiY.1 e _ h1
   rw[Ai1,hP,Bi,h2,h3]at this
   cases this
  |some i =>
   obtain⟨q1,q2,_⟩:=AiV.1 e
   exact⟨i,rfl,q1,q2⟩
 obtain⟨hil,hbi⟩:=hgi
 rw[hi]
 show AI _ _ _
 rw[AH,Ac,Ac,Ae oid rfl rfl,AM hsN,A1,←hr]
 show AS _ _ _ (aI (i:Int)) _ _
 rw[AM hil,A1]
 obtain⟨t0,t1⟩:=hrng _ (AhP hil)
 obtain⟨x,hx⟩:=AhX t0
 rw[hx,Ai1,hP,Bi,AhO]at hbi
 have hxm:(x:Int)∈nx (Au c) s:=by rw[hrow,←hx];exact AhP hil
 rw[hx]
 have r1:=(f6 S.n (by omega)).trans (Kg k5 ((fx4.2.2 S.n (by omega) (by omega)).trans ((fx3.2.2 S.n (by omega) (by omega)).trans p1)))
 have r2:=(f6 S1.n (by omega)).trans (Kg k5 ((fx4.2.2 S1.n (by omega) (by omega)).trans ((fx3.2.2 S1.n (by omega) (by omega)).trans o2)))
 rw[An (n:=4) r1 (Fo.Aj f)]
 refine Cp (IH hf hw hv1 hbi.1 fx6.2.1) fun t S7 g7 fx7=>?_
 have l7:=fx7.1
 refine XO IH hn fx7.2.1 hbi.2 fun u S8 g8 fx8=>?_
 refine eM (Tn.Aj t) (Tn.Aj u) ?_
 rw[A6 (cs:=[aI 4,aI s,aI 0,.nl,K8 [t,u]]) rfl]
 exact D4 hS (fx6.trans (fx7.trans fx8)) (by omega) rfl ((fx8.2.2 S1.n (by omega) (by omega)).trans ((fx7.2.2 S1.n (by omega) (by omega)).trans r2)) (WV hc hv hxm g7 g8) fun T' _ _=>⟨.nl,Kt [t,u] _ _⟩
set_option linter.unusedSectionVars false
theorem BT{k j:Int}(h:¬ k=j){S:Aa}{A:AV→Aa→Prop}{B:Aa→Prop}(hB:B S):bin .eql 0 (.v (.int .i64 k)) (.v (.int .i64 j)) S (fun v S=>KC v fun b=>gd b (A v S) (B S)):=by
 rw[AA,Ag,decide_eq_false h];exact hB
theorem Hg{k j:Int}(h:k=j){S:Aa}{A:AV→Aa→Prop}{B:Aa→Prop}(hA:A (aB true) S):bin .eql 0 (.v (.int .i64 k)) (.v (.int .i64 j)) S (fun v S=>KC v fun b=>gd b (A v S) (B S)):=by
 rw[AA,Ag,decide_eq_true h];exact hA
section
variable {c:Ci} (hc:Wc c) {n:Nat} (IH:vU c n) {id m:Nat} {S:Aa} (hS:Fd c id m S) {s:Nat} (hv:bit (Au c).valid s=true)
include hc IH hS hv
theorem aH{f g:Fo}(hf:Pu f)(hg:Pu g)(hw:Fo.wt (A7 5 f g)≤n)(hb:n≤1000000000000000)(h1:bit (A0 c f) s=true)(h2:bit (A0 c g) s=true):Ad Pg 31 [.p id 0 0,(A7 5 f g).av,aI s] S (VC c id m S (A7 5 f g) s):=by
 refine EU hS (DG ?_)
 dsimp only[Xr,Fp,Fi,Lf,Lt,Lc]
 rw[Fo.av,Fo.AD]
 have hid:=hS.hid
 have hm:=hS.hm
 refine Ai rfl fun S1 k1 n1 o1=>?_
 refine Ai rfl fun S2 k2 n2 o2=>?_
 have fx2:Fx c id m S S2:=Fx.AR hS (k1.trans k2)
 have p1:=(Kg k2 o1)
 rw[Ac,Ae p1 rfl rfl]
 have hw2:1+(f.wt+g.wt)≤n:=by rw[FB 5 f g (by decide)]at hw;exact hw
 refine Hg rfl ?_
 refine⟨_,fun U hU=>by rw[Ac];exact⟨rfl,rfl⟩,?_⟩
 refine⟨_,fun U hU=>by rw[Ae (Kg hU p1) rfl rfl];exact⟨rfl,rfl⟩,?_⟩
 refine⟨_,fun U hU=>by rw[KT];exact⟨rfl,rfl⟩,?_⟩
 refine⟨_,fun U hU=>by rw[Ca (Fo.Aj _)];exact⟨rfl,rfl⟩,?_⟩
 refine⟨_,fun U hU=>by rw[Ac];exact⟨rfl,rfl⟩,?_⟩
 refine⟨_,fun U hU=>by rw[Ae (Kg hU p1) rfl rfl];exact⟨rfl,rfl⟩,?_⟩
 refine⟨_,fun U hU=>by rw[Rq];exact⟨rfl,rfl⟩,?_⟩
 refine⟨_,fun U hU=>by rw[Ca (Fo.Aj _)];exact⟨rfl,rfl⟩,?_⟩
 refine Cp (IH hf (by omega) (by omega) h1 fx2.2.1) fun t S3 g3 fx3=>?_
 have l3:=fx3.1
 have q1:=(fx3.2.2 S.n (by omega) (by omega)).trans p1
 have q2:=(fx3.2.2 S1.n (by omega) (by omega)).trans o2
 refine⟨fun U hU=>by rw[Ca (Fo.Aj _)];exact⟨rfl,rfl⟩,fun U hU=>by rw[Rq];exact⟨rfl,rfl⟩,fun U hU=>by rw[Ae (Kg hU q1) rfl rfl];exact⟨rfl,rfl⟩,fun U hU=>by rw[Ac];exact⟨rfl,rfl⟩,?_⟩
 refine Cp (IH hg (by omega) (by omega) h2 fx3.2.1) fun u S4 g4 fx4=>?_
 refine⟨K8 [t,u],fun U hU=>eM (Tn.Aj t) (Tn.Aj u) ⟨rfl,rfl⟩,?_⟩
 refine⟨_,fun U hU=>by rw[A6 (cs:=[aI 2,aI s,aI 0,.nl,K8 [t,u]]) rfl];exact⟨rfl,rfl⟩,?_⟩
 exact D4 hS (fx2.trans (fx3.trans fx4)) (by omega) rfl ((fx4.2.2 S1.n (by omega) (by omega)).trans q2) (WY hc hv g3 g4) fun T' _ _=>⟨.nl,Kt [t,u] _ _⟩
theorem lV{f g:Fo}(hf:Pu f)(hg:Pu g)(hw:Fo.wt (A7 6 f g)≤n)(hb:n≤1000000000000000)(h1:bit (A0 c f) s=true∨bit (A0 c g) s=true):Ad Pg 31 [.p id 0 0,(A7 6 f g).av,aI s] S (VC c id m S (A7 6 f g) s):=by
 refine EU hS (DG ?_)
 dsimp only[Xr,Fp,Fi,Lf,Lt,Lc]
 rw[Fo.av,Fo.AD]
 have hid:=hS.hid
 have hm:=hS.hm
 refine Ai rfl fun S1 k1 n1 o1=>?_
 refine Ai rfl fun S2 k2 n2 o2=>?_
 have fx2:Fx c id m S S2:=Fx.AR hS (k1.trans k2)
 have p1:=(Kg k2 o1)
 rw[Ac,Ae p1 rfl rfl]
 have hw2:4+(f.wt+g.wt)≤n:=by rw[FB 6 f g (by decide)]at hw;exact hw
 refine BT (by decide) ?_
 refine Hg rfl ?_
 rw[Ac,Ae p1 rfl rfl]
 refine sG hc IH hf hg (by omega) (by omega) (by omega) (by omega) fx2.2.1 hv h1 (fun i t hi g=>M6 hc hv hi (.inl ⟨rfl,rfl⟩) g) fun t S3 g3 fx3=>?_
 exact KX hS (fx2.trans fx3) (by omega) rfl ((fx3.2.2 S1.n (by omega) (by omega)).trans o2) g3
theorem lW{f:Fo}(hf:Pu f)(hw:Fo.wt (A3 9 f)≤n)(hb:n≤1000000000000000)(h1:∃ k:Nat,(k:Int)∈nx (Au c) s∧bit (A0 c f) k=true∧bit (A0 c GL) k=true):Ad Pg 31 [.p id 0 0,(A3 9 f).av,aI s] S (VC c id m S (A3 9 f) s):=by
 refine EU hS (DG ?_)
 dsimp only[Xr,Fp,Fi,Lf,Lt,Lc]
 rw[Fo.av,Fo.AD]
 have hid:=hS.hid
 have hm:=hS.hm
 refine Ai rfl fun S1 k1 n1 o1=>?_
 refine Ai rfl fun S2 k2 n2 o2=>?_
 have fx2:Fx c id m S S2:=Fx.AR hS (k1.trans k2)
 have p1:=(Kg k2 o1)
 rw[Ac,Ae p1 rfl rfl]
 have hw2:4+f.wt≤n:=by rw[Gj 9 f (by decide)]at hw;exact hw
 refine BT (by decide) ?_
 refine BT (by decide) ?_
 refine Hg rfl ?_
 rw[Ac,Ae p1 rfl rfl,KT,Ca (Fo.Aj _)]
 refine AaJ hc IH (by omega) hf (by omega) (by omega) fx2.2.1 hv h1 fun t S3 g3 fx3=>?_
 exact KX hS (fx2.trans fx3) (by omega) rfl ((fx3.2.2 S1.n (by omega) (by omega)).trans o2) g3
theorem mA{f:Fo}(hf:Pu f)(hw:Fo.wt (A3 11 f)≤n)(hb:n≤1000000000000000)(h1:Rc (Au c) (A0 c IA) (Bm (A0 c f) (A0 c GL)) s):Ad Pg 31 [.p id 0 0,(A3 11 f).av,aI s] S (VC c id m S (A3 11 f) s):=by
 refine EU hS (DG ?_)
 dsimp only[Xr,Fp,Fi,Lf,Lt,Lc]
 rw[Fo.av,Fo.AD]
 have hid:=hS.hid
 have hm:=hS.hm
 refine Ai rfl fun S1 k1 n1 o1=>?_
 refine Ai rfl fun S2 k2 n2 o2=>?_
 have fx2:Fx c id m S S2:=Fx.AR hS (k1.trans k2)
 have p1:=(Kg k2 o1)
 rw[Ac,Ae p1 rfl rfl]
 have hw2:4+f.wt≤n:=by rw[Gj 11 f (by decide)]at hw;exact hw
 refine BT (by decide) ?_
 refine BT (by decide) ?_
 refine BT (by decide) ?_
 refine Hg rfl ?_
 refine⟨_,fun U hU=>Af Vp ⟨rfl,rfl⟩,?_⟩
 refine⟨_,fun U hU=>by rw[Ac];exact⟨rfl,rfl⟩,?_⟩
 refine⟨_,fun U hU=>by rw[Ae (Kg hU p1) rfl rfl];exact⟨rfl,rfl⟩,?_⟩
 refine⟨_,fun U hU=>by rw[KT];exact⟨rfl,rfl⟩,?_⟩
 refine⟨_,fun U hU=>by rw[Ca (Fo.Aj _)];exact⟨rfl,rfl⟩,?_⟩
 refine sF hc IH (by omega) AbE hf (.inr ⟨rfl,rfl⟩) (by rw[Se];omega) (by omega) (by rw[Se];decide) (by omega) fx2.2.1 hv h1 fun t S3 g3 fx3=>?_
 exact KX hS (fx2.trans fx3) (by omega) rfl ((fx3.2.2 S1.n (by omega) (by omega)).trans o2) g3
theorem lX{f g:Fo}(hf:Pu f)(hg:Pu g)(hw:Fo.wt (A7 15 f g)≤n)(hb:n≤1000000000000000)(h1:Rc (Au c) (A0 c f) (Bm (A0 c g) (A0 c GL)) s):Ad Pg 31 [.p id 0 0,(A7 15 f g).av,aI s] S (VC c id m S (A7 15 f g) s):=by
 refine EU hS (DG ?_)
 dsimp only[Xr,Fp,Fi,Lf,Lt,Lc]
 rw[Fo.av,Fo.AD]
 have hid:=hS.hid
 have hm:=hS.hm
 refine Ai rfl fun S1 k1 n1 o1=>?_
 refine Ai rfl fun S2 k2 n2 o2=>?_
 have fx2:Fx c id m S S2:=Fx.AR hS (k1.trans k2)
 have p1:=(Kg k2 o1)
 rw[Ac,Ae p1 rfl rfl]
 have hw2:4+(f.wt+g.wt)≤n:=by rw[FB 15 f g (by decide)]at hw;exact hw
 refine BT (by decide) ?_
 refine BT (by decide) ?_
 refine BT (by decide) ?_
 refine BT (by decide) ?_
 refine Hg rfl ?_
 refine⟨_,fun U hU=>by rw[Ac];exact⟨rfl,rfl⟩,?_⟩
 refine⟨_,fun U hU=>by rw[Ae (Kg hU p1) rfl rfl];exact⟨rfl,rfl⟩,?_⟩
 refine⟨_,fun U hU=>by rw[KT];exact⟨rfl,rfl⟩,?_⟩
 refine⟨_,fun U hU=>by rw[Ca (Fo.Aj _)];exact⟨rfl,rfl⟩,?_⟩
 refine⟨_,fun U hU=>by rw[Ac];exact⟨rfl,rfl⟩,?_⟩
 refine⟨_,fun U hU=>by rw[Ae (Kg hU p1) rfl rfl];exact⟨rfl,rfl⟩,?_⟩
 refine⟨_,fun U hU=>by rw[Rq];exact⟨rfl,rfl⟩,?_⟩
 refine⟨_,fun U hU=>by rw[Ca (Fo.Aj _)];exact⟨rfl,rfl⟩,?_⟩
 refine sF hc IH (by omega) hf hg (.inl rfl) (by omega) (by omega) (by omega) (by omega) fx2.2.1 hv h1 fun t S3 g3 fx3=>?_
 exact KX hS (fx2.trans fx3) (by omega) rfl ((fx3.2.2 S1.n (by omega) (by omega)).trans o2) g3
theorem lY{f g:Fo}(hf:Pu f)(hg:Pu g)(hw:Fo.wt (A7 17 f g)≤n)(hb:n≤1000000000000000)(h1:bit (A0 c (A3 13 g)) s=true∨bit (A0 c (A7 15 g (A7 5 f g))) s=true):Ad Pg 31 [.p id 0 0,(A7 17 f g).av,aI s] S (VC c id m S (A7 17 f g) s):=by
 refine EU hS (DG ?_)
 dsimp only[Xr,Fp,Fi,Lf,Lt,Lc]
 rw[Fo.av,Fo.AD]
 have hid:=hS.hid
 have hm:=hS.hm
 refine Ai rfl fun S1 k1 n1 o1=>?_
 refine Ai rfl fun S2 k2 n2 o2=>?_
 have fx2:Fx c id m S S2:=Fx.AR hS (k1.trans k2)
 have p1:=(Kg k2 o1)
 rw[Ac,Ae p1 rfl rfl]
 have hw2:6+(f.wt+g.wt)*2≤n:=by rw[zV]at hw;exact hw
 have e1:(A3 13 g).wt=1+g.wt:=Gj 13 g (by decide)
 have e2:(A7 15 g (A7 5 f g)).wt=4+(g.wt+(1+(f.wt+g.wt))):=by rw[FB 15 _ _ (by decide),FB 5 _ _ (by decide)];rfl
 refine BT (by decide) ?_
 refine BT (by decide) ?_
 refine BT (by decide) ?_
 refine BT (by decide) ?_
 refine BT (by decide) ?_
 refine Hg rfl ?_
 refine⟨_,fun U hU=>by rw[Ac];exact⟨rfl,rfl⟩,?_⟩
 refine⟨_,fun U hU=>by rw[Ae (Kg hU p1) rfl rfl];exact⟨rfl,rfl⟩,?_⟩
 refine⟨_,fun U hU=>by rw[KT];exact⟨rfl,rfl⟩,?_⟩
 refine⟨_,fun U hU=>by rw[Ca (Fo.Aj _)];exact⟨rfl,rfl⟩,?_⟩
 refine⟨_,fun U hU=>by rw[Ac];exact⟨rfl,rfl⟩,?_⟩
 refine⟨_,fun U hU=>by rw[Ae (Kg hU p1) rfl rfl];exact⟨rfl,rfl⟩,?_⟩
 refine⟨_,fun U hU=>by rw[Rq];exact⟨rfl,rfl⟩,?_⟩
 refine⟨_,fun U hU=>by rw[Ca (Fo.Aj _)];exact⟨rfl,rfl⟩,?_⟩
 refine AbQ fun ia ib T2 k2' hi hi2 hj hj2 hij oi oj=>?_
 have q1:=(k2'.2 S.n (by omega)).trans p1
 have lT:=k2'.1
 refine AG (id:=ia) (cs':=f.row) oi (Fo.Aj f) rfl fun T3 n3 o3 f3=>?_
 have r1:=(f3 S.n (by omega)).trans q1
 refine⟨fun U hU=>by rw[Ca (Fo.Aj _)];exact⟨rfl,rfl⟩,fun U hU=>by rw[Rq];exact⟨rfl,rfl⟩,fun U hU=>by rw[Ae (Kg hU r1) rfl rfl];exact⟨rfl,rfl⟩,fun U hU=>by rw[Ac];exact⟨rfl,rfl⟩,?_⟩
 refine AG (id:=ib) (cs':=g.row) ((f3 _ (by omega)).trans oj) (Fo.Aj g) rfl fun T4 n4 o4 f4=>?_
 have oa:=(f4 ia (by omega)).trans o3
 have fx4:Fx c id m S T4:=((fx2.trans (Fx.AR fx2.2.1 k2')).st (x:=ia) (by omega) n3 f3 hS).st (x:=ib) (by omega) n4 f4 hS
 refine⟨_,fun U hU=>by show AB 4 (.p ib 0 0) U _;rw[An (n:=4) (Kg hU o4) (Fo.Aj _)];exact⟨rfl,rfl⟩,?_⟩
 refine⟨.l [g.row],fun U hU=>G7 (Fo.Aj _) ⟨rfl,rfl⟩,?_⟩
 refine⟨_,fun U hU=>Af (Ou 13 [g]) ⟨rfl,rfl⟩,?_⟩
 refine⟨_,fun U hU=>by show AB 4 (.p ib 0 0) U _;rw[An (n:=4) (Kg hU o4) (Fo.Aj _)];exact⟨rfl,rfl⟩,?_⟩
 refine⟨_,fun U hU=>by show AB 4 (.p ia 0 0) U _;rw[An (n:=4) (Kg hU oa) (Fo.Aj _)];exact⟨rfl,rfl⟩,?_⟩
 refine⟨_,fun U hU=>by show AB 4 (.p ib 0 0) U _;rw[An (n:=4) (Kg hU o4) (Fo.Aj _)];exact⟨rfl,rfl⟩,?_⟩
 refine⟨.l [f.row,g.row],fun U hU=>E1 (Fo.Aj _) (Fo.Aj _) ⟨rfl,rfl⟩,?_⟩
 refine⟨_,fun U hU=>Af (Ou 5 [f,g]) ⟨rfl,rfl⟩,?_⟩
 refine⟨.l [g.row,(A7 5 f g).row],fun U hU=>E1 (Fo.Aj _) (Fo.Aj _) ⟨rfl,rfl⟩,?_⟩
 refine⟨_,fun U hU=>Af (Ou 15 [g,A7 5 f g]) ⟨rfl,rfl⟩,?_⟩
 refine⟨.l [(A3 13 g).row,(A7 15 g (A7 5 f g)).row],fun U hU=>E1 (Fo.Aj _) (Fo.Aj _) ⟨rfl,rfl⟩,?_⟩
 refine sG hc IH (g0:=A3 13 g) (g1:=A7 15 g (A7 5 f g)) (.o _ _ (by decide) hg) (.t _ _ _ (by decide) hg (.t _ _ _ (by decide) hf hg)) (by omega) (by omega) (by omega) (by omega) fx4.2.1 hv h1 (fun i t hi g=>M6 hc hv hi (.inr ⟨rfl,rfl⟩) g) fun t S5 g5 fx5=>?_
 exact KX hS (fx4.trans fx5) (by omega) rfl ((fx5.2.2 S1.n (by omega) (by omega)).trans ((f4 S1.n (by omega)).trans ((f3 S1.n (by omega)).trans ((k2'.2 S1.n (by omega)).trans o2)))) g5
theorem lZ{f:Fo}(hf:Pu f)(hw:Fo.wt (A3 13 f)≤n)(hb:n≤1000000000000000)(h0:bit (A0 c (A3 13 f)) s=true):Ad Pg 31 [.p id 0 0,(A3 13 f).av,aI s] S (VC c id m S (A3 13 f) s):=by
 refine EU hS (DG ?_)
 dsimp only[Xr,Fp,Fi,Lf,Lt,Lc]
 rw[Fo.av,Fo.AD]
 have hid:=hS.hid
 have hm:=hS.hm
 refine Ai rfl fun S1 k1 n1 o1=>?_
 refine Ai rfl fun S2 k2 n2 o2=>?_
 have fx2:Fx c id m S S2:=Fx.AR hS (k1.trans k2)
 have p1:=(Kg k2 o1)
 rw[Ac,Ae p1 rfl rfl]
 have hw2:1+f.wt≤n:=by rw[Gj 13 f (by decide)]at hw;exact hw
 obtain⟨hex,hsub⟩:=wG hc hf h0
 have hpf:Pu (A3 13 f):=.o _ _ (by decide) hf
 refine BT (by decide) ?_
 refine BT (by decide) ?_
 refine BT (by decide) ?_
 refine BT (by decide) ?_
 refine BT (by decide) ?_
 refine BT (by decide) ?_
 refine Hg rfl ?_
 rw[An (n:=4) p1 rfl]
 refine Mo hc fx2.2.1 hpf (by omega) fun S3 fx3=>?_
 have l3:=fx3.1
 have q1:=(fx3.2.2 S.n (by omega) (by omega)).trans p1
 have q2:=(fx3.2.2 S1.n (by omega) (by omega)).trans o2
 refine AaI hc fx3.2.1.o fx3.2.1.hid (FP hpf) h0 hex fun r at_ lp hl=>?_
 rw[Co,Cn,Ac,Ae q1 rfl rfl,KT,Ca (Fo.Aj _)]
 refine aQ IH hf (by omega) (by omega) fx3.2.1 (r:=r) (by omega) (fun i hi=>hsub _ (lp.by_ i hi)) fun x ts S4 wx gx fx4=>?_
 have l4:=fx4.1
 have hrp:=Ai3.2 lp.pos
 have htl:=gx.X6.1
 obtain⟨dx,hxx,_,_,_⟩:=wx.ix (i:=0) (by rw[AhR];omega)
 subst hxx
 rw[A6 (cs:=[aI 6,aI s,aI at_,aL aI (sI r),.s dx 0 (ts.map Tn.row).length]) rfl]
 refine D4 hS (fx2.trans (fx3.trans fx4)) (by omega) rfl ((fx4.2.2 S1.n (by omega) (by omega)).trans q2) (WX hc hv lp (by omega) gx) fun T' n' f'=>⟨D7 _ _ _,?_⟩
 exact D9 (fun r hr u hu=>by obtain⟨f,_,rfl⟩:=Ai5.1 hr;exact Tn.tree f u hu) (wx.same (S':=T') (by omega) fun q hq hq2=>f' q (by omega)) (by omega)
theorem WZ :Ad Pg 31 [.p id 0 0,(IA).av,aI s] S (VC c id m S (IA) s):=by
 refine EU hS (DG ?_)
 dsimp only[Xr,Fp,Fi,Lf,Lt,Lc]
 rw[Fo.av,Fo.AD]
 have hid:=hS.hid
 have hm:=hS.hm
 refine Ai rfl fun S1 k1 n1 o1=>?_
 refine Ai rfl fun S2 k2 n2 o2=>?_
 have fx2:Fx c id m S S2:=Fx.AR hS (k1.trans k2)
 have p1:=(Kg k2 o1)
 rw[Ac,Ae p1 rfl rfl]
 refine BT (by decide) ?_
 refine BT (by decide) ?_
 refine BT (by decide) ?_
 refine BT (by decide) ?_
 refine BT (by decide) ?_
 refine BT (by decide) ?_
 refine BT (by decide) ?_
 refine Hg rfl ?_
 rw[Ag,Bf,A6 (cs:=[aI 1,aI s,aI 0,.nl,.nl]) rfl]
 exact D4 hS fx2 (by omega) rfl o2 (KV hc hv (.inl rfl)) fun T' _ _=>⟨.nl,.nl⟩
theorem W0{l:Int}(hl:DM c s l=true):Ad Pg 31 [.p id 0 0,(Fo.mk 3 ⟨#[]⟩ l []).av,aI s] S (VC c id m S (Fo.mk 3 ⟨#[]⟩ l []) s):=by
 refine EU hS (DG ?_)
 dsimp only[Xr,Fp,Fi,Lf,Lt,Lc]
 rw[Fo.av,Fo.AD]
 have hid:=hS.hid
 have hm:=hS.hm
 refine Ai rfl fun S1 k1 n1 o1=>?_
 refine Ai rfl fun S2 k2 n2 o2=>?_
 have fx2:Fx c id m S S2:=Fx.AR hS (k1.trans k2)
 have p1:=(Kg k2 o1)
 rw[Ac,Ae p1 rfl rfl]
 refine BT (by decide) ?_
 refine BT (by decide) ?_
 refine BT (by decide) ?_
 refine BT (by decide) ?_
 refine BT (by decide) ?_
 refine BT (by decide) ?_
 refine BT (by decide) ?_
 refine BT (by decide) ?_
 refine Hg rfl ?_
 rw[Ag,Bf,A6 (cs:=[aI 1,aI s,aI 0,.nl,.nl]) rfl]
 exact D4 hS fx2 (by omega) rfl o2 (KV hc hv (.inr (.inl ⟨l,rfl,hl⟩))) fun T' _ _=>⟨.nl,.nl⟩
theorem aG{l:Int}(hl:DM c s l=false):Ad Pg 31 [.p id 0 0,(Fo.mk 4 ⟨#[]⟩ 0 [.mk 3 ⟨#[]⟩ l []]).av,aI s] S (VC c id m S (Fo.mk 4 ⟨#[]⟩ 0 [.mk 3 ⟨#[]⟩ l []]) s):=by
 refine EU hS (DG ?_)
 dsimp only[Xr,Fp,Fi,Lf,Lt,Lc]
 rw[Fo.av,Fo.AD]
 have hid:=hS.hid
 have hm:=hS.hm
 refine Ai rfl fun S1 k1 n1 o1=>?_
 refine Ai rfl fun S2 k2 n2 o2=>?_
 have fx2:Fx c id m S S2:=Fx.AR hS (k1.trans k2)
 have p1:=(Kg k2 o1)
 rw[Ac,Ae p1 rfl rfl]
 refine BT (by decide) ?_
 refine BT (by decide) ?_
 refine BT (by decide) ?_
 refine BT (by decide) ?_
 refine BT (by decide) ?_
 refine BT (by decide) ?_
 refine BT (by decide) ?_
 refine BT (by decide) ?_
 refine BT (by decide) ?_
 refine Hg rfl ?_
 rw[A6 (cs:=[aI 1,aI s,aI 0,.nl,.nl]) rfl]
 exact D4 hS fx2 (by omega) rfl o2 (KV hc hv (.inr (.inr ⟨l,rfl,hl⟩))) fun T' _ _=>⟨.nl,.nl⟩
theorem M7{k:Int}(hk:k=10∨k=12∨k=14∨k=16∨k=18)(ks:List Fo):Ad Pg 31 [.p id 0 0,(Fo.mk k ⟨#[]⟩ 0 ks).av,aI s] S (VC c id m S (Fo.mk k ⟨#[]⟩ 0 ks) s):=by
 refine EU hS (DG ?_)
 dsimp only[Xr,Fp,Fi,Lf,Lt,Lc]
 rw[Fo.av,Fo.AD]
 have hid:=hS.hid
 have hm:=hS.hm
 refine Ai rfl fun S1 k1 n1 o1=>?_
 refine Ai rfl fun S2 k2 n2 o2=>?_
 have fx2:Fx c id m S S2:=Fx.AR hS (k1.trans k2)
 have p1:=(Kg k2 o1)
 rw[Ac,Ae p1 rfl rfl]
 refine BT (by omega) ?_
 refine BT (by omega) ?_
 refine BT (by omega) ?_
 refine BT (by omega) ?_
 refine BT (by omega) ?_
 refine BT (by omega) ?_
 refine BT (by omega) ?_
 refine BT (by omega) ?_
 refine BT (by omega) ?_
 refine BT (by omega) ?_
 rw[A6 (cs:=[aI 7,aI s,aI 0,.nl,.nl]) rfl]
 exact D4 hS fx2 (by omega) rfl o2 (TG hc hv hk _ _ _) fun T' _ _=>⟨.nl,.nl⟩
end
theorem aJ{c:Ci}(hc:Wc c):∀ n,n≤1000000000000000→vU c (n+1):=by
 intro n
 induction n with
 |zero =>
  intro _ f hf hw _ s h S id m hS
  exfalso
  cases hf with
  |c k hk=>have:=DW k ⟨#[]⟩ 0 [];omega
  |a l h0 hl=>have:=DW 3 ⟨#[]⟩ l [];omega
  |n l h0 hl=>have:=DW 4 ⟨#[]⟩ 0 [.mk 3 ⟨#[]⟩ l []];omega
  |o k f hk hf=>have:=DW k ⟨#[]⟩ 0 [f];omega
  |t k f g hk hf hg=>have:=DW k ⟨#[]⟩ 0 [f,g];omega
 |succ n ih =>
  intro hn f hf hw hw2 s h S id m hS
  have IH:vU c (n+1):=fun{f} hf hw hw2 {s} h {S id m} hS=>ih (by omega) hf hw hw2 h hS
  have hv:=XT hf h
  cases hf with
  |c k hk =>
   rcases hk with rfl|rfl
   ·exact absurd h (fun h=>AaG h)
   ·exact WZ hc IH hS hv
  |a l h0 hl=>exact W0 hc IH hS hv (AaF h)
  |n l h0 hl=>exact aG hc IH hS hv (AaE h)
  |o k f hk hf =>
   have:k=9∨k=11∨k=13∨(k=10∨k=12∨k=14∨k=16∨k=18):=by omega
   rcases this with rfl|rfl|rfl|hh
   ·exact lW hc IH hS hv hf (Nat.le_of_lt_succ hw) (by omega) (AaC hc h)
   ·exact mA hc IH hS hv hf (Nat.le_of_lt_succ hw) (by omega) (wH hc h)
   ·exact lZ hc IH hS hv hf (Nat.le_of_lt_succ hw) (by omega) h
   ·exact M7 hc IH hS hv hh _
  |t k f g hk hf hg =>
   have:k=5∨k=6∨k=15∨k=17∨(k=10∨k=12∨k=14∨k=16∨k=18):=by omega
   rcases this with rfl|rfl|rfl|rfl|hh
   ·exact aH hc IH hS hv hf hg (Nat.le_of_lt_succ hw) (by omega) (sD h).1 (sD h).2
   ·exact lV hc IH hS hv hf hg (Nat.le_of_lt_succ hw) (by omega) (AaD hf hg h)
   ·exact lX hc IH hS hv hf hg (Nat.le_of_lt_succ hw) (by omega) (wF hc h)
   ·exact lY hc IH hS hv hf hg (Nat.le_of_lt_succ hw) (by omega) (wE hf hg h)
   ·exact M7 hc IH hS hv hh _
set_option linter.unusedSectionVars false
theorem AfT:∀(f:Fo),f.ok→BF Pg 40 [f.av] (aB f.C0):=by
 intro f
 induction f using Fo.ind with
 |h k nm l ks ih =>
  intro hok S
  cases hok with
  |mk _ _ _ _ o1 o2 o3 o4 o5 =>
  refine Ad.Bu (pA ?_)
  dsimp only[m40,N7,Fi,Lf]
  rw[Fo.Da,Fo.av,Fo.AD]
  refine Ai rfl fun S1 k1 n1 p1=>?_
  rw[Ac,Ae p1 rfl rfl]
  have no:∀(h:k=10∨k=12∨k=14∨k=16∨k=18),(kV k && ks.all Fo.C0)=false:=fun h=>by
   rw[kV,decide_eq_false (fun hn=>hn h)];rfl
  have no2:∀{j:Int} {A:AV→Aa→Prop} {B:Aa→Prop} {T:Aa},(k=j→A (aB true) T)→(¬ k=j→B T)→bin .eql 0 (.v (.int .i64 k)) (.v (.int .i64 j)) T (fun v S=>KC v fun b=>gd b (A v S) (B S)):=fun{j A B T} h1 h2=>by
   by_cases e:k=j
   ·exact Hg e (h1 e)
   ·exact BT e (h2 e)
  refine no2 (fun e=>?_) fun e1=>no2 (fun e=>?_) fun e2=>no2 (fun e=>?_) fun e3=>no2 (fun e=>?_) fun e4=>no2 (fun e=>?_) fun e5=>?_
  ·rw[Ag,Bf];exact⟨by rw[no (by omega)],k1⟩
  ·rw[Ag,Bf];exact⟨by rw[no (by omega)],k1⟩
  ·rw[Ag,Bf];exact⟨by rw[no (by omega)],k1⟩
  ·rw[Ag,Bf];exact⟨by rw[no (by omega)],k1⟩
  ·exact⟨by rw[no (by omega)],k1⟩
  have hop:kV k=true:=decide_eq_true (by omega)
  rw[hop,AhQ]
  refine ZE (fun z T=>T=S1∧∃ i:Nat,z=aI i∧i≤ks.length∧∀ j (hj:j<ks.length),j<i→ks[j].C0=true) (fun z _=>ks.length - ((Aw z).getD 0).toNat) ⟨rfl,0,rfl,AhS _,fun j _ hj=>absurd hj (AhY _)⟩ ?_
  dsimp only[BS]
  rintro _ T ⟨rfl,i,rfl,hi,hall⟩ KE hKE
  dsimp only[uF,Fi,Lf]
  rw[Ac,Ae p1 rfl rfl,BJ,As,Ag]
  refine Al (fun hlt=>?_) (fun hge=>?_)
  ·have hlt:i<ks.length:=by have:=dT hlt;omega
   have hm:=AhP hlt
   rw[Ac,Ae p1 rfl rfl,Cg hlt,Ca (Fo.Aj _)]
   refine Af (ih _ hm (o5 _ hm)) ?_
   rw[AJ,Ag]
   refine Al (fun h=>?_) (fun h=>?_)
   ·refine⟨?_,k1⟩
    have:ks.all Fo.C0=false:=AiN.2 ⟨_,hm,by simpa using h⟩
    rw[this]
   ·rw[Ar (by omega) (by omega)]
    refine hKE _ _ ⟨rfl,i+1,rfl,hlt,fun j hj hji=>?_⟩ (by simp[Aw];omega)
    by_cases e:j=i
    ·subst e;simpa using h
    ·exact hall j hj (by omega)
  ·have hge:i=ks.length:=by have:=dF hge;omega
   subst hge
   refine⟨?_,k1⟩
   have:ks.all Fo.C0=true:=AhW.2 fun f hf=>by
    obtain⟨j,hj,rfl⟩:=AiI hf
    exact hall j hj hj
   rw[this]
def hasB (c:Ci) (f:Fo) (st:Int):Bool × Int:=if(BZ c f).2=0 then if 0≤st∧st<(BZ c f).1.length then(bit (BZ c f).1 st.toNat,0)else(false,1)else(false,(BZ c f).2)
theorem Ag2{c:Ci}(hc:c.ok){f:Fo}(hf:f.ok)(st:Int):BF Pg 21 [c.av,f.av,aI st] (.t [aB (hasB c f st).1,aI (hasB c f st).2]):=by
 intro S
 refine Ad.tree (pS ?_)
 dsimp only[m21,Fi]
 refine Ai rfl fun S1 k1 n1 o1=>?_
 refine Ai (Fo.Aj f) fun S2 k2 n2 o2=>?_
 have kk:=k1.trans k2
 have fin:∀(b:Bool) (e:Int),hasB c f st=(b,e)→(∃ r,Bh.ret (.t [aB b,aI e]) = .ret r∧Am S S2∧Cv (S2.BA (AL S.n)) S.n r (.t [aB (hasB c f st).1,aI (hasB c f st).2])):=fun b e h=>⟨_,rfl,kk,by rw[h];exact DU (.v _) (.v _)⟩
 rw[An (n:=8) (Kg k2 o1) rfl,An (n:=4) o2 (Fo.Aj f)]
 refine Af (AfU hc hf) ?_
 rw[Co,Cn,Bl,Ag]
 refine Al (fun h=>?_) (fun h=>?_)
 ·exact fin _ _ (by rw[hasB,if_neg (by simpa using h)])
 have h0:(BZ c f).2=0:=by simpa using h
 rw[As,Ag]
 refine Al (fun h=>?_) (fun h=>?_)
 ·have:=dT h
  exact fin _ _ (by rw[hasB,if_pos h0,if_neg (by omega)])
 have h1:=dF h
 rw[Ax,BH,Ag]
 refine Al (fun h=>?_) (fun h=>?_)
 ·have:=dT h
  exact fin _ _ (by rw[hasB,if_pos h0,if_neg (by omega)])
 have h2:=dF h
 obtain⟨j,rfl⟩:=AhX (show 0≤st by omega)
 have hj:j<(BZ c f).1.length:=by omega
 rw[AM hj,A1]
 exact fin _ _ (by rw[hasB,if_pos h0,if_pos ⟨by omega,by omega⟩,Ai1,Bc hj])
theorem AfO(k:Int)(f:Fo):BF Pg 7 [aI k,f.av] (A3 k f).av:=by
 intro S
 refine Ad.tree (xY ?_)
 unfold m7
 refine Ai (Fo.Aj f) fun S1 k1 n1 o1=>?_
 refine Ai rfl fun S2 k2 n2 o2=>?_
 rw[An (n:=4) (Kg k2 o1) (Fo.Aj f)]
 refine G7 (r:=f.row) (Fo.Aj _) ?_
 rw[A6 (cs:=[aI k,.v (.string ByteArray.empty),aI 0,Du [f]]) rfl]
 refine AG (cs':=[aI k,.v (.string ByteArray.empty),aI 0,Du [f]]) o2 rfl rfl fun S3 n3 o3 f3=>?_
 rw[An (n:=4) o3 rfl]
 refine⟨_,rfl,(k1.trans k2).st (by omega) n3 f3,?_⟩
 have:=Fo.tr (A3 k f) (S3.BA (AL S.n)) S.n
 rw[Fo.av,Fo.AD]at this ⊢
 exact this
theorem Ag1:BF Pg 22 [(Tn.mk 0 0 0 [] []).av] (aB true):=by
 intro S
 refine Ad.Bu (pR ?_)
 dsimp only[m22,Fi,Lf]
 rw[Tn.av,Tn.AD]
 refine Ai rfl fun S1 k1 n1 o1=>?_
 rw[Ac,Ae o1 rfl rfl,AA,Ag,Bb (by rfl),Ac,Ae o1 rfl rfl,AA,Ag,Bb (by rfl),Ac,Ae o1 rfl rfl,AA,Ag,Bb (by rfl),Ac,Ae o1 rfl rfl,Ax,AA,Ag,Bb (by rfl),Ac,Ae o1 rfl rfl,FV,AA]
 exact⟨rfl,k1⟩
theorem Ag0{f:Fo}(hf:f.ok)(hm:f.BQ 60=true):BF Pg 23 [f.av] (aB (f.push false).C0):=by
 intro S
 refine Ad.Bu (pQ ?_)
 unfold m23
 have cp:=AfS hf
 rw[show La f=f.push false by rw[La,if_pos hm]]at cp
 refine Ai (Fo.Aj f) fun S1 k1 n1 o1=>?_
 rw[An (n:=4) o1 (Fo.Aj f)]
 refine Af cp ?_
 exact Af (AfT _ (ON f hf hm false).ok) ⟨rfl,k1⟩
section
set_option maxRecDepth 100000
def m13(x0 x1 x2:AV)(S:Aa)(Q:Aq):Prop:=
 Az 29 8 x0 S fun a S=>Az 32 4 x1 S fun c S=>Az 51 5 x2 S fun d S=>AB 8 a S fun e S=>AB 4 c S fun f S=>Ah Pg 33 [e,f] S Q fun g S=>un .not g S fun h S=>Fi h (Q (.ret (.t Jg)) S) (Lf a 0 S fun i S=>Lf a 1 S fun k S=>AF k S fun l S=>bin .add 0 i l S fun m S=>bin .gtr 0 m (aI 60) S fun n S=>Fi n (Q (.ret (.t Jg)) S) ((fun S0:Aa=>Lq S0 (AB 8 a) fun o=>Lq S0 (AB 4 c) fun p=>Ld S0 35 [p,.v (.bool false)] fun q=>Lq S0 (AB 5 d) fun r=>Ld S0 34 [o,q,r] fun s=>Lq S0 (AZ s 0) fun u=>Lq S0 (AZ s 1) fun w=>un .not w S fun x S=>Fi x (Q (.ret (.t Jg)) S) (Q (.ret (.t [u,.v (.bool true)])) S)) S))
theorem pZ{x0 x1 x2:AV}{S:Aa}{Q:Aq}(h:m13 x0 x1 x2 S Q):Ad Pg 13 [x0,x1,x2] S Q:=
 Bj (n:=34) [[]] Tryz.func13 (by kernel_rfl) (Eq.mpr (by kernel_rfl) h)
abbrev Eo(a:AV)(S:Aa)(c d:AV)(Q:Aq):Prop:=Lf a 4 S fun e S=>AS 51 5 e (aI 0) S fun f S=>Lf f 1 S fun g S=>(fun S0:Aa=>Lq S0 (AB 8 c) fun h=>Lq S0 (shift d 3) fun i=>Lq S0 (Ay i) fun k=>Lq S0 (AS 32 4 k (aI 0)) fun l=>Lq S0 (AB 4 l) fun m=>Ld S0 77 [] fun n=>Ld S0 76 [n] fun o=>Lq S0 (AU 32 4 2 Cy [(0,m),(1,o)]) fun p=>Lq S0 (AU 3 1 2 [aI 0] [(0,g),(1,g)]) fun q=>Lq S0 (shift a 4) fun r=>Lq S0 (Ay r) fun s=>Ld S0 74 [h,p,q,s] fun u=>Lq S0 (AZ u 0) fun v=>Lq S0 (AZ u 1) fun w=>Q (.ret (.t [v,w])) S) S
abbrev EN(S0:Aa)(v1 v3:AV)(S:Aa)(Q:Aq)(v2:AV):Prop:=Lq S0 (AB 8 v1) fun q224=>Lq S0 (shift v3 1) fun q226=>Lq S0 (Ay q226) fun q228=>Lq S0 (shift v3 4) fun q230=>Lq S0 (Ay q230) fun q232=>Lq S0 (AS 51 5 q232 (aI 0)) fun q234=>Lq S0 (shift q234 1) fun q236=>Lq S0 (Ay q236) fun q238=>Ld S0 75 [q224,q228,q238] fun q240=>Lq S0 (un .not q240) fun q242=>∃ q244:AV,(q242=q244∧S=S0)∧Fi q244 (Q (.ret (.t [aI 0,.v (.bool false)])) S) (Eo v3 S v1 v2 Q)
abbrev En(S0:Aa)(v3:AV)(S:Aa)(Q:Aq)(v1 v2:AV):Prop:=Lq S0 (shift v3 4) fun q279=>Lq S0 (Ay q279) fun q281=>Lq S0 (AF q281) fun q283=>Lq S0 (bin .neq 0 q283 (aI 2)) fun q285=>∃ q287:AV,(q285=q287∧S=S0)∧Fi q287 (∃ q289:AV,((.v (.bool true))=q289∧S=S0)∧Fi q289 (Q (.ret (.t [aI 0,.v (.bool false)])) S) (Eo v3 S v1 v2 Q)) (EN S0 v1 v3 S Q v2)
abbrev Em(S:Aa)(S0:Aa)(Q:Aq)(v3 v1 v2:AV):Prop:=∃ q187:AV,((.v (.bool true))=q187∧S=S0)∧Fi q187 (∃ q189:AV,((.v (.bool true))=q189∧S=S0)∧Fi q189 (Q (.ret (.t [aI 0,.v (.bool false)])) S) (Eo v3 S v1 v2 Q)) (EN S0 v1 v3 S Q v2)
abbrev EM(S0:Aa)(v1 v3 v2:AV)(S:Aa)(Q:Aq):Prop:=Lq S0 (AB 8 v1) fun q53=>Lq S0 (shift v3 1) fun q55=>Lq S0 (Ay q55) fun q57=>Lq S0 (shift v2 3) fun q59=>Lq S0 (Ay q59) fun q61=>Lq S0 (AS 32 4 q61 (aI 0)) fun q63=>Lq S0 (shift q63 2) fun q65=>Lq S0 (Ay q65) fun q67=>Ld S0 27 [q53,q57,q67] fun q69=>Lq S0 (un .not q69) fun q71=>∃ q73:AV,(q71=q73∧S=S0)∧Q (.ret (.t [aI 0,q73])) S
abbrev EL(S0:Aa)(v3:AV)(S:Aa)(Q:Aq)(v1 v2:AV):Prop:=Lq S0 (shift v3 3) fun q379=>Lq S0 (Ay q379) fun q381=>Lq S0 (AF q381) fun q383=>Lq S0 (bin .gtr 0 q383 (aI 0)) fun q385=>∃ q387:AV,(q385=q387∧S=S0)∧Fi q387 (Em S S0 Q v3 v1 v2) (En S0 v3 S Q v1 v2)
def UR(x0 x1 x2:AV)(S:Aa)(Q:Aq):Prop:=
 Az 29 8 x0 S fun a S=>Az 32 4 x1 S fun c S=>Az 51 5 x2 S fun d S=>AB 8 a S fun e S=>Lf d 1 S fun f S=>Ah Pg 72 [e,f] S Q fun g S=>un .not g S fun h S=>Fi h (Q (.ret (.t Jg)) S) (Lf d 1 S fun i S=>AU 3 1 1 [aI 0] [(0,i)] S fun k S=>Lf c 0 S fun l S=>bin .eql 0 l (aI 2) S fun m S=>Fi m (Lf d 0 S fun n S=>bin .eql 0 n (aI 1) S fun o S=>Fi o (AB 5 d S fun p S=>Ah Pg 73 [p] S Q fun q S=>Q (.ret (.t [aI 0,q])) S) (Q (.ret (.t Jg)) S)) (bin .eql 0 l (aI 3) S fun r S=>Fi r (Lf d 0 S fun s S=>bin .eql 0 s (aI 1) S fun u S=>Fi u (AB 5 d S fun w S=>Ah Pg 73 [w] S Q fun x S=>Fi x (AB 8 a S fun y S=>Lf d 1 S fun z S=>Lf c 2 S fun A S=>Ah Pg 27 [y,z,A] S Q fun B S=>Q (.ret (.t [aI 0,B])) S) (Q (.ret (.t Jg)) S)) (Q (.ret (.t Jg)) S)) (bin .eql 0 l (aI 4) S fun C S=>Fi C ((fun S0:Aa=>Lq S0 (shift d 0) fun D=>Lq S0 (Ay D) fun E=>Lq S0 (bin .eql 0 E (aI 1)) fun F=>Fi F (Lq S0 (AB 5 d) fun G=>Ld S0 73 [G] fun H=>∃ I:AV,(H=I∧S=S0)∧Fi I (EM S0 a d c S Q) (∃ J:AV,((.v (.bool false))=J∧S=S0)∧Q (.ret (.t [aI 0,J])) S)) (∃ K:AV,((.v (.bool false))=K∧S=S0)∧Fi K (EM S0 a d c S Q) (∃ L:AV,((.v (.bool false))=L∧S=S0)∧Q (.ret (.t [aI 0,L])) S))) S) (bin .eql 0 l (aI 5) S fun M S=>Fi M (Lf d 0 S fun N S=>bin .neq 0 N (aI 2) S fun O S=>Fi O (Q (.ret (.t Jg)) S) (Lf d 2 S fun P S=>bin .neq 0 P (aI 0) S fun R S=>Fi R (Q (.ret (.t Jg)) S) (Lf d 3 S fun T S=>AF T S fun U S=>bin .gtr 0 U (aI 0) S fun V S=>Fi V (Q (.ret (.t Jg)) S) (AB 8 a S fun W S=>Lf c 3 S fun X S=>Lf d 1 S fun Y S=>Lf d 1 S fun Z S=>AU 3 1 2 [aI 0] [(0,Y),(1,Z)] S fun a0 S=>Lf d 4 S fun a1 S=>Ah Pg 74 [W,X,a0,a1] S Q fun a2 S=>AZ a2 0 S fun a3 S=>AZ a2 1 S fun a4 S=>Q (.ret (.t [a3,a4])) S)))) (bin .eql 0 l (aI 6) S fun a5 S=>Fi a5 (Lf d 0 S fun a6 S=>bin .neq 0 a6 (aI 3) S fun a7 S=>Fi a7 (Q (.ret (.t Jg)) S) (Lf d 2 S fun a8 S=>bin .lss 0 a8 (aI 0) S fun a9 S=>Fi a9 (Q (.ret (.t Jg)) S) (Lf d 2 S fun b0 S=>bin .gtr 0 b0 (aI 1) S fun b1 S=>Fi b1 (Q (.ret (.t Jg)) S) (Lf d 3 S fun b2 S=>AF b2 S fun b3 S=>bin .gtr 0 b3 (aI 0) S fun b4 S=>Fi b4 (Q (.ret (.t Jg)) S) ((fun S0:Aa=>Lq S0 (AB 8 a) fun b5=>Lq S0 (shift c 3) fun b6=>Lq S0 (Ay b6) fun b7=>Lq S0 (shift d 2) fun b8=>Lq S0 (Ay b8) fun b9=>Lq S0 (shift d 2) fun c0=>Lq S0 (Ay c0) fun c1=>Lq S0 (bin .add 0 c1 (aI 1)) fun c2=>Lq S0 (Hi 32 4 b7 (some b9) (some c2) none) fun c3=>Lq S0 (shift d 4) fun c4=>Lq S0 (Ay c4) fun c5=>Ld S0 74 [b5,c3,k,c5] fun c6=>Lq S0 (AZ c6 0) fun c7=>Lq S0 (AZ c6 1) fun c8=>Q (.ret (.t [c7,c8])) S) S))))) (bin .eql 0 l (aI 9) S fun c9 S=>Fi c9 ((fun S0:Aa=>Lq S0 (shift d 0) fun d0=>Lq S0 (Ay d0) fun d1=>Lq S0 (bin .neq 0 d1 (aI 4)) fun d2=>Fi d2 (∃ d3:AV,((.v (.bool true))=d3∧S=S0)∧Fi d3 (∃ d4:AV,((.v (.bool true))=d4∧S=S0)∧Fi d4 (Em S S0 Q d a c) (En S0 d S Q a c)) (EL S0 d S Q a c)) (Lq S0 (shift d 2) fun d5=>Lq S0 (Ay d5) fun d6=>Lq S0 (bin .neq 0 d6 (aI 0)) fun d7=>∃ d8:AV,(d7=d8∧S=S0)∧Fi d8 (∃ d9:AV,((.v (.bool true))=d9∧S=S0)∧Fi d9 (Em S S0 Q d a c) (En S0 d S Q a c)) (EL S0 d S Q a c))) S) (bin .eql 0 l (aI 11) S fun e0 S=>Fi e0 ((fun S0:Aa=>Lq S0 (AB 8 a) fun e1=>Ld S0 77 [] fun e2=>Lq S0 (shift c 3) fun e3=>Lq S0 (Ay e3) fun e4=>Lq S0 (AS 32 4 e4 (aI 0)) fun e5=>Lq S0 (AB 4 e5) fun e6=>Ld S0 79 [e2,e6] fun e7=>Lq S0 (AB 5 d) fun e8=>Ld S0 78 [e1,e7,e8] fun e9=>Lq S0 (AZ e9 0) fun f0=>Lq S0 (AZ e9 1) fun f1=>Q (.ret (.t [f0,f1])) S) S) (bin .eql 0 l (aI 15) S fun f2 S=>Fi f2 (AB 8 a S fun f3 S=>AB 4 c S fun f4 S=>AB 5 d S fun f5 S=>Ah Pg 78 [f3,f4,f5] S Q fun f6 S=>AZ f6 0 S fun f7 S=>AZ f6 1 S fun f8 S=>Q (.ret (.t [f7,f8])) S) (bin .eql 0 l (aI 13) S fun f9 S=>Fi f9 (AB 8 a S fun g0 S=>AB 4 c S fun g1 S=>AB 5 d S fun g2 S=>Ah Pg 80 [g0,g1,g2] S Q fun g3 S=>AZ g3 0 S fun g4 S=>AZ g3 1 S fun g5 S=>Q (.ret (.t [g4,g5])) S) (bin .eql 0 l (aI 17) S fun g6 S=>Fi g6 (Lf d 0 S fun g7 S=>bin .neq 0 g7 (aI 3) S fun g8 S=>Fi g8 (Q (.ret (.t Jg)) S) (Lf d 2 S fun g9 S=>bin .lss 0 g9 (aI 0) S fun h0 S=>Fi h0 (Q (.ret (.t Jg)) S) (Lf d 2 S fun h1 S=>bin .gtr 0 h1 (aI 1) S fun h2 S=>Fi h2 (Q (.ret (.t Jg)) S) (Lf d 3 S fun h3 S=>AF h3 S fun h4 S=>bin .gtr 0 h4 (aI 0) S fun h5 S=>Fi h5 (Q (.ret (.t Jg)) S) ((fun S0:Aa=>Lq S0 (shift c 3) fun h6=>Lq S0 (Ay h6) fun h7=>Lq S0 (AS 32 4 h7 (aI 1)) fun h8=>Lq S0 (AB 4 h8) fun h9=>Ld S0 76 [h9] fun i0=>Lq S0 (shift c 3) fun i1=>Lq S0 (Ay i1) fun i2=>Lq S0 (AS 32 4 i2 (aI 1)) fun i3=>Lq S0 (AB 4 i3) fun i4=>Lq S0 (shift c 3) fun i5=>Lq S0 (Ay i5) fun i6=>Lq S0 (AS 32 4 i6 (aI 0)) fun i7=>Lq S0 (AB 4 i7) fun i8=>Lq S0 (shift c 3) fun i9=>Lq S0 (Ay i9) fun k0=>Lq S0 (AS 32 4 k0 (aI 1)) fun k1=>Lq S0 (AB 4 k1) fun k2=>Ld S0 81 [aI 5,i8,k2] fun k3=>Ld S0 79 [i4,k3] fun k4=>Lq S0 (AU 32 4 2 Cy [(0,i0),(1,k4)]) fun k5=>(fun S0:Aa=>Lq S0 (AB 8 a) fun k6=>Lq S0 (shift d 2) fun k7=>Lq S0 (Ay k7) fun k8=>Lq S0 (shift d 2) fun k9=>Lq S0 (Ay k9) fun l0=>Lq S0 (bin .add 0 l0 (aI 1)) fun l1=>Lq S0 (Hi 32 4 k5 (some k8) (some l1) none) fun l2=>Lq S0 (shift d 4) fun l3=>Lq S0 (Ay l3) fun l4=>Ld S0 74 [k6,l2,k,l4] fun l5=>Lq S0 (AZ l5 0) fun l6=>Lq S0 (AZ l5 1) fun l7=>Q (.ret (.t [l6,l7])) S) S) S))))) (bin .eql 0 l (aI 1) S fun l8 S=>Fi l8 (Q (.ret (.t Jg)) S) (Lf d 0 S fun l9 S=>bin .eql 0 l9 (aI 7) S fun aA S=>Fi aA (AB 5 d S fun aB S=>Ah Pg 73 [aB] S Q fun aC S=>Q (.ret (.t [aI 1,aC])) S) (Q (.ret (.t [aI 1,.v (.bool false)])) S)))))))))))))
theorem CX{x0 x1 x2:AV}{S:Aa}{Q:Aq}(h:UR x0 x1 x2 S Q):Ad Pg 34 [x0,x1,x2] S Q:=
 Bj (n:=281) [[]] Tryz.func34 (by kernel_rfl) (Eq.mpr (by kernel_rfl) h)
end
set_option linter.unusedSectionVars false
theorem Sa{e:Nat}{z1 z2 z3 z4:AV}{r r2:List AV}{S0:Aa}{P:AV→Prop}(hr:r.length=4)(hr2:r2.length=4)(k:P (.l [r,r2])):∃ q,(AU e 4 2 [z1,z2,z3,z4] [(0,.a r),(1,.a r2)] S0 fun v S=>v=q∧S=S0)∧P q:=⟨_,E1 hr hr2 ⟨rfl,rfl⟩,k⟩
theorem zJ{e:Nat}{z:AV}{x y:Value}{S0:Aa}{P:AV→Prop}(hx:(AV.v x).one=true)(hy:(AV.v y).one=true)(k:P (.l [[.v x],[.v y]])):∃ q,(AU e 1 2 [z] [(0,.v x),(1,.v y)] S0 fun v S=>v=q∧S=S0)∧P q:=⟨_,eO hx hy ⟨rfl,rfl⟩,k⟩
theorem rW{e:Nat}{f:Fo}{l:List Fo}{S0:Aa}{P:AV→Prop}:(∃ q,(AS e 4 (Du (f :: l)) (.v (.int .i64 0)) S0 fun v S=>v=q∧S=S0)∧P q)=P (.q f.row 0):=CZ (op:=fun K=>AS e 4 (Du (f :: l)) (.v (.int .i64 0)) S0 K) fun K=>KT
theorem AhI{e:Nat}{f g:Fo}{l:List Fo}{S0:Aa}{P:AV→Prop}:(∃ q,(AS e 4 (Du (f :: g :: l)) (.v (.int .i64 1)) S0 fun v S=>v=q∧S=S0)∧P q)=P (.q g.row 0):=CZ (op:=fun K=>AS e 4 (Du (f :: g :: l)) (.v (.int .i64 1)) S0 K) fun K=>Rq
theorem AeJ{e:Nat}{f:Tn}{l:List Tn}{S:Aa}{K:AV→Aa→Prop}:AS e 5 (K8 (f :: l)) (.v (.int .i64 0)) S K=K (.q f.row 0) S:=LM (i:=0) (by simp)
theorem AhH{e:Nat}{f:Tn}{l:List Tn}{S0:Aa}{P:AV→Prop}:(∃ q,(AS e 5 (K8 (f :: l)) (.v (.int .i64 0)) S0 fun v S=>v=q∧S=S0)∧P q)=P (.q f.row 0):=CZ (op:=fun K=>AS e 5 (K8 (f :: l)) (.v (.int .i64 0)) S0 K) fun K=>AeJ
theorem zH{l:List Tn}{S0:Aa}{P:AV→Prop}:(∃ q,(AF (K8 l) S0 fun v S=>v=q∧S=S0)∧P q)=P (aI l.length):=CZ (op:=fun K=>AF (K8 l) S0 K) fun K=>FV l
theorem Tn.AaH(t:Tn):t.row[1]? = some (aI t.st):=by cases t;rw[Tn.AD];rfl
theorem jN{e:Nat}{f g:Fo}{S0:Aa}{P:AV→Prop}:(∃ q,(Hi e 4 (Du [f,g]) (some (aI 0)) (some (aI 1)) none S0 fun v S=>v=q∧S=S0)∧P q)=P (Du [f]):=CZ (op:=fun K=>Hi e 4 (Du [f,g]) (some (aI 0)) (some (aI 1)) none S0 K) fun K=>by simp[Hi,Ly,Aw,Du,Fo.Aj]
theorem jM{e:Nat}{f g:Fo}{S0:Aa}{P:AV→Prop}:(∃ q,(Hi e 4 (Du [f,g]) (some (aI 1)) (some (aI 2)) none S0 fun v S=>v=q∧S=S0)∧P q)=P (Du [g]):=CZ (op:=fun K=>Hi e 4 (Du [f,g]) (some (aI 1)) (some (aI 2)) none S0 K) fun K=>by simp[Hi,Ly,Aw,Du,Fo.Aj]
theorem Un{ss:List Int}:(¬ ss = [])→decide ((0:Int)<(ss.length:Int))=true:=fun h=>decide_eq_true (by have:=Ai3.2 h;omega)
section
variable {c:Ci} (hc:Cs c) {ks:List Tn} (hk:ks.length≤1000000) (IH:∀ t∈ks,∀ f,Pu f→BF Pg 34 [c.av,f.av,t.av] (aR (t.acc c f))) {ss:List Int} (hs:ss.length≤1000000) (tk s a:Int)
include hc hk IH hs
theorem Xj(hv:BY c s=false):∀ f:Fo,BF Pg 34 [c.av,f.av,(Tn.mk tk s a ss ks).av] (aR (Tn.acc c (.mk tk s a ss ks) f)):=by
 rintro⟨k,nm,l,fs⟩
 rw[rF _ hv]
 intro S
 refine Ad.HR (CX ?_)
 dsimp only[UR,EL,EM,Em,En,EN,Eo,Fi,Lf,Lq,Ld]
 rw[Fo.av,Fo.AD,Tn.av,Tn.AD]
 refine Ai rfl fun S1 k1 n1 o1=>?_
 refine Ai rfl fun S2 k2 n2 o2=>?_
 refine Ai rfl fun S3 k3 n3 o3=>?_
 have kk:=(k1.trans k2).trans k3
 have p1:=(Kg k3 (Kg k2 o1))
 have p2:=(Kg k3 o2)
 rw[An (n:=8) p1 rfl,Ac,Ae o3 rfl rfl]
 refine Af (CS hc s) ?_
 rw[AJ,hv,Ag,AQ (b:=false) rfl]
 exact⟨rfl,kk⟩
variable (hv:BY c s=true)
include hv
theorem rL :BF Pg 34 [c.av,(Fo.mk 2 ⟨#[]⟩ 0 []).av,(Tn.mk tk s a ss ks).av] (aR (Tn.acc c (.mk tk s a ss ks) (Fo.mk 2 ⟨#[]⟩ 0 []))):=by
 rw[jA hv]
 intro S
 refine Ad.HR (CX ?_)
 dsimp only[UR,EL,EM,Em,En,EN,Eo,Fi,Lf,Lq,Ld]
 rw[Fo.av,Fo.AD,Tn.av,Tn.AD]
 refine Ai rfl fun S1 k1 n1 o1=>?_
 refine Ai rfl fun S2 k2 n2 o2=>?_
 refine Ai rfl fun S3 k3 n3 o3=>?_
 have kk:=(k1.trans k2).trans k3
 have p1:=(Kg k3 (Kg k2 o1))
 have p2:=(Kg k3 o2)
 rw[An (n:=8) p1 rfl,Ac,Ae o3 rfl rfl]
 refine Af (CS hc s) ?_
 rw[AJ,hv,Ag,AK (b:=true) rfl,Ac,Ae o3 rfl rfl]
 refine BM rfl (fun _ h=>by cases h) ?_
 rw[Ac,Ae p2 rfl rfl]
 repeat (refine EB (by omega) ?_)
 refine CK rfl ?_
 have ce:=G9 tk s a ss ks
 rw[Tn.av,Tn.AD]at ce
 rw[Ac,Ae o3 rfl rfl,AA,Ag]
 unfold G6
 refine Al (fun h=>?_) (fun h=>⟨by rw[h];rfl,kk⟩)
 rw[h,AhQ,An (n:=5) o3 rfl]
 exact Af ce ⟨rfl,kk⟩
theorem rK(l:Int)(hl:Bv l):BF Pg 34 [c.av,(Fo.mk 3 ⟨#[]⟩ l []).av,(Tn.mk tk s a ss ks).av] (aR (Tn.acc c (.mk tk s a ss ks) (Fo.mk 3 ⟨#[]⟩ l []))):=by
 rw[iZ hv]
 intro S
 refine Ad.HR (CX ?_)
 dsimp only[UR,EL,EM,Em,En,EN,Eo,Fi,Lf,Lq,Ld]
 rw[Fo.av,Fo.AD,Tn.av,Tn.AD]
 refine Ai rfl fun S1 k1 n1 o1=>?_
 refine Ai rfl fun S2 k2 n2 o2=>?_
 refine Ai rfl fun S3 k3 n3 o3=>?_
 have kk:=(k1.trans k2).trans k3
 have p1:=(Kg k3 (Kg k2 o1))
 have p2:=(Kg k3 o2)
 rw[An (n:=8) p1 rfl,Ac,Ae o3 rfl rfl]
 refine Af (CS hc s) ?_
 rw[AJ,hv,Ag,AK (b:=true) rfl,Ac,Ae o3 rfl rfl]
 refine BM rfl (fun _ h=>by cases h) ?_
 rw[Ac,Ae p2 rfl rfl]
 repeat (refine EB (by omega) ?_)
 refine CK rfl ?_
 have ce:=G9 tk s a ss ks
 rw[Tn.av,Tn.AD]at ce
 rw[Ac,Ae o3 rfl rfl,AA,Ag]
 unfold G6
 refine Al (fun h=>?_) (fun h=>⟨by rw[h,AhV,AhV],kk⟩)
 rw[h,AhQ,An (n:=5) o3 rfl]
 refine Af ce ?_
 rw[Ag]
 refine Al (fun h=>?_) (fun h=>⟨by rw[h,AhV],kk⟩)
 rw[h,AhQ,An (n:=8) p1 rfl,Ac,Ae o3 rfl rfl,Ac,Ae p2 rfl rfl]
 exact Af (IU hc.ok hl) ⟨rfl,kk⟩
theorem rJ(l:Int)(hl:Bv l):BF Pg 34 [c.av,(Fo.mk 4 ⟨#[]⟩ 0 [.mk 3 ⟨#[]⟩ l []]).av,(Tn.mk tk s a ss ks).av] (aR (Tn.acc c (.mk tk s a ss ks) (Fo.mk 4 ⟨#[]⟩ 0 [.mk 3 ⟨#[]⟩ l []]))):=by
 rw[iY hv]
 intro S
 refine Ad.HR (CX ?_)
 dsimp only[UR,EL,EM,Em,En,EN,Eo,Fi,Lf,Lq,Ld]
 rw[Fo.av,Fo.AD,Tn.av,Tn.AD]
 refine Ai rfl fun S1 k1 n1 o1=>?_
 refine Ai rfl fun S2 k2 n2 o2=>?_
 refine Ai rfl fun S3 k3 n3 o3=>?_
 have kk:=(k1.trans k2).trans k3
 have p1:=(Kg k3 (Kg k2 o1))
 have p2:=(Kg k3 o2)
 rw[An (n:=8) p1 rfl,Ac,Ae o3 rfl rfl]
 refine Af (CS hc s) ?_
 rw[AJ,hv,Ag,AK (b:=true) rfl,Ac,Ae o3 rfl rfl]
 refine BM rfl (fun _ h=>by cases h) ?_
 rw[Ac,Ae p2 rfl rfl]
 repeat (refine EB (by omega) ?_)
 refine CK rfl ?_
 have ce:=G9 tk s a ss ks
 rw[Tn.av,Tn.AD]at ce
 have r2:(Fo.mk 3 ⟨#[]⟩ l []).row[2]? = some (aI l):=by rw[Fo.AD];rfl
 show ∃ q:AV,_
 unfold G6
 by_cases e1:¬ tk=1
 ·rw[decide_eq_false e1,AhV,AhV]
  (repeat (first|with_reducible_and_instances (first|refine WJ ?_|refine W (AW o3 (by with_unfolding_all rfl) (by with_unfolding_all rfl)) ?_|refine W (AN (by with_unfolding_all rfl)) ?_)))
  rw[decide_eq_false e1]
  (repeat (first|with_reducible_and_instances (first|refine WJ ?_|refine W (AW o3 (by with_unfolding_all rfl) (by with_unfolding_all rfl)) ?_|refine W (AN (by with_unfolding_all rfl)) ?_)))
  exact⟨rfl,kk⟩
 have e1:=AiC.1 e1
 rw[decide_eq_true e1,AhQ]
 (repeat (first|with_reducible_and_instances (first|refine WJ ?_|refine W (AW o3 (by with_unfolding_all rfl) (by with_unfolding_all rfl)) ?_|refine W (AN (by with_unfolding_all rfl)) ?_)))
 rw[decide_eq_true e1]
 (repeat (first|with_reducible_and_instances (first|refine WJ ?_|refine W (AW o3 (by with_unfolding_all rfl) (by with_unfolding_all rfl)) ?_|refine W (Ct (n:=5) o3 (by with_unfolding_all rfl)) ?_|refine W (AN (by with_unfolding_all rfl)) ?_)|refine BE (ce) rfl rfl ?_|refine CT (ce) rfl rfl ?_))
 cases e2:decide (a=0∧ss.length=0∧ks.length=0)with
 |false =>
  (repeat (first|with_reducible_and_instances (first|refine WJ ?_|refine W (AN (by with_unfolding_all rfl)) ?_)))
  exact⟨rfl,kk⟩
 |true =>
  rw[AhQ]
  (repeat (first|with_reducible_and_instances (first|refine WJ ?_|refine W (AW o3 (by with_unfolding_all rfl) (by with_unfolding_all rfl)) ?_|refine W (AW p2 (by with_unfolding_all rfl) (by with_unfolding_all rfl)) ?_|refine W (Ct (n:=8) p1 (by with_unfolding_all rfl)) ?_|refine W (rW) ?_|refine W (AN r2) ?_|refine W (AN (by with_unfolding_all rfl)) ?_)|refine BE (IU hc.ok (s:=s) hl) rfl rfl ?_|refine CT (IU hc.ok (s:=s) hl) rfl rfl ?_))
  exact⟨rfl,kk⟩
theorem rI{f g:Fo}(hf:Pu f)(hg:Pu g):BF Pg 34 [c.av,(Fo.mk 5 ⟨#[]⟩ 0 [f,g]).av,(Tn.mk tk s a ss ks).av] (aR (Tn.acc c (.mk tk s a ss ks) (Fo.mk 5 ⟨#[]⟩ 0 [f,g]))):=by
 rw[vM hv]
 intro S
 refine Ad.HR (CX ?_)
 dsimp only[UR,EL,EM,Em,En,EN,Eo,Fi,Lf,Lq,Ld]
 rw[Fo.av,Fo.AD,Tn.av,Tn.AD]
 refine Ai rfl fun S1 k1 n1 o1=>?_
 refine Ai rfl fun S2 k2 n2 o2=>?_
 refine Ai rfl fun S3 k3 n3 o3=>?_
 have kk:=(k1.trans k2).trans k3
 have p1:=(Kg k3 (Kg k2 o1))
 have p2:=(Kg k3 o2)
 rw[An (n:=8) p1 rfl,Ac,Ae o3 rfl rfl]
 refine Af (CS hc s) ?_
 rw[AJ,hv,Ag,AK (b:=true) rfl,Ac,Ae o3 rfl rfl]
 refine BM rfl (fun _ h=>by cases h) ?_
 rw[Ac,Ae p2 rfl rfl]
 repeat (refine EB (by omega) ?_)
 refine CK rfl ?_
 have ce:=G9 tk s a ss ks
 rw[Tn.av,Tn.AD]at ce
 have no:¬ (tk=2∧a=0∧ss = [])→∀ T,Am S T→Bh.ret (.t [aI 0,aB false]) = .ret (aR (if tk=2∧a=0∧ss = []then Tn.B6 c ks [f,g] [s,s] 0 else(0,false)))∧Am S T:=fun h T hT=>⟨by rw[if_neg h],hT⟩
 rw[Ac,Ae o3 rfl rfl,Bl,Ag]
 by_cases e1:¬ tk=2
 ·rw[decide_eq_false e1]
  exact no (fun h=>e1 h.1) _ kk
 have e1:=AiC.1 e1
 rw[decide_eq_true e1,AK (b:=true) rfl,Ac,Ae o3 rfl rfl,Bl,Ag]
 by_cases e2:¬ a=0
 ·rw[decide_eq_false e2]
  exact no (fun h=>e2 h.2.1) _ kk
 have e2:=AiC.1 e2
 rw[decide_eq_true e2,AK (b:=true) rfl,Ac,Ae o3 rfl rfl,Ax,AO,Ag]
 by_cases e3:¬ ss = []
 ·rw[Un e3]
  exact no (fun h=>e3 h.2.2) _ kk
 have e3:=AiC.1 e3
 rw[if_pos ⟨e1,e2,e3⟩]
 clear no
 rw[show decide ((0:Int)<(ss.length:Int))=false from decide_eq_false (by simp[e3]),A2,An (n:=8) p1 rfl,Ac,Ae p2 rfl rfl,Ac,Ae o3 rfl rfl,Ac,Ae o3 rfl rfl]
 refine eO rfl rfl ?_
 rw[Ac,Ae o3 rfl rfl]
 refine Af (G8 hk IH (fs:=[f,g]) (fun x hx=>?_) [s,s]) ?_
 ·simp only[Ai9,AiE,or_false]at hx
  rcases hx with rfl|rfl
  ·exact hf
  ·exact hg
 rw[Ei rfl,Ei rfl]
 exact⟨rfl,kk⟩
theorem rH{f g:Fo}(hf:Pu f)(hg:Pu g):BF Pg 34 [c.av,(Fo.mk 6 ⟨#[]⟩ 0 [f,g]).av,(Tn.mk tk s a ss ks).av] (aR (Tn.acc c (.mk tk s a ss ks) (Fo.mk 6 ⟨#[]⟩ 0 [f,g]))):=by
 rw[vL hv]
 intro S
 refine Ad.HR (CX ?_)
 dsimp only[UR,EL,EM,Em,En,EN,Eo,Fi,Lf,Lq,Ld]
 rw[Fo.av,Fo.AD,Tn.av,Tn.AD]
 refine Ai rfl fun S1 k1 n1 o1=>?_
 refine Ai rfl fun S2 k2 n2 o2=>?_
 refine Ai rfl fun S3 k3 n3 o3=>?_
 have kk:=(k1.trans k2).trans k3
 have p1:=(Kg k3 (Kg k2 o1))
 have p2:=(Kg k3 o2)
 rw[An (n:=8) p1 rfl,Ac,Ae o3 rfl rfl]
 refine Af (CS hc s) ?_
 rw[AJ,hv,Ag,AK (b:=true) rfl,Ac,Ae o3 rfl rfl]
 refine BM rfl (fun _ h=>by cases h) ?_
 rw[Ac,Ae p2 rfl rfl]
 repeat (refine EB (by omega) ?_)
 refine CK rfl ?_
 have ce:=G9 tk s a ss ks
 rw[Tn.av,Tn.AD]at ce
 have no:¬ (tk=3∧0≤a∧a≤1∧ss = [])→∀ T,Am S T→Bh.ret (.t [aI 0,aB false]) = .ret (aR (if tk=3∧0≤a∧a≤1∧ss = []then Tn.B6 c ks [[f,g].getD a.toNat LP] [s] 0 else(0,false)))∧Am S T:=fun h T hT=>⟨by rw[if_neg h],hT⟩
 rw[Ac,Ae o3 rfl rfl,Bl,Ag]
 by_cases e1:¬ tk=3
 ·rw[decide_eq_false e1]
  exact no (fun h=>e1 h.1) _ kk
 have e1:=AiC.1 e1
 rw[decide_eq_true e1,AK (b:=true) rfl,Ac,Ae o3 rfl rfl,As,Ag]
 by_cases e2:a<0
 ·rw[decide_eq_true e2]
  exact no (fun h=>by omega) _ kk
 rw[decide_eq_false e2,A2,Ac,Ae o3 rfl rfl,AO,Ag]
 by_cases e4:1<a
 ·rw[decide_eq_true e4]
  exact no (fun h=>by omega) _ kk
 rw[decide_eq_false e4,A2,Ac,Ae o3 rfl rfl,Ax,AO,Ag]
 by_cases e3:¬ ss = []
 ·rw[Un e3]
  exact no (fun h=>e3 h.2.2.2) _ kk
 have e3:=AiC.1 e3
 rw[if_pos ⟨e1,by omega,by omega,e3⟩]
 clear no
 rw[show decide ((0:Int)<(ss.length:Int))=false from decide_eq_false (by simp[e3]),A2]
 show ∃ q:AV,_
 have h01:a=0∨a=1:=by omega
 rcases h01 with rfl|rfl
 ·(repeat (first|with_reducible_and_instances (first|refine WJ ?_|refine W (AW o3 (by with_unfolding_all rfl) (by with_unfolding_all rfl)) ?_|refine W (AW p2 (by with_unfolding_all rfl) (by with_unfolding_all rfl)) ?_|refine W (Ct (n:=8) p1 (by with_unfolding_all rfl)) ?_|refine W (VB (by decide) (by decide)) ?_|refine W (Nv (by with_unfolding_all rfl)) ?_|refine W (jN) ?_|refine W (AN (by with_unfolding_all rfl)) ?_)|refine BE (G8 hk IH (fs:=[f]) (fun x hx=>by rw[AhT.1 hx];exact hf) [s]) rfl rfl ?_|refine CT (G8 hk IH (fs:=[f]) (fun x hx=>by rw[AhT.1 hx];exact hf) [s]) rfl rfl ?_))
  exact⟨rfl,kk⟩
 ·(repeat (first|with_reducible_and_instances (first|refine WJ ?_|refine W (AW o3 (by with_unfolding_all rfl) (by with_unfolding_all rfl)) ?_|refine W (AW p2 (by with_unfolding_all rfl) (by with_unfolding_all rfl)) ?_|refine W (Ct (n:=8) p1 (by with_unfolding_all rfl)) ?_|refine W (VB (by decide) (by decide)) ?_|refine W (Nv (by with_unfolding_all rfl)) ?_|refine W (jM) ?_|refine W (AN (by with_unfolding_all rfl)) ?_)|refine BE (G8 hk IH (fs:=[g]) (fun x hx=>by rw[AhT.1 hx];exact hg) [s]) rfl rfl ?_|refine CT (G8 hk IH (fs:=[g]) (fun x hx=>by rw[AhT.1 hx];exact hg) [s]) rfl rfl ?_))
  exact⟨rfl,kk⟩
theorem jF{f g:Fo}(hf:Pu f)(hg:Pu g):BF Pg 34 [c.av,(Fo.mk 17 ⟨#[]⟩ 0 [f,g]).av,(Tn.mk tk s a ss ks).av] (aR (Tn.acc c (.mk tk s a ss ks) (Fo.mk 17 ⟨#[]⟩ 0 [f,g]))):=by
 rw[jB hv]
 intro S
 refine Ad.HR (CX ?_)
 dsimp only[UR,EL,EM,Em,En,EN,Eo,Fi,Lf,Lq,Ld]
 rw[Fo.av,Fo.AD,Tn.av,Tn.AD]
 refine Ai rfl fun S1 k1 n1 o1=>?_
 refine Ai rfl fun S2 k2 n2 o2=>?_
 refine Ai rfl fun S3 k3 n3 o3=>?_
 have kk:=(k1.trans k2).trans k3
 have p1:=(Kg k3 (Kg k2 o1))
 have p2:=(Kg k3 o2)
 rw[An (n:=8) p1 rfl,Ac,Ae o3 rfl rfl]
 refine Af (CS hc s) ?_
 rw[AJ,hv,Ag,AK (b:=true) rfl,Ac,Ae o3 rfl rfl]
 refine BM rfl (fun _ h=>by cases h) ?_
 rw[Ac,Ae p2 rfl rfl]
 repeat (refine EB (by omega) ?_)
 refine CK rfl ?_
 have ce:=G9 tk s a ss ks
 rw[Tn.av,Tn.AD]at ce
 have no:¬ (tk=3∧0≤a∧a≤1∧ss = [])→∀ T,Am S T→Bh.ret (.t [aI 0,aB false]) = .ret (aR (if tk=3∧0≤a∧a≤1∧ss = []then Tn.B6 c ks [if a=0 then A3 13 g else A7 15 g (A7 5 f g)] [s] 0 else(0,false)))∧Am S T:=fun h T hT=>⟨by rw[if_neg h],hT⟩
 rw[Ac,Ae o3 rfl rfl,Bl,Ag]
 by_cases e1:¬ tk=3
 ·rw[decide_eq_false e1]
  exact no (fun h=>e1 h.1) _ kk
 have e1:=AiC.1 e1
 rw[decide_eq_true e1,AK (b:=true) rfl,Ac,Ae o3 rfl rfl,As,Ag]
 by_cases e2:a<0
 ·rw[decide_eq_true e2]
  exact no (fun h=>by omega) _ kk
 rw[decide_eq_false e2,A2,Ac,Ae o3 rfl rfl,AO,Ag]
 by_cases e4:1<a
 ·rw[decide_eq_true e4]
  exact no (fun h=>by omega) _ kk
 rw[decide_eq_false e4,A2,Ac,Ae o3 rfl rfl,Ax,AO,Ag]
 by_cases e3:¬ ss = []
 ·rw[Un e3]
  exact no (fun h=>e3 h.2.2.2) _ kk
 have e3:=AiC.1 e3
 rw[if_pos ⟨e1,by omega,by omega,e3⟩]
 clear no
 rw[show decide ((0:Int)<(ss.length:Int))=false from decide_eq_false (by simp[e3]),A2]
 show ∃ q:AV,_
 (repeat (first|with_reducible_and_instances (first|refine WJ ?_|refine W (AW p2 (by with_unfolding_all rfl) (by with_unfolding_all rfl)) ?_|refine W (rW) ?_|refine W (AhI) ?_|refine W (Ud (Fo.Aj _)) ?_|refine W (AN (by with_unfolding_all rfl)) ?_)|refine BE (Nh g) rfl rfl ?_|refine CT (Nh g) rfl rfl ?_|refine BE (Ep 5 f g) rfl rfl ?_|refine CT (Ep 5 f g) rfl rfl ?_|refine BE (Vo g (A7 5 f g)) rfl rfl ?_|refine CT (Vo g (A7 5 f g)) rfl rfl ?_|refine Sa (Fo.Aj _) (Fo.Aj _) ?_))
 have h01:a=0∨a=1:=by omega
 rcases h01 with rfl|rfl
 ·(repeat (first|with_reducible_and_instances (first|refine WJ ?_|refine W (AW o3 (by with_unfolding_all rfl) (by with_unfolding_all rfl)) ?_|refine W (AW p2 (by with_unfolding_all rfl) (by with_unfolding_all rfl)) ?_|refine W (Ct (n:=8) p1 (by with_unfolding_all rfl)) ?_|refine W (VB (by decide) (by decide)) ?_|refine W (Nv (by with_unfolding_all rfl)) ?_|refine W (jN) ?_|refine W (AN (by with_unfolding_all rfl)) ?_)|refine BE (G8 hk IH (fs:=[A3 13 g]) (fun x hx=>by rw[AhT.1 hx];exact .o _ _ (by decide) hg) [s]) rfl rfl ?_|refine CT (G8 hk IH (fs:=[A3 13 g]) (fun x hx=>by rw[AhT.1 hx];exact .o _ _ (by decide) hg) [s]) rfl rfl ?_))
  exact⟨rfl,kk⟩
 ·(repeat (first|with_reducible_and_instances (first|refine WJ ?_|refine W (AW o3 (by with_unfolding_all rfl) (by with_unfolding_all rfl)) ?_|refine W (AW p2 (by with_unfolding_all rfl) (by with_unfolding_all rfl)) ?_|refine W (Ct (n:=8) p1 (by with_unfolding_all rfl)) ?_|refine W (VB (by decide) (by decide)) ?_|refine W (Nv (by with_unfolding_all rfl)) ?_|refine W (jM) ?_|refine W (AN (by with_unfolding_all rfl)) ?_)|refine BE (G8 hk IH (fs:=[A7 15 g (A7 5 f g)]) (fun x hx=>by rw[AhT.1 hx];exact .t _ _ _ (by decide) hg (.t _ _ _ (by decide) hf hg)) [s]) rfl rfl ?_|refine CT (G8 hk IH (fs:=[A7 15 g (A7 5 f g)]) (fun x hx=>by rw[AhT.1 hx];exact .t _ _ _ (by decide) hg (.t _ _ _ (by decide) hf hg)) [s]) rfl rfl ?_))
  exact⟨rfl,kk⟩
theorem rG{f:Fo}(hf:Pu f):BF Pg 34 [c.av,(Fo.mk 9 ⟨#[]⟩ 0 [f]).av,(Tn.mk tk s a ss ks).av] (aR (Tn.acc c (.mk tk s a ss ks) (Fo.mk 9 ⟨#[]⟩ 0 [f]))):=by
 rw[vK hv]
 intro S
 refine Ad.HR (CX ?_)
 dsimp only[UR,EL,EM,Em,En,EN,Eo,Fi,Lf,Lq,Ld]
 rw[Fo.av,Fo.AD,Tn.av,Tn.AD]
 refine Ai rfl fun S1 k1 n1 o1=>?_
 refine Ai rfl fun S2 k2 n2 o2=>?_
 refine Ai rfl fun S3 k3 n3 o3=>?_
 have kk:=(k1.trans k2).trans k3
 have p1:=(Kg k3 (Kg k2 o1))
 have p2:=(Kg k3 o2)
 rw[An (n:=8) p1 rfl,Ac,Ae o3 rfl rfl]
 refine Af (CS hc s) ?_
 rw[AJ,hv,Ag,AK (b:=true) rfl,Ac,Ae o3 rfl rfl]
 refine BM rfl (fun _ h=>by cases h) ?_
 rw[Ac,Ae p2 rfl rfl]
 repeat (refine EB (by omega) ?_)
 refine CK rfl ?_
 have ce:=G9 tk s a ss ks
 rw[Tn.av,Tn.AD]at ce
 have no:¬ (tk=4∧a=0∧ss = []∧(ks.map Tn.st).length=2∧BO c s ((ks.map Tn.st).getD 0 0)=true)→∀ T,Am S T→Bh.ret (.t [aI 0,aB false]) = .ret (aR (if tk=4∧a=0∧ss = []∧(ks.map Tn.st).length=2∧BO c s ((ks.map Tn.st).getD 0 0)=true then Tn.B6 c ks [[f].getD 0 LP,GL] [(ks.map Tn.st).getD 0 0,(ks.map Tn.st).getD 0 0] 0 else(0,false)))∧Am S T:=fun h T hT=>⟨by rw[if_neg h],hT⟩
 show ∃ q:AV,_
 (repeat (first|with_reducible_and_instances (first|refine WJ ?_|refine W (AW o3 (by with_unfolding_all rfl) (by with_unfolding_all rfl)) ?_|refine W (AN (by with_unfolding_all rfl)) ?_)))
 by_cases e1:¬ tk=4
 ·rw[decide_eq_false e1,Bool.not_false]
  (repeat (first|with_reducible_and_instances (first|refine WJ ?_|refine W (AN (by with_unfolding_all rfl)) ?_)))
  exact no (fun h=>e1 h.1) _ kk
 have e1:=AiC.1 e1
 rw[decide_eq_true e1,Bool.not_true]
 (repeat (first|with_reducible_and_instances (first|refine WJ ?_|refine W (AW o3 (by with_unfolding_all rfl) (by with_unfolding_all rfl)) ?_|refine W (AN (by with_unfolding_all rfl)) ?_)))
 by_cases e2:¬ a=0
 ·rw[decide_eq_false e2,Bool.not_false]
  (repeat (first|with_reducible_and_instances (first|refine WJ ?_|refine W (AN (by with_unfolding_all rfl)) ?_)))
  exact no (fun h=>e2 h.2.1) _ kk
 have e2:=AiC.1 e2
 rw[decide_eq_true e2,Bool.not_true]
 (repeat (first|with_reducible_and_instances (first|refine WJ ?_|refine W (AW o3 (by with_unfolding_all rfl) (by with_unfolding_all rfl)) ?_|refine W (AN (by with_unfolding_all rfl)) ?_)))
 by_cases e3:¬ ss = []
 ·rw[Un e3]
  (repeat (first|with_reducible_and_instances (first|refine WJ ?_|refine W (AN (by with_unfolding_all rfl)) ?_)))
  exact no (fun h=>e3 h.2.2.1) _ kk
 have e3:=AiC.1 e3
 rw[show decide ((0:Int)<(ss.length:Int))=false from decide_eq_false (by simp[e3])]
 (repeat (first|with_reducible_and_instances (first|refine WJ ?_|refine W (AW o3 (by with_unfolding_all rfl) (by with_unfolding_all rfl)) ?_|refine W (zH) ?_|refine W (AN (by with_unfolding_all rfl)) ?_)))
 by_cases e4:¬ ks.length=2
 ·rw[show decide ((ks.length:Int)=2)=false from decide_eq_false (by omega),Bool.not_false]
  (repeat (first|with_reducible_and_instances (first|refine WJ ?_|refine W (AN (by with_unfolding_all rfl)) ?_)))
  exact no (fun h=>e4 (by have:=h.2.2.2.1;rwa [AhR]at this)) _ kk
 have e4:=AiC.1 e4
 rw[show decide ((ks.length:Int)=2)=true from decide_eq_true (by omega),Bool.not_true]
 obtain⟨t0,t1,rfl⟩:∃ t0 t1,ks = [t0,t1]:=by
  match ks,e4 with
  |[t0,t1],_=>exact⟨t0,t1,rfl⟩
 (repeat (first|with_reducible_and_instances (first|refine WJ ?_|refine W (AW o3 (by with_unfolding_all rfl) (by with_unfolding_all rfl)) ?_|refine W (Ct (n:=8) p1 (by with_unfolding_all rfl)) ?_|refine W (AhH) ?_|refine W (AN (Tn.AaH _)) ?_|refine W (AN (by with_unfolding_all rfl)) ?_)|refine BE (Kj hc s t0.st) rfl rfl ?_|refine CT (Kj hc s t0.st) rfl rfl ?_))
 cases e5:BO c s t0.st with
 |false =>
  rw[Bool.not_false]
  (repeat (first|with_reducible_and_instances (first|refine WJ ?_|refine W (AN (by with_unfolding_all rfl)) ?_)))
  exact no (fun h=>by rw[show([t0,t1].map Tn.st).getD 0 0=t0.st from rfl,e5]at h;cases h.2.2.2.2) _ kk
 |true =>
  rw[Bool.not_true]
  have hall:=G8 hk IH (fs:=[f,GL]) (fun x hx=>by
   simp only[Ai9,AiE,or_false]at hx
   rcases hx with rfl|rfl
   ·exact hf
   ·exact .o _ _ (by decide) (.c _ (by decide))) [t0.st,t0.st]
  (repeat (first|with_reducible_and_instances (first|refine WJ ?_|refine W (AW o3 (by with_unfolding_all rfl) (by with_unfolding_all rfl)) ?_|refine W (Ae o3 (by with_unfolding_all rfl) (by with_unfolding_all rfl)) ?_|refine W (AeJ) ?_|refine W (AN (by with_unfolding_all rfl)) ?_)))
  have ld1q:∀ K:AV→Aa→Prop,Ay (.q t0.row 1) S3 K=K (aI t0.st) S3:=fun K=>by simp[Ay,Sq,place,Tn.AaH]
  (repeat (first|with_reducible_and_instances (first|refine WJ ?_|refine W (AW o3 (by with_unfolding_all rfl) (by with_unfolding_all rfl)) ?_|refine W (ld1q _) ?_|refine W (AN (by with_unfolding_all rfl)) ?_)))
  (repeat (first|with_reducible_and_instances (first|refine WJ ?_|refine W (AW o3 (by with_unfolding_all rfl) (by with_unfolding_all rfl)) ?_|refine W (AW p2 (by with_unfolding_all rfl) (by with_unfolding_all rfl)) ?_|refine W (Ct (n:=8) p1 (by with_unfolding_all rfl)) ?_|refine W (rW) ?_|refine W (Ud (Fo.Aj _)) ?_|refine W (Nv (by with_unfolding_all rfl)) ?_|refine W (AN (by with_unfolding_all rfl)) ?_)|refine BE (Ng) rfl rfl ?_|refine CT (Ng) rfl rfl ?_|refine BE (Nh IA) rfl rfl ?_|refine CT (Nh IA) rfl rfl ?_|refine Sa (Fo.Aj _) (Fo.Aj _) ?_|refine zJ rfl rfl ?_|refine BE (hall) rfl rfl ?_|refine CT (hall) rfl rfl ?_))
  exact⟨by rw[if_pos ⟨e1,e2,e3,rfl,e5⟩];rfl,kk⟩
theorem jI{f:Fo}(hf:Pu f):BF Pg 34 [c.av,(Fo.mk 11 ⟨#[]⟩ 0 [f]).av,(Tn.mk tk s a ss ks).av] (aR (Tn.acc c (.mk tk s a ss ks) (Fo.mk 11 ⟨#[]⟩ 0 [f]))):=by
 rw[jE hv]
 intro S
 refine Ad.HR (CX ?_)
 dsimp only[UR,EL,EM,Em,En,EN,Eo,Fi,Lf,Lq,Ld]
 rw[Fo.av,Fo.AD,Tn.av,Tn.AD]
 refine Ai rfl fun S1 k1 n1 o1=>?_
 refine Ai rfl fun S2 k2 n2 o2=>?_
 refine Ai rfl fun S3 k3 n3 o3=>?_
 have kk:=(k1.trans k2).trans k3
 have p1:=(Kg k3 (Kg k2 o1))
 have p2:=(Kg k3 o2)
 rw[An (n:=8) p1 rfl,Ac,Ae o3 rfl rfl]
 refine Af (CS hc s) ?_
 rw[AJ,hv,Ag,AK (b:=true) rfl,Ac,Ae o3 rfl rfl]
 refine BM rfl (fun _ h=>by cases h) ?_
 rw[Ac,Ae p2 rfl rfl]
 repeat (refine EB (by omega) ?_)
 refine CK rfl ?_
 have ce:=G9 tk s a ss ks
 rw[Tn.av,Tn.AD]at ce
 have cp:=vC hc hk IH (f0:=IA) (.c _ (by decide)) hf 15 0 ⟨#[]⟩ hs tk s a
 rw[Tn.av,Tn.AD]at cp
 show ∃ q:AV,_
 (repeat (first|with_reducible_and_instances (first|refine WJ ?_|refine W (AW o3 (by with_unfolding_all rfl) (by with_unfolding_all rfl)) ?_|refine W (AW p2 (by with_unfolding_all rfl) (by with_unfolding_all rfl)) ?_|refine W (Ct (n:=8) p1 (by with_unfolding_all rfl)) ?_|refine W (Ct (n:=5) o3 (by with_unfolding_all rfl)) ?_|refine W (rW) ?_|refine W (Ud (Fo.Aj _)) ?_|refine W (Nv (by with_unfolding_all rfl)) ?_|refine W (AN (by with_unfolding_all rfl)) ?_)|refine BE (Ng) rfl rfl ?_|refine CT (Ng) rfl rfl ?_|refine BE (Vo IA f) rfl rfl ?_|refine CT (Vo IA f) rfl rfl ?_|refine BE (cp) rfl rfl ?_|refine CT (cp) rfl rfl ?_))
 exact⟨rfl,kk⟩
theorem jG{f g:Fo}(hf:Pu f)(hg:Pu g):BF Pg 34 [c.av,(Fo.mk 15 ⟨#[]⟩ 0 [f,g]).av,(Tn.mk tk s a ss ks).av] (aR (Tn.acc c (.mk tk s a ss ks) (Fo.mk 15 ⟨#[]⟩ 0 [f,g]))):=by
 rw[jC hv]
 intro S
 refine Ad.HR (CX ?_)
 dsimp only[UR,EL,EM,Em,En,EN,Eo,Fi,Lf,Lq,Ld]
 rw[Fo.av,Fo.AD,Tn.av,Tn.AD]
 refine Ai rfl fun S1 k1 n1 o1=>?_
 refine Ai rfl fun S2 k2 n2 o2=>?_
 refine Ai rfl fun S3 k3 n3 o3=>?_
 have kk:=(k1.trans k2).trans k3
 have p1:=(Kg k3 (Kg k2 o1))
 have p2:=(Kg k3 o2)
 rw[An (n:=8) p1 rfl,Ac,Ae o3 rfl rfl]
 refine Af (CS hc s) ?_
 rw[AJ,hv,Ag,AK (b:=true) rfl,Ac,Ae o3 rfl rfl]
 refine BM rfl (fun _ h=>by cases h) ?_
 rw[Ac,Ae p2 rfl rfl]
 repeat (refine EB (by omega) ?_)
 refine CK rfl ?_
 have ce:=G9 tk s a ss ks
 rw[Tn.av,Tn.AD]at ce
 have cp:=vC hc hk IH hf hg 15 0 ⟨#[]⟩ hs tk s a
 rw[Fo.av,Fo.AD,Tn.av,Tn.AD]at cp
 rw[An (n:=8) p1 rfl,An (n:=4) p2 rfl,An (n:=5) o3 rfl]
 refine Af cp ?_
 rw[Ei rfl,Ei rfl]
 exact⟨rfl,kk⟩
theorem jH{f:Fo}(hf:Pu f):BF Pg 34 [c.av,(Fo.mk 13 ⟨#[]⟩ 0 [f]).av,(Tn.mk tk s a ss ks).av] (aR (Tn.acc c (.mk tk s a ss ks) (Fo.mk 13 ⟨#[]⟩ 0 [f]))):=by
 rw[jD hv]
 intro S
 refine Ad.HR (CX ?_)
 dsimp only[UR,EL,EM,Em,En,EN,Eo,Fi,Lf,Lq,Ld]
 rw[Fo.av,Fo.AD,Tn.av,Tn.AD]
 refine Ai rfl fun S1 k1 n1 o1=>?_
 refine Ai rfl fun S2 k2 n2 o2=>?_
 refine Ai rfl fun S3 k3 n3 o3=>?_
 have kk:=(k1.trans k2).trans k3
 have p1:=(Kg k3 (Kg k2 o1))
 have p2:=(Kg k3 o2)
 rw[An (n:=8) p1 rfl,Ac,Ae o3 rfl rfl]
 refine Af (CS hc s) ?_
 rw[AJ,hv,Ag,AK (b:=true) rfl,Ac,Ae o3 rfl rfl]
 refine BM rfl (fun _ h=>by cases h) ?_
 rw[Ac,Ae p2 rfl rfl]
 repeat (refine EB (by omega) ?_)
 refine CK rfl ?_
 have ce:=G9 tk s a ss ks
 rw[Tn.av,Tn.AD]at ce
 have cp:=AfM hc hk IH hf 13 0 ⟨#[]⟩ hs tk s a
 rw[Fo.av,Fo.AD,Tn.av,Tn.AD]at cp
 rw[An (n:=8) p1 rfl,An (n:=4) p2 rfl,An (n:=5) o3 rfl]
 refine Af cp ?_
 rw[Ei rfl,Ei rfl]
 exact⟨rfl,kk⟩
theorem rM :BF Pg 34 [c.av,(Fo.mk 1 ⟨#[]⟩ 0 []).av,(Tn.mk tk s a ss ks).av] (aR (Tn.acc c (.mk tk s a ss ks) (Fo.mk 1 ⟨#[]⟩ 0 []))):=by
 rw[Ag6 hv]
 intro S
 refine Ad.HR (CX ?_)
 dsimp only[UR,EL,EM,Em,En,EN,Eo,Fi,Lf,Lq,Ld]
 rw[Fo.av,Fo.AD,Tn.av,Tn.AD]
 refine Ai rfl fun S1 k1 n1 o1=>?_
 refine Ai rfl fun S2 k2 n2 o2=>?_
 refine Ai rfl fun S3 k3 n3 o3=>?_
 have kk:=(k1.trans k2).trans k3
 have p1:=(Kg k3 (Kg k2 o1))
 have p2:=(Kg k3 o2)
 rw[An (n:=8) p1 rfl,Ac,Ae o3 rfl rfl]
 refine Af (CS hc s) ?_
 rw[AJ,hv,Ag,AK (b:=true) rfl,Ac,Ae o3 rfl rfl]
 refine BM rfl (fun _ h=>by cases h) ?_
 rw[Ac,Ae p2 rfl rfl]
 repeat (refine EB (by omega) ?_)
 refine CK rfl ?_
 have ce:=G9 tk s a ss ks
 rw[Tn.av,Tn.AD]at ce
 exact⟨rfl,kk⟩
theorem Vv{k:Int}(hk7:k=10∨k=12∨k=14∨k=16∨k=18)(fs:List Fo):BF Pg 34 [c.av,(Fo.mk k ⟨#[]⟩ 0 fs).av,(Tn.mk tk s a ss ks).av] (aR (Tn.acc c (.mk tk s a ss ks) (Fo.mk k ⟨#[]⟩ 0 fs))):=by
 rw[vJ hk7 hv]
 intro S
 refine Ad.HR (CX ?_)
 dsimp only[UR,EL,EM,Em,En,EN,Eo,Fi,Lf,Lq,Ld]
 rw[Fo.av,Fo.AD,Tn.av,Tn.AD]
 refine Ai rfl fun S1 k1 n1 o1=>?_
 refine Ai rfl fun S2 k2 n2 o2=>?_
 refine Ai rfl fun S3 k3 n3 o3=>?_
 have kk:=(k1.trans k2).trans k3
 have p1:=(Kg k3 (Kg k2 o1))
 have p2:=(Kg k3 o2)
 rw[An (n:=8) p1 rfl,Ac,Ae o3 rfl rfl]
 refine Af (CS hc s) ?_
 rw[AJ,hv,Ag,AK (b:=true) rfl,Ac,Ae o3 rfl rfl]
 refine BM rfl (fun _ h=>by cases h) ?_
 rw[Ac,Ae p2 rfl rfl]
 repeat (refine EB (by omega) ?_)
 have ce:=G9 tk s a ss ks
 rw[Tn.av,Tn.AD]at ce
 rw[Ac,Ae o3 rfl rfl,AA,Ag]
 unfold G6
 refine Al (fun h=>?_) (fun h=>⟨by rw[h];rfl,kk⟩)
 rw[h,AhQ,An (n:=5) o3 rfl]
 exact Af ce ⟨rfl,kk⟩
omit hv
theorem Ag7{f:Fo}(hf:Pu f):BF Pg 34 [c.av,f.av,(Tn.mk tk s a ss ks).av] (aR (Tn.acc c (.mk tk s a ss ks) f)):=by
 cases hv:BY c s with
 |false=>exact Xj hc hk IH hs tk s a hv f
 |true =>
  cases hf with
  |c k h =>
   rcases h with rfl|rfl
   ·exact rM hc hk IH hs tk s a hv
   ·exact rL hc hk IH hs tk s a hv
  |a l h0 hl=>exact rK hc hk IH hs tk s a hv l hl
  |n l h0 hl=>exact rJ hc hk IH hs tk s a hv l hl
  |o k f h hf =>
   have:k=9∨k=11∨k=13∨(k=10∨k=12∨k=14∨k=16∨k=18):=by omega
   rcases this with rfl|rfl|rfl|h
   ·exact rG hc hk IH hs tk s a hv hf
   ·exact jI hc hk IH hs tk s a hv hf
   ·exact jH hc hk IH hs tk s a hv hf
   ·exact Vv hc hk IH hs tk s a hv h _
  |t k f g h hf hg =>
   have:k=5∨k=6∨k=15∨k=17∨(k=10∨k=12∨k=14∨k=16∨k=18):=by omega
   rcases this with rfl|rfl|rfl|rfl|h
   ·exact rI hc hk IH hs tk s a hv hf hg
   ·exact rH hc hk IH hs tk s a hv hf hg
   ·exact jG hc hk IH hs tk s a hv hf hg
   ·exact jF hc hk IH hs tk s a hv hf hg
   ·exact Vv hc hk IH hs tk s a hv h _
end
theorem vF{c:Ci}(hc:Cs c):∀ t:Tn,t.ok→∀ f,Pu f→BF Pg 34 [c.av,f.av,t.av] (aR (t.acc c f)):=by
 intro t
 induction t using Tn.ind with
 |h tk s a ss ks ih =>
  intro ht f hf
  cases ht with
  |mk _ _ _ _ _ h1 h2 h3 h4 h5 h6 h7=>exact Ag7 hc h6 (fun t ht f hf=>ih t ht (h7 t ht) f hf) h4 tk s a hf
set_option linter.unusedSectionVars false
def Mc (c:Ci) (f:Fo) (t:Tn):Int × Bool:=
 if Ex c f=false∨60<c.gr.inputs then(0,false)else if(t.acc c (f.push false)).2=true then t.acc c (f.push false)else(0,false)
theorem H6{c:Ci}{f:Fo}(h:Ex c f=true):c.right=true∧f.BQ 60=true:=by
 unfold Ex at h
 rw[AhO,AhO]at h
 exact⟨h.1,h.2.1⟩
theorem vI{c:Ci}(hc:c.ok){f:Fo}(hf:f.ok){t:Tn}(ht:t.ok):BF Pg 13 [c.av,f.av,t.av] (aR (Mc c f t)):=by
 intro S
 refine Ad.HR (pZ ?_)
 dsimp only[m13,Fi,Lf,Lq,Ld];unfold Mc
 refine Ai rfl fun S1 k1 n1 o1=>?_
 refine Ai (Fo.Aj f) fun S2 k2 n2 o2=>?_
 refine Ai (Tn.Aj t) fun S3 k3 n3 o3=>?_
 have kk:=(k1.trans k2).trans k3
 have p1:=(Kg k3 (Kg k2 o1))
 have p2:=(Kg k3 o2)
 rw[An (n:=8) p1 rfl,An (n:=4) p2 (Fo.Aj f)]
 refine Af (vG hc hf) ?_
 rw[AJ,Ag]
 cases hm:Ex c f with
 |false =>
  rw[if_pos (.inl rfl)]
  exact⟨rfl,kk⟩
 |true =>
 rw[AK (b:=true) rfl]
 obtain⟨hr,hmay⟩:=H6 hm
 obtain⟨g1,g2,g3⟩:=CQ hr
 rw[Ac,Ae p1 rfl rfl,Ac,Ae p1 rfl rfl,Bz,Ar (by omega) (by omega),←g1,AO,Ag]
 by_cases e1:60<c.gr.inputs
 ·rw[decide_eq_true e1,if_pos (.inr e1)]
  exact⟨rfl,kk⟩
 rw[decide_eq_false e1,A2,if_neg (by rintro(h|h);cases h;exact e1 h)]
 have hcs:Cs c:=⟨hc,hr,by omega⟩
 have hpu:=ON f hf hmay false
 show ∃ q:AV,_
 (repeat (first|with_reducible_and_instances (first|refine WJ ?_|refine W (Ct (n:=8) p1 (by with_unfolding_all rfl)) ?_|refine W (Ct (n:=4) p2 (Fo.Aj f)) ?_|refine W (Ct (n:=5) o3 (Tn.Aj t)) ?_|refine W (Nv (by with_unfolding_all rfl)) ?_|refine W (AN (by with_unfolding_all rfl)) ?_)|refine BE (iL f hf hmay false) rfl rfl ?_|refine CT (iL f hf hmay false) rfl rfl ?_|refine BE (vF hcs t ht (f.push false) hpu) rfl rfl ?_|refine CT (vF hcs t ht (f.push false) hpu) rfl rfl ?_))
 refine Al (fun h=>?_) (fun h=>?_)
 ·rw[if_neg (by simpa using h)]
  exact⟨rfl,kk⟩
 ·have h:(t.acc c (f.push false)).2=true:=by simpa using h
  rw[if_pos h]
  exact⟨by unfold aR;rw[h],kk⟩
theorem not_not{s:Sp}{p:List Bool}(h:In s p):A5 s (A5 s p)=p:=(Bp _ _).eq h fun i hi=>by
 rw[B8,B8,hi,AhQ,AhQ,Bool.not_not]
theorem not_and{s:Sp}{p q:List Bool}(h:In s p)(k:In s q):A5 s (Bm p q)=EC (A5 s p) (A5 s q):=(Bp _ _).eq ((Bp _ _).or (Bp _ _)) fun i hi=>by
 rw[B8,Bi,CR (by rw[(Bp s p).len,(Bp s q).len]),B8,B8,hi]
 cases bit p i<;>cases bit q i<;>rfl
theorem Uz{s:Sp}{p q:List Bool}(h:In s p)(k:In s q):A5 s (EC (A5 s p) q)=Bm p (A5 s q):=(Bp _ _).eq h.and fun i hi=>by
 rw[B8,Bi,CR (by rw[(Bp s p).len,k.len]),B8,B8,hi]
 cases bit p i<;>cases bit q i<;>rfl
theorem Yb{s:Sp}{p q:List Bool}(h:In s p)(k:In s q):A5 s (EC (Bm p q) (A5 s (EC p q)))=EC (Bm p (A5 s q)) (Bm (A5 s p) q):=(Bp _ _).eq (h.and.or (Bp _ _).and) fun i hi=>by
 rw[B8,CR (by rw[h.and.len,(Bp _ _).len]),Bi,B8,CR (by rw[h.len,k.len]),CR (by rw[h.and.len,(Bp s p).and.len]),Bi,Bi,B8,B8,hi]
 cases bit p i<;>cases bit q i<;>rfl
theorem In.Dz{s:Sp}{fr p:List Bool}(h:In s p):In s (Dz s fr p):=In.ex (by simp[h.len])
theorem In.Bn{s:Sp}{fr p q:List Bool}(h:In s q):In s (Bn s fr p q):=In.eu (by simp[h.len])
section
variable {s:Sp} {fr:List Bool} {at_:Int→List Bool} (ha:∀ l,In s (at_ l))
include ha
theorem XF:∀(f:Fo) {d:Int},f.BQ d=true→∀ t,(f.push t).C9 s fr at_=if t then A5 s (f.C9 s fr at_)else f.C9 s fr at_:=by
 intro f
 induction f using Fo.ind with
 |h k n l ks ih =>
  intro d hm t
  have hin:=FI (s:=s) (fr:=fr) (at_:=at_) ha (.mk k n l ks) d hm
  obtain⟨rfl,hd,hc⟩:=Dt hm
  rcases hc with⟨hk,rfl,rfl⟩|⟨rfl,rfl,h0⟩|⟨hk,rfl,f,rfl,hfm⟩|⟨hk,rfl,f,g,rfl,hfm,hgm⟩
  ·rw[I2 hk]
   rcases hk with rfl|rfl
   ·cases t with
    |false=>rfl
    |true =>
     rw[if_pos rfl,if_pos rfl,show C1 1=2 from rfl,EE,DX,not_not (M4 s)]
   ·cases t with
    |false=>rfl
    |true =>
     rw[if_pos rfl,if_pos rfl,show C1 2=1 from rfl,EE,DX]
  ·rw[CU]
   cases t with
   |false=>rfl
   |true =>
    rw[if_pos rfl,if_pos rfl,CI (by decide)]
    rfl
  ·have ihf:=fun t=>ih f (by simp) hfm t
   have inf:=FI (s:=s) (fr:=fr) (at_:=at_) ha f _ hfm
   by_cases h4:k=4
   ·subst h4
    rw[Ho,ihf,CI (by decide)]
    show _=if t=true then A5 s (A5 s (f.C9 s fr at_))else A5 s (f.C9 s fr at_)
    cases t with
    |false=>rfl
    |true=>rw[if_neg (by decide),if_pos rfl,not_not inf]
   rw[Hn (by omega),show Fo.C9 s fr at_ (.mk k ⟨#[]⟩ 0 [f])=QO s fr k (f.C9 s fr at_)from CI (by omega)]
   cases t with
   |false =>
    rw[if_neg (by decide),if_neg (by decide),CI (by omega),ihf,if_neg (by decide)]
   |true =>
    rw[if_pos rfl,if_pos rfl]
    have hdk:=M9 (k:=k) (by omega)
    rw[CI (by omega),ihf,if_pos rfl]
    generalize f.C9 s fr at_=p at *
    have:k=9∨k=10∨k=11∨k=12∨k=13∨k=14:=by omega
    rcases this with rfl|rfl|rfl|rfl|rfl|rfl
    ·show A5 s (Dz s fr (A5 s (A5 s p)))=A5 s (Dz s fr p)
     rw[not_not inf]
    ·show Dz s fr (A5 s p)=A5 s (A5 s (Dz s fr (A5 s p)))
     rw[not_not (In.Dz (Bp _ _))]
    ·show A5 s (Bn s fr s.valid (A5 s (A5 s p)))=A5 s (Bn s fr s.valid p)
     rw[not_not inf]
    ·show DO s (A5 s p)=A5 s (A5 s (DO s (A5 s p)))
     rw[not_not (In.eg (Bp s p).len)]
    ·show A5 s (DO s (A5 s (A5 s p)))=A5 s (DO s p)
     rw[not_not inf]
    ·show Bn s fr s.valid (A5 s p)=A5 s (A5 s (Bn s fr s.valid (A5 s p)))
     rw[not_not (In.Bn (Bp _ _))]
  ·have ihf:=fun t=>ih f (by simp) hfm t
   have ihg:=fun t=>ih g (by simp) hgm t
   have inf:=FI (s:=s) (fr:=fr) (at_:=at_) ha f _ hfm
   have ing:=FI (s:=s) (fr:=fr) (at_:=at_) ha g _ hgm
   by_cases h7:k=7
   ·subst h7
    rw[EH,CH (by decide)]
    show _=if t=true then A5 s (EC (A5 s (f.C9 s fr at_)) (g.C9 s fr at_))else EC (A5 s (f.C9 s fr at_)) (g.C9 s fr at_)
    cases t with
    |false =>
     rw[if_neg (by decide),if_neg (by decide),CH (by decide),ihf,ihg]
     rfl
    |true =>
     rw[if_pos rfl,if_pos rfl,CH (by decide),ihf,ihg,Uz inf ing]
     rfl
   by_cases h8:k=8
   ·subst h8
    rw[FO,CH (by decide),CH (by decide),CH (by decide),CH (by decide),ihf,ihf,ihg,ihg]
    show EC (Bm (f.C9 s fr at_) (if t=true then A5 s (g.C9 s fr at_)else g.C9 s fr at_)) (Bm (A5 s (f.C9 s fr at_)) (if(!t)=true then A5 s (g.C9 s fr at_)else g.C9 s fr at_))=if t=true then A5 s (EC (Bm (f.C9 s fr at_) (g.C9 s fr at_)) (A5 s (EC (f.C9 s fr at_) (g.C9 s fr at_))))else EC (Bm (f.C9 s fr at_) (g.C9 s fr at_)) (A5 s (EC (f.C9 s fr at_) (g.C9 s fr at_)))
    cases t with
    |false =>
     rw[if_neg (by decide),if_pos (show(!false)=true from rfl),if_neg (by decide),not_or inf ing]
    |true =>
     rw[if_pos rfl,if_neg (show ¬ (!true)=true by decide),if_pos rfl,Yb inf ing]
   rw[Ms (by omega),show Fo.C9 s fr at_ (.mk k ⟨#[]⟩ 0 [f,g])=Qu s fr k (f.C9 s fr at_) (g.C9 s fr at_)from CH (by omega)]
   cases t with
   |false =>
    rw[if_neg (by decide),if_neg (by decide),CH (by omega),ihf,ihg,if_neg (by decide),if_neg (by decide)]
   |true =>
    rw[if_pos rfl,if_pos rfl]
    have hdk:=RB (k:=k) (by omega)
    rw[CH (by omega),ihf,ihg,if_pos rfl,if_pos rfl]
    generalize f.C9 s fr at_=p at *
    generalize g.C9 s fr at_=q at *
    have:k=5∨k=6∨k=15∨k=16∨k=17∨k=18:=by omega
    rcases this with rfl|rfl|rfl|rfl|rfl|rfl
    ·show EC (A5 s p) (A5 s q)=A5 s (Bm p q)
     rw[not_and inf ing]
    ·show Bm (A5 s p) (A5 s q)=A5 s (EC p q)
     rw[not_or inf ing]
    ·show A5 s (Bn s fr (A5 s (A5 s p)) (A5 s (A5 s q)))=A5 s (Bn s fr p q)
     rw[not_not inf,not_not ing]
    ·show EC (DO s (A5 s q)) (Bn s fr (A5 s q) (Bm (A5 s p) (A5 s q)))=A5 s (A5 s (EC (Bn s fr (A5 s q) (A5 s (EC p q))) (DO s (A5 s q))))
     rw[not_or inf ing,not_not ((In.Bn (Bp _ _)).or (In.eg (Bp s q).len)),QN (s:=s) (In.eg (Bp s q).len) (In.Bn (Bp _ _))]
    ·show A5 s (EC (Bn s fr (A5 s (A5 s q)) (A5 s (EC (A5 s p) (A5 s q)))) (DO s (A5 s (A5 s q))))=A5 s (EC (DO s q) (Bn s fr q (Bm p q)))
     rw[not_not ing,Uz inf (Bp _ _),not_not ing,QN (s:=s) (In.eg ing.len) (In.Bn inf.and)]
    ·show Bn s fr (A5 s p) (A5 s q)=A5 s (A5 s (Bn s fr (A5 s p) (A5 s q)))
     rw[not_not (In.Bn (Bp _ _))]
end
theorem VJ{c:Ci}{d:Int}{f:Fo}(h:Gd c d f):A0 c (f.push false)=A0 c f:=XF (fun l=>Ey _ _) f h.may false
set_option linter.unusedSectionVars false
abbrev tn0:Tn:=.mk 0 0 0 [] []
structure Shown (c:Ci) (f:Fo) (st:Int) (t:Tn) (is:Bool) (e:Int):Prop where
 has:hasB c f st=(is,e)
 no:is=false→t=tn0
 yes:is=true→Ex c f=true∧∃ s:Nat,st=s∧Good c (f.push false) s t
theorem Z9{c:Ci}{f:Fo}{st:Int}(h0:(BZ c f).2=0)(h1:0≤st∧st<(BZ c f).1.length):hasB c f st=(bit (BZ c f).1 st.toNat,0):=by rw[hasB,if_pos h0,if_pos h1]
theorem Qv{c:Ci}{f:Fo}(h:(BZ c f).2=0):Ex c f=true∧BI c=(Au c,0)∧¬ 10<c.gr.inputs∧(BZ c f).1=A0 c f:=by
 unfold BZ at h ⊢
 by_cases hm:Ex c f=false
 ·rw[if_pos hm]at h;cases h
 ·rw[if_neg hm]at h ⊢
  by_cases hs:(BI c).2=0
  ·obtain⟨h1,h2,h3⟩:=HY hs
   rw[if_pos hs]
   exact⟨by simpa using hm,h1,h3,rfl⟩
  ·rw[if_neg hs]at h;exact absurd h hs
theorem Ag5{c:Ci}(hc:c.ok)(hfair:c.fair.length≤1){f:Fo}(hf:f.ok)(hw:Ex c f=true→(f.push false).wt≤1000000000000000)(st:Int){S:Aa}:Ad Pg 12 [c.av,f.av,aI st] S (fun e S'=>∃ tr,e = .ret tr∧S'=S∧∃ t is e,tr = .t [t.av,aB is,aI e]∧Shown c f st t is e):=by
 refine Ad.NN (Φ:=fun tr=>∃ t is e,tr = .t [t.av,aB is,aI e]∧Shown c f st t is e) (p9 ?_)
 dsimp only[m12,Y6,Y7,Fi]
 refine Ai rfl fun S1 k1 n1 o1=>?_
 refine Ai (Fo.Aj f) fun S2 k2 n2 o2=>?_
 refine Ai rfl fun S3 k3 n3 o3=>?_
 have kk:=(k1.trans k2).trans k3
 have p1:=(Kg k3 (Kg k2 o1))
 have p2:=(Kg k3 o2)
 have cv3:∀{S:Aa} {n:Nat} {a b:AV} {x y:AV},Cv S n a b→Tree x→Tree y→Cv S n (.t [a,x,y]) (.t [b,x,y]):=fun{S n a b x y} h hx hy=>by
  refine .t _ _ rfl fun j u u2 e1 e2=>?_
  match j with
  |0=>cases e1;cases e2;exact h
  |1=>cases e1;cases e2;exact hx _ _
  |2=>cases e1;cases e2;exact hy _ _
  |j+3=>simp at e1
 have fin:∀(T:Aa) (e:Int),Am S T→T.obj S2.n=some (.cells 51 [[.v (.int .i64 0),.v (.int .i64 0),.v (.int .i64 0),.nl,.nl]] true)→hasB c f st=(false,e)→CD [(0,1),(1,1),(2,1),(3,1),(4,1)] [.v (.int .i64 0),.v (.int .i64 0),.v (.int .i64 0),.nl,.nl] [] T fun v T=>A8 5 (.p S2.n 0 0) v T fun _ T=>AB 5 (.p S2.n 0 0) T fun v T =>
     ∃ r tr,Bh.ret (.t [v,.v (.bool false),aI e]) = .ret r∧Am S T∧Cv (T.BA (AL S.n)) S.n r tr∧∃ t is e,tr = .t [t.av,aB is,aI e]∧Shown c f st t is e:=fun T e hk ho hh=>by
  rw[A6 (cs:=[aI 0,aI 0,aI 0,.nl,.nl]) rfl]
  refine AG (cs':=[aI 0,aI 0,aI 0,.nl,.nl]) ho rfl rfl fun T1 n1 o1 f1=>?_
  rw[An (n:=5) o1 rfl]
  refine⟨_,.t [tn0.av,aB false,aI e],rfl,hk.st (id:=S2.n) (by omega) n1 f1,cv3 ?_ (Tree.v _) (Tree.v _),_,_,_,rfl,hh,fun _=>rfl,fun h=>by cases h⟩
  rw[Tn.av,Tn.AD]
  refine .a _ _ rfl fun j u u2 e1 e2=>?_
  match j with
  |0=>cases e1;cases e2;exact .v _
  |1=>cases e1;cases e2;exact .v _
  |2=>cases e1;cases e2;exact .v _
  |3=>cases e1;cases e2;exact .nl
  |4=>cases e1;cases e2;exact .nl
  |j+5=>simp at e1
 rw[An (n:=8) p1 rfl,An (n:=4) p2 (Fo.Aj f)]
 refine Af (AfX hc hf) ?_
 rw[Co,Cn,Bl,Ag]
 refine Al (fun h=>?_) (fun h=>?_)
 ·exact fin S3 _ kk o3 (by rw[hasB,if_neg (by simpa using h)])
 have h0:(BZ c f).2=0:=by simpa using h
 rw[As,Ag]
 refine Al (fun h=>?_) (fun h=>?_)
 ·have:=dT h
  exact fin S3 1 kk o3 (by rw[hasB,if_pos h0,if_neg (by omega)])
 have h1:=dF h
 rw[Ax,BH,Ag]
 refine Al (fun h=>?_) (fun h=>?_)
 ·have:=dT h
  exact fin S3 1 kk o3 (by rw[hasB,if_pos h0,if_neg (by omega)])
 have h2:=dF h
 obtain⟨s,rfl⟩:=AhX (show 0≤st by omega)
 have hj:s<(BZ c f).1.length:=by omega
 have hhas:=Z9 (st:=(s:Int)) h0 ⟨by omega,by omega⟩
 rw[Ai1]at hhas
 rw[AM hj,A1,AJ,Ag]
 refine Al (fun h=>?_) (fun h=>?_)
 ·have hb:bit (BZ c f).1 s=false:=by rw[Bc hj];simpa using h
  exact fin S3 0 kk o3 (by rw[hhas,hb])
 have hb:bit (BZ c f).1 s=true:=by rw[Bc hj];simpa using h
 obtain⟨hmay,hsp,h10,hsem⟩:=Qv h0
 obtain⟨hright,hm60⟩:=H6 hmay
 have wc:Wc c:=⟨hc,hright,h10,hfair⟩
 have hlits:f.DD c.gr=true:=by
  unfold Ex at hmay
  rw[AhO,AhO]at hmay
  exact hmay.2.2
 have gf:Gd c 60 f:=⟨hf,hm60,hlits⟩
 have hpu:=ON f hf hm60 false
 have hbs:bit (A0 c (f.push false)) s=true:=by rw[VJ gf,←hsem];exact hb
 rw[An (n:=8) p1 rfl]
 refine Af (vH hc) ?_
 rw[hsp,Co,Cn]
 refine Ai rfl fun S4 k4 n4 o4=>?_
 refine AG (cs':=(Au c).cells) o4 rfl rfl fun S5 n5 o5 f5=>?_
 have k5:Am S3 S5:=k4.st (AhN _) n5 f5
 rw[Bl,Ag,Be (by rfl),An (n:=8) (Kg k5 p1) rfl,An (n:=5) o5 rfl]
 obtain⟨S6,hS6⟩:∃ S6,S6=S5.new (.map .s [] true):=⟨_,rfl⟩
 have k6:Am S5 S6:=by rw[hS6];exact(Am.refl S5).new _
 have n6:S6.n=S5.n+1:=by rw[hS6];rfl
 have o6:S6.obj S5.n=some (.map .s [] true):=by rw[hS6];exact B1 _
 unfold YG
 rw[←hS6]
 show CD _ _ _ S6 _
 rw[A6 (cs:=fdC c S5.n) rfl]
 refine Ai (mC c S5.n) fun S7 k7 n7 o7=>?_
 have kS7:Am S S7:=(kk.trans k5).trans (k6.trans k7)
 have l5:=k5.1
 have q2:=(Kg k7 (Kg k6 (Kg k5 p2)))
 have q3:=(Kg k7 (Kg k6 (Kg k5 o3)))
 rw[An (n:=4) q2 (Fo.Aj f)]
 have cp:=AfW hf
 rw[show La f=f.push false by rw[La,if_pos hm60]]at cp
 refine Af cp ?_
 have fd:Fd c S6.n S5.n S7:=⟨o7,by omega,by omega,by omega,[],(Kg k7 o6),G2.nil c⟩
 refine Cp (aJ wc (f.push false).wt (hw hmay) hpu (Aj3 _) (hw hmay) hbs fd) fun t S8 g8 fx8=>?_
 have l8:=fx8.1
 refine AG (cs':=t.row) ((fx8.2.2 _ (by omega) (by omega)).trans q3) (Tn.Aj t) rfl fun S9 n9 o9 f9=>?_
 rw[An (n:=5) o9 (Tn.Aj t)]
 refine⟨_,.t [t.av,aB true,aI 0],rfl,?_,cv3 (Tn.tr t _ _) (Tree.v _) (Tree.v _),t,true,0,rfl,by rw[hhas,hb],(fun h=>by cases h),fun _=>⟨hmay,s,rfl,g8⟩⟩
 have kS8:Am S S8:=⟨by have:=kS7.1;omega,fun x hx=>(fx8.2.2 x (by have:=kS7.1;omega) (by have:=kk.1;omega)).trans (kS7.2 x hx)⟩
 exact kS8.st (id:=S2.n) (by omega) n9 f9
theorem LG{c:Ci}(hc:c.ok)(hfair:c.fair.length≤1){f:Fo}(hf:f.ok)(hw:Ex c f=true→(f.push false).wt≤1000000000000000)(st:Int){ca:AV}(hca:∀(S:Aa) (n:Nat),Cv S n ca c.av){S:Aa}{Q:Bh→Aa→Prop}{K:AV→Aa→Prop}
    (k:∀ t is e,Shown c f st t is e→K (.t [t.av,aB is,aI e]) S):Ah Pg 12 [ca,f.av,aI st] S Q K:=by
 refine .inl ((Ad.conv (args:=[ca,f.av,aI st]) (args2:=[c.av,f.av,aI st]) rfl (xS (hca _ _) (Fo.tr f _ _) (.v _)) (Ag5 hc hfair hf hw st)).mono ?_)
 rintro e S' ⟨tr,rfl,rfl,t,is,e,rfl,h⟩
 exact k t is e h
set_option linter.unusedSectionVars false
theorem sE(t:Tn):t.row[1]? = some (aI t.st):=by cases t;rw[Tn.AD];rfl
theorem NP{c:Ci}{f:Fo}{st:Int}{t:Tn}{e:Int}(h:Shown c f st t true e):∃ n,Mc c f t=(n,true)∧t.st=st∧((f.push false).C0=true→n=0)∧e=0:=by
 obtain⟨hm,s,rfl,g⟩:=h.yes rfl
 have hh:=h.has
 have he:e=0∧¬ 10<c.gr.inputs:=by
  unfold hasB at hh
  split at hh
  ·rename_i h0
   obtain⟨_,_,h10,_⟩:=Qv h0
   split at hh
   ·injection hh with _ h2
    exact⟨h2.symm,h10⟩
   ·injection hh with h1 _;cases h1
  ·injection hh with h1 _;cases h1
 refine⟨(t.acc c (f.push false)).1,?_,g.st,g.op,he.1⟩
 unfold Mc
 rw[if_neg (by rintro(h|h);rw[hm]at h;cases h;omega),if_pos g.acc]
 exact Prod.ext rfl g.acc
theorem Ag4{c:Ci}(hc:c.ok)(hfair:c.fair.length≤1){f:Fo}(hf:f.ok)(hw:Ex c f=true→(f.push false).wt≤1000000000000000)(st:Int):BF Pg 10 [c.av,f.av,aI st] (aB true):=by
 intro S
 refine Ad.Bu (qB ?_)
 dsimp only[m10,Fi,Lf]
 refine Ai rfl fun S1 k1 n1 o1=>?_
 refine Ai (Fo.Aj f) fun S2 k2 n2 o2=>?_
 have kk:=k1.trans k2
 have p1:=(Kg k2 o1)
 rw[An (n:=8) p1 rfl,An (n:=4) o2 (Fo.Aj f)]
 refine LG hc hfair hf hw st (fun S n=>Ci.tr' c S n) fun t is e sh=>?_
 rw[Co,Cn,JH]
 refine Ai rfl fun S3 k3 n3 o3=>?_
 refine AG (cs':=t.row) o3 (Tn.Aj t) rfl fun S4 n4 o4 f4=>?_
 have k4:Am S S4:=(kk.trans k3).st (id:=S2.n) (by have:=kk.1;omega) n4 f4
 have q1:=(f4 _ (by omega)).trans (Kg k3 p1)
 have q2:=(f4 _ (by omega)).trans (Kg k3 o2)
 rw[An (n:=8) q1 rfl,An (n:=4) q2 (Fo.Aj f)]
 refine Af (Ag2 hc hf st) ?_
 rw[sh.has,Co,Cn,Bl,Ag,Be (by simp),DI,Ag,Be (by simp),AJ,Ag]
 cases is with
 |false =>
  obtain rfl:=sh.no rfl
  rw[AQ rfl,An (n:=5) o4 (Tn.Aj _)]
  exact Af Ag1 ⟨rfl,k4⟩
 |true =>
  obtain⟨n,ha,hst,hop,he⟩:=NP sh
  obtain⟨hm,_,_,g⟩:=sh.yes rfl
  rw[AK rfl,An (n:=8) q1 rfl,An (n:=4) q2 (Fo.Aj f),An (n:=5) o4 (Tn.Aj _)]
  refine Af (vI hc hf g.ok) ?_
  rw[ha,Co,Cn,Ag,Bf,Ac,Ae o4 rfl (sE t),hst,AA,Ag,Bb (decide_eq_true rfl),AA,Ag]
  refine Al (fun h=>⟨rfl,k4⟩) (fun h=>?_)
  have h:=dF h
  rw[An (n:=4) q2 (Fo.Aj f)]
  refine Af (Ag0 hf (H6 hm).2) ?_
  rw[AJ]
  have:(f.push false).C0=false:=by
   cases ho:(f.push false).C0 with
   |false=>rfl
   |true=>exact absurd (hop ho) h
  exact⟨by rw[this];rfl,k4⟩
set_option linter.unusedSectionVars false
theorem UF:(A3 11 (HB 2)).BQ 60=true∧(A3 11 (HB 2)).DD Ge.gr=true:=by decide
theorem Um:BZ Ge (A3 11 (HB 2))=(A0 Ge (A3 11 (HB 2)),0):=by
 rw[IY,XA UF.1 UF.2]
theorem U8:(A0 Ge (A3 11 (HB 2))).length=2:=by
 rw[Sj,CI (by decide),C8,TX]
 show(IM Sb [true,true] (Bm [false,true] [true,true])).length=2
 rw[PU];rfl
theorem AeS:bit (A0 Ge (A3 11 (HB 2))) 0=true:=by
 rw[Sj,CI (by decide),C8,TX]
 show bit (IM Sb [true,true] (Bm [false,true] [true,true])) 0=true
 rw[D1]
 exact⟨by decide,.step 0 1 rfl rfl (by decide) (.base 1 (by decide) rfl)⟩
theorem AeO:hasB Ge (A3 11 (HB 2)) 0=(true,0):=by
 rw[hasB,Um]
 show(if(0:Int)=0 then if 0≤(0:Int)∧(0:Int)<((A0 Ge (A3 11 (HB 2))).length:Nat)then(bit (A0 Ge (A3 11 (HB 2))) (0:Int).toNat,(0:Int))else(false,1)else _)=_
 rw[if_pos rfl,U8,if_pos (by decide),show(0:Int).toNat=0 from rfl,AeS]
theorem AeN:hasB Ge (A3 11 (HB 2)) 2=(false,1):=by
 rw[hasB,Um]
 show(if(0:Int)=0 then if 0≤(2:Int)∧(2:Int)<((A0 Ge (A3 11 (HB 2))).length:Nat)then(bit (A0 Ge (A3 11 (HB 2))) (2:Int).toNat,(0:Int))else(false,1)else _)=_
 rw[if_pos rfl,U8,if_neg (by decide)]
theorem AeM:hasB Ge (A3 9 (HB 2)) 1=(false,0):=by
 rw[hasB,j4];rfl
theorem AbD:Pu (HB 2):=.a _ (by decide) ⟨by decide,by decide⟩
theorem QH:(A3 11 (HB 2)).push false=A3 11 (HB 2):=by rw[Hn (by decide),CU];rfl
theorem XS:(A3 9 (HB 2)).push false=A3 9 (HB 2):=by rw[Hn (by decide),CU];rfl
abbrev eL:List AV:=[aI 0,.l [[aI 3,aI 0]],.nl,.nl,.nl,.nl,.nl,.nl]
theorem Ma(S:Aa)(n:Nat):Cv S n (.a eL) Ge.av:=by
 refine .a _ _ rfl fun j u u2 e1 e2=>?_
 have ht:=Ci.tr' Ge S n
 match j with
 |0=>cases e1;cases e2;exact .v _
 |1 =>
  cases e1;cases e2
  exact(Tree.l fun c hc u hu=>by
   obtain rfl:=AhT.1 hc
   have hu:u=aI 3∨u=aI 0:=by simpa using hu
   rcases hu with rfl|rfl<;>exact Tree.v _:Tree (.l [[aI 3,aI 0]])) _ _
 |2=>cases e1;cases e2;exact .nl
 |3=>cases e1;cases e2;exact .nl
 |4=>cases e1;cases e2;exact .nl
 |5=>cases e1;cases e2;exact .nl
 |6=>cases e1;cases e2;exact .nl
 |7=>cases e1;cases e2;exact .nl
 |j+8=>simp at e1
abbrev foz(l:Int):List AV:=[aI 3,.v (.string ByteArray.empty),aI l,.nl]
theorem xO(l:Int)(S:Aa)(n:Nat):Cv S n (.a (foz l)) (HB l).av:=by
 rw[Fo.av,Fo.AD]
 refine .a _ _ rfl fun j u u2 e1 e2=>?_
 match j with
 |0=>cases e1;cases e2;exact .v _
 |1=>cases e1;cases e2;exact .v _
 |2=>cases e1;cases e2;exact .v _
 |3=>cases e1;cases e2;exact .nl
 |j+4=>simp at e1
theorem X4(k l:Int){S:Aa}{Q:Bh→Aa→Prop}{K:AV→Aa→Prop}(h:K (A3 k (HB l)).av S):Ah Pg 7 [aI k,.a (foz l)] S Q K:=
 KZ (args:=[aI k,.a (foz l)]) (AfO k (HB l)) rfl (AeU (.v _) (xO l _ _)) h
theorem AhD:BF Pg 9 [] (aB true):=by
 intro S
 refine Ad.Bu (xW ?_)
 dsimp only[m9,Fi,Lf,Lt,Lc]
 have hq:(HB 2).wt≤4:=by rw[Ji,Fo.Qm];decide
 have ok1:(A3 11 (HB 2)).ok:=(Pu.o _ _ (by decide) AbD).ok
 have ok2:(A3 9 (HB 2)).ok:=(Pu.o _ _ (by decide) AbD).ok
 have w1:((A3 11 (HB 2)).push false).wt≤1000000000000000:=by rw[QH,Gj 11 _ (by decide)];show 4+_≤_;omega
 have w2:((A3 9 (HB 2)).push false).wt≤1000000000000000:=by rw[XS,Gj 9 _ (by decide)];show 4+_≤_;omega
 have hf0:Ge.fair.length≤1:=by decide
 rw[A6 (cs:=[aI 3,aI 0]) rfl]
 refine x7 ?_
 rw[A6 (cs:=eL) rfl]
 refine Ai rfl fun S1 k1 n1 o1=>?_
 refine AG (cs':=eL) o1 rfl rfl fun S2 n2 o2 f2=>?_
 have kS2:Am S S2:=k1.st (AhN _) n2 f2
 rw[A6 (cs:=foz 2) rfl]
 refine X4 11 2 ?_
 refine Ai rfl fun S3 k3 n3 o3=>?_
 refine AG (cs':=(A3 11 (HB 2)).row) o3 (Fo.Aj _) rfl fun S4 n4 o4 f4=>?_
 have k4:Am S2 S4:=k3.st (AhN _) n4 f4
 have p1:=(Kg k4 o2)
 rw[An (n:=8) p1 rfl,An (n:=4) o4 (Fo.Aj _)]
 refine LG P0 hf0 ok1 (fun _=>w1) 0 Ma fun t is e sh=>?_
 have hh:=sh.has
 rw[AeO]at hh
 injection hh with e1 e2
 subst e1
 subst e2
 obtain⟨n,ha,hst,hop,_⟩:=NP sh
 obtain⟨_,_,_,g⟩:=sh.yes rfl
 have hn0:n=0:=hop (by rw[QH,Fo.Da];simp[kV,Fo.Da])
 subst hn0
 rw[Co,Cn,JH]
 refine Ai rfl fun S5 k5 n5 o5=>?_
 refine AG (cs':=t.row) o5 (Tn.Aj t) rfl fun S6 n6 o6 f6=>?_
 have k6:Am S4 S6:=k5.st (AhN _) n6 f6
 have l4:=k4.1
 have q1:=(Kg k6 p1)
 have q2:=(Kg k6 o4)
 rw[An (n:=8) q1 rfl,An (n:=4) q2 (Fo.Aj _),An (n:=5) o6 (Tn.Aj _)]
 refine KZ (args:=[.a eL,.a (A3 11 (HB 2)).row,.a t.row]) (vI P0 ok1 g.ok) rfl (xS (Ma _ _) (Fo.tr _ _ _) (Tn.tr t _ _)) ?_
 rw[ha,Co,Cn]
 refine⟨_,fun U hU=>by rw[An (n:=8) (Kg hU q1) rfl];exact⟨rfl,rfl⟩,?_⟩
 refine⟨_,fun U hU=>by rw[A6 (cs:=foz 2) rfl];exact⟨rfl,rfl⟩,?_⟩
 refine⟨_,fun U hU=>X4 9 2 ⟨rfl,rfl⟩,?_⟩
 have three:∀(U:Aa) (Q:Bh→Aa→Prop),Ah Pg 12 [.a eL,(A3 9 (HB 2)).av,aI 1] U Q fun v S=>v = .t [tn0.av,aB false,aI 0]∧S=U:=fun U Q=>LG P0 hf0 ok2 (fun _=>w2) 1 Ma fun t is e sh=>by
  have hh:=sh.has
  rw[AeM]at hh
  injection hh with e1 e2
  subst e1
  subst e2
  rw[sh.no rfl]
  exact⟨rfl,rfl⟩
 refine⟨_,fun U hU=>three U _,?_⟩
 refine⟨_,fun U hU=>by rw[Co];exact⟨rfl,rfl⟩,?_⟩
 refine⟨_,fun U hU=>by rw[Cn];exact⟨rfl,rfl⟩,?_⟩
 refine⟨_,fun U hU=>by rw[JH];exact⟨rfl,rfl⟩,?_⟩
 refine Ai rfl fun S7 k7 n7 o7=>?_
 refine⟨fun U hU=>by rw[JH];exact⟨rfl,rfl⟩,fun U hU=>by rw[Cn];exact⟨rfl,rfl⟩,?_⟩
 refine AG (cs':=tn0.row) o7 (Tn.Aj _) rfl fun S8 n8 o8 f8=>?_
 have k8:Am S6 S8:=k7.st (AhN _) n8 f8
 have l6:=k6.1
 refine⟨fun U hU=>by rw[JH];exact⟨rfl,rfl⟩,fun U hU=>by rw[Cn];exact⟨rfl,rfl⟩,?_⟩
 have r1:=(Kg k8 q1)
 have r2:=(Kg k8 q2)
 have r3:=(Kg k8 o6)
 rw[An (n:=8) r1 rfl,An (n:=4) r2 (Fo.Aj _)]
 refine LG P0 hf0 ok1 (fun _=>w1) 2 Ma fun t3 is3 e3 sh3=>?_
 have hh3:=sh3.has
 rw[AeN]at hh3
 injection hh3 with e1 e2
 subst e1
 subst e2
 rw[Co,Cn,JH]
 refine Ai rfl fun S9 k9 n9 o9=>?_
 refine AG (cs':=t3.row) o9 (Tn.Aj _) rfl fun S10 n10 o10 f10=>?_
 have k10:Am S8 S10:=k9.st (AhN _) n10 f10
 have l8:=k8.1
 have s3:=(Kg k10 r3)
 rw[AA,Ag,Bb (by rfl),Ag,Bf,Ag,Bf,AA,Ag,Bb (by rfl),Ac,Ae s3 rfl (sE t),hst,AA,Ag,Bb (by rfl),AA,Ag,Bb (by rfl),AJ,Ag,AQ rfl,AA]
 exact⟨rfl,((kS2.trans k4).trans k6).trans (k8.trans k10)⟩
theorem Hd(k:Int):rX k≤6:=by
 unfold rX
 split
 ·decide
 ·split<;>decide
theorem kN:∀(f:Fo) {d:Nat},f.BQ (d:Int)=true→∀ t,(f.push t).wt≤20*5 ^ d:=by
 intro f
 induction f using Fo.ind with
 |h k n l ks ih =>
  intro d hm t
  obtain⟨rfl,hd,hc⟩:=Dt hm
  obtain⟨e,rfl⟩:∃ e,d=e+1:=⟨d - 1,by omega⟩
  have hp:1≤5 ^ e:=Nat.one_le_pow _ _ (by decide)
  have hs:(5:Nat) ^ (e+1)=5*5 ^ e:=by rw[Nat.pow_succ,Nat.mul_comm]
  have he:((e+1:Nat):Int) - 1=(e:Int):=by omega
  rw[hs]
  rcases hc with⟨hk,rfl,rfl⟩|⟨rfl,rfl,h0⟩|⟨hk,rfl,f,rfl,hfm⟩|⟨hk,rfl,f,g,rfl,hfm,hgm⟩
  ·rw[I2 hk,Ji,Fo.Qm]
   have:=Hd (if t then C1 k else k)
   omega
  ·rw[CU]
   have e1:(Fo.mk 3 ⟨#[]⟩ l []).wt=4:=by rw[Ji,Fo.Qm];rfl
   split
   ·rw[Gj 4 _ (by decide),e1]
    have:=Hd 4
    omega
   ·omega
  ·rw[he]at hfm
   have hf:=fun t=>ih f (by simp) hfm t
   by_cases h4:k=4
   ·subst h4
    rw[Ho]
    have:=hf (!t)
    omega
   rw[Hn (by omega)]
   have h1:=hf t
   have hdk:=M9 (k:=k) (by omega)
   rw[Gj _ _ (by split<;>omega)]
   have:=Hd (if t then C1 k else k)
   omega
  ·rw[he]at hfm hgm
   have hf:=fun t=>ih f (by simp) hfm t
   have hg:=fun t=>ih g (by simp) hgm t
   have hft:=hf true
   have hff:=hf false
   have hgt:=hg true
   have hgf:=hg false
   by_cases h7:k=7
   ·subst h7
    rw[EH]
    split
    ·rw[FB 5 _ _ (by decide)];have:=Hd 5;omega
    ·rw[FB 6 _ _ (by decide)];have:=Hd 6;omega
   by_cases h8:k=8
   ·subst h8
    have h1:=hg t
    have h2:=hg (!t)
    rw[FO,FB 6 _ _ (by decide),FB 5 _ _ (by decide),FB 5 _ _ (by decide)]
    have:=Hd 6
    have:=Hd 5
    omega
   rw[Ms (by omega),Ji,Uh]
   have h1:=hf t
   have h2:=hg t
   generalize(if t=true then C1 k else k)=k'
   have:=Hd k'
   split<;>omega
inductive Dp:Nat→Fo→Prop
 |mk (d:Nat) (k:Int) (n:ByteArray) (l:Int) (ks:List Fo) (h:∀ f∈ks,Dp d f):Dp (d+1) (.mk k n l ks)
theorem xP{d:Nat}{f:Fo}(h:Dp d f):∀{e:Int},f.BQ e=true→f.BQ (d:Int)=true:=by
 induction h with
 |mk d k n l ks h ih =>
  intro e he
  rw[Fo.CJ]at he ⊢
  simp only[AhO,decide_eq_true_eq,AhW]at he ⊢
  obtain⟨h1,h2,h3,h4,h5⟩:=he
  exact⟨by omega,h2,h3,h4,fun f hf=>by rw[show((d+1:Nat):Int) - 1=(d:Int)by omega];exact ih f hf (h5 f hf)⟩
theorem xA:∀(f:Fo) {d:Nat},f.BQ (d:Int)=true→Dp d f:=by
 intro f
 induction f using Fo.ind with
 |h k n l ks ih =>
  intro d he
  rw[Fo.CJ]at he
  simp only[AhO,decide_eq_true_eq,AhW]at he
  obtain⟨h1,h2,h3,h4,h5⟩:=he
  obtain⟨e,rfl⟩:∃ e,d=e+1:=⟨d - 1,by omega⟩
  exact .mk _ _ _ _ _ fun f hf=>ih f hf (by have:=h5 f hf;rwa [show((e+1:Nat):Int) - 1=(e:Int)by omega]at this)
theorem Dp.q(l:Int):Dp 1 (HB l):=.mk 0 _ _ _ _ fun f hf=>by cases hf
theorem Dp.one{d:Nat}{f:Fo}(k:Int)(h:Dp d f):Dp (d+1) (A3 k f):=.mk _ _ _ _ _ fun g hg=>by
 rw[AhT.1 hg];exact h
theorem Gg.dp:∀(f:Fo) {d:Nat},Gg d f→Dp (d+1) f:=by
 intro f
 induction f using Fo.ind with
 |h k n l ks ih =>
  intro d h
  cases h with
  |mk d _ _ _ h1 h2 h3 h4 h5 h6 hks =>
   refine .mk _ _ _ _ _ fun f hf=>?_
   have:=h6 (by intro e;rw[e]at hf;cases hf)
   have:=ih f hf (hks f hf)
   rwa [show d - 1+1=d by omega]at this
theorem Dp.wt{c:Ci}{d:Nat}(hd:d≤9){f:Fo}(h:Dp d f)(hm:Ex c f=true):(f.push false).wt≤1000000000000000:=by
 have h1:=kN f (xP h (H6 hm).2) false
 have h2:5 ^ d≤5 ^ 9:=AiJ (by decide) hd
 have h3:5 ^ 9=1953125:=by decide
 omega
theorem A4.kp{n:Nat}{S S':Aa}{x:AV}{e:Nat}{es:List (List AV)}(h:A4 n S x e es)(k:Am S S'):A4 n S' x e es:=h.same k.1 fun i _ hi=>k.2 i hi
theorem AaB{α:Type}{f:α→AV}{l:List α}{e n:Nat}(h:n≤l.length){S:Aa}{K:AV→Aa→Prop}:Hi e 1 (aL f l) none (some (aI n)) none S K=K (aL f (l.take n)) S:=by
 simp only[Hi,aL,Ly,Aw,BP,AhR,Int.sub_zero,Ai1,Int.toNat_zero,List.drop_zero,←List.map_take]
 apply propext
 constructor
 ·rintro⟨_,_,hK⟩
  exact hK
 ·intro hK
  exact⟨⟨by omega,by omega,by omega⟩,fun c hc=>by obtain⟨x,_,rfl⟩:=Ai5.1 hc;rfl,hK⟩
theorem sN(n:Nat){S:Aa}{K:AV→Aa→Prop}:VT false (aI n) (aI 12) S K=K (aI (min n 12:Nat)) S:=by
 rw[QQ]
 congr 3
 rw[Nat.min_def]
 split<;>split<;>omega
theorem AeZ{c:Ci}{zc:AV}{T:Aa}:AT Pg 17 [c.rC zc] T c.gr.av:=by
 refine Ad.tree (Ve ?_)
 dsimp only[m17,Lf]
 refine Ai rfl fun S1 k1 n1 o1=>?_
 refine Ai rfl fun S2 k2 n2 o2=>?_
 have p1:S2.obj T.n=_:=(k2.2 T.n (by omega)).trans o1
 rw[Ac,Ae (u:=aI c.inputs) p1 rfl rfl,Ac,Ae (u:=pL c.latches) p1 rfl rfl,Bz,Kh,Ac,Ae (u:=pL c.ands) p1 rfl rfl,A6 (cs:=c.gr.cells) rfl]
 refine AG o2 rfl rfl fun S3 n3 o3 f3=>?_
 rw[An (n:=2) o3 rfl]
 exact⟨_,rfl,(k1.trans k2).st (by omega) n3 f3,c.gr.tree _ _⟩
theorem AgS{l m:List Int}(hl:∀ x∈l,0≤x∧x<65536)(hm:∀ x∈m,0≤x∧x<256){S:Aa}:Ad Pg 6 [aL Lz l,aL yY m] S (fun e S'=>∃ tr,e = .ret tr∧Am S S'∧∃(c:Ci) (f:Fo) (zc:AV),tr = .t [c.rC zc,f.av]∧A4 S.n S' zc 3 (c.cons.map fun p=>[aI p])∧IV c∧Ag9 c.gr.vars f):=by
 refine xZ ?_
 dsimp only[m6,Lt,Lc]
 refine Ai rfl fun S1 k1 n1 o1=>?_
 refine Ai rfl fun S2 k2 n2 o2=>?_
 have p2:=(Kg k2 o1)
 refine .inl ((lG hl).mono ?_)
 rintro e S' ⟨tr,rfl,k',c,zc,rfl,wz,hc,_,_⟩
 show Az _ _ _ _ _
 refine Ai rfl fun S3 k3 n3 o3=>?_
 refine AG (cs':=c.cells.set 5 zc) o3 rfl rfl fun S4 n4 o4 f4=>?_
 have h1:=k'.1
 have k4:=k3.st (AhN _) n4 f4
 have w4:=(A4.kp wz k3).st (id:=S'.n) (fun b m e=>by have:=wz.lt e;omega) n4 f4
 obtain⟨v1,v2,v3⟩:=YN hc
 obtain⟨g1,g2,g3⟩:=CQ hc.right
 have hi:=hc.inp
 have hla:=hc.lats
 refine Gi (n:=8) o4 (by omega) rfl ?_
 refine Gi (n:=8) o4 (by omega) rfl ?_
 refine⟨c.gr.av,fun T hT=>At AeZ ⟨rfl,rfl⟩,?_⟩
 refine G0 (Ox hc.ok.gr (by omega) (by omega)) ?_
 refine⟨aI (2*c.gr.vars),fun T hT=>by rw[Iu (by omega) (by omega)];exact⟨rfl,rfl⟩,?_⟩
 refine .inl ((AaK hm (v:=c.gr.vars) v1 (by omega)).mono ?_)
 rintro e S' ⟨tr,rfl,rfl,f,rfl,hf⟩
 refine⟨fun T hT=>by rw[An (n:=8) (Kg hT o4) rfl];exact⟨rfl,rfl⟩,?_⟩
 refine AG (Kg k4 ((k'.2 _ (by omega)).trans p2)) rfl rfl fun S5 n5 o5 f5=>?_
 refine AG ((f5 _ (by omega)).trans (Kg k4 ((k'.2 _ (by omega)).trans o2))) (Fo.Aj _) rfl fun S6 n6 o6 f6=>?_
 rw[An (n:=8) ((f6 _ (by omega)).trans o5) rfl,An (n:=4) o6 (Fo.Aj _)]
 have w5:=w4.st (id:=S.n) (fun b m e=>by have:=wz.lt e;omega) n5 f5
 have w6:=w5.st (id:=S1.n) (fun b m e=>by have:=wz.lt e;omega) n6 f6
 exact⟨_,rfl,((((k1.trans k2).trans k').trans k4).st (id:=S.n) (by omega) n5 f5).st (id:=S1.n) (by omega) n6 f6,c,f,zc,rfl,w6.low (by omega),hc,hf⟩
theorem X9{S0 S:Aa}{i4 i5 t4 t5:Nat}{c:Ci}{f:Fo}{zc:AV}(hk:Am S0 S)(o4:S.obj i4=some (.cells t4 [c.cells.set 5 zc] true))(o5:S.obj i5=some (.cells t5 [f.row] true))(w:A4 S0.n S zc 3 (c.cons.map fun p=>[aI p]))(hc:c.ok)(hfair:c.fair.length≤1)(hf:f.ok){d:Nat}(hd:d≤9)(hdp:Dp d f)(st:Int)
    {Q:Bh→Aa→Prop} (hQ:∀ S',Am S0 S'→Q (.ret (aB true)) S'):
    Ah Pg 9 [] S Q fun v20 S=>KC v20 fun b=>gd b (AB 8 (.p i4 0 0) S fun v29 S=>AB 4 (.p i5 0 0) S fun v30 S=>Ah Pg 10 [v29,v30,aI st] S Q fun v31 S=>Q (.ret v31) S) (Q (.ret (.v (.bool false))) S):=by
 refine Af AhD ?_
 rw[Ag,Bb rfl,An (n:=8) o4 rfl,An (n:=4) o5 (Fo.Aj f)]
 refine KY (AL S0.n) (args:=[.a (c.cells.set 5 zc),f.av,aI st]) (args2:=[c.av,f.av,aI st]) rfl (xS ?_ (Fo.tr _ _ _) (.v _)) (Ag4 hc hfair hf (hdp.wt hd) st) (hQ _ (hk.BA (AhN _)))
 refine .a _ _ rfl fun k' u u2 e1 e2=>?_
 match k' with
 |0=>cases e1;cases e2;exact .v _
 |1=>cases e1;cases e2;exact ID _ _ _
 |2=>cases e1;cases e2;exact ID _ _ _
 |3=>cases e1;cases e2;exact D7 _ _ _
 |4=>cases e1;cases e2;exact D7 _ _ _
 |5=>cases e1;cases e2;exact LI w (w.fF (AhN _))
 |6=>cases e1;cases e2;exact D7 _ _ _
 |7=>cases e1;cases e2;exact sA _ _ _
 |k+8=>simp[Ci.cells]at e1
theorem AgT{l m:List Int}(hl:∀ x∈l,0≤x∧x<65536)(hm:∀ x∈m,0≤x∧x<256){how n:Int}(hn:Bv n):BF Pg 3 [aL Lz l,aL yY m,yY how,aI n] (aB true):=by
 intro S
 refine Ad.Bu (x6 ?_)
 dsimp only[m3,Y1,Fi,Lf]
 have hm2:∀ x∈m.take (min m.length 12),0≤x∧x<256:=fun x hx=>hm x (List.mem_of_mem_take hx)
 rw[Ax,sN,AaB (Nat.min_le_left _ _)]
 refine .inl ((AgS hl hm2).mono ?_)
 rintro e S0 ⟨tr,rfl,k0,c,f,zc,rfl,wz,hc,hf⟩
 show AZ _ _ _ _
 rw[Co,Cn]
 have h0:=k0.1
 have hco:=hc.ok
 refine Ai rfl fun S1 k1 n1 o1=>?_
 refine Ai rfl fun S2 k2 n2 o2=>?_
 refine AG (cs':=c.cells.set 5 zc) (Kg k2 o1) rfl rfl fun S3 n3 o3 f3=>?_
 refine AG ((f3 _ (by omega)).trans o2) (Fo.Aj f) rfl fun S4 n4 o4 f4=>?_
 have p3:=(f4 S0.n (by omega)).trans o3
 have kk:=k0.trans (((k1.trans k2).st (AhN _) n3 f3).st (id:=S1.n) (by omega) n4 f4)
 have w3:=(A4.kp wz (k1.trans k2)).st (id:=S0.n) (fun b m e=>by have:=wz.lt e;omega) n3 f3
 have w4:=w3.st (id:=S1.n) (fun b m e=>by have:=wz.lt e;omega) n4 f4
 have hQ:∀ S',Am S S'→(Bh.ret (aB true) = .ret (aB true)∧Am S S'):=fun _ h=>⟨rfl,h⟩
 have okQ:(Fo.mk 3 ⟨#[]⟩ n []).ok:=.mk _ _ _ _ ⟨by decide,by decide⟩ hn (by decide) (by decide) (fun _ h=>by cases h)
 have hdp:Dp 7 f:=xA f hf.may
 rw[Ez (by decide),AA,Ag]
 refine Al (fun _=>?_) (fun _=>?_)
 ·rw[A6 (cs:=[aI 3,.v (.string ⟨#[]⟩),aI n,.nl]) rfl]
  refine KZ (args:=[aI 9,.a [aI 3,.v (.string ⟨#[]⟩),aI n,.nl]]) (AfO 9 (HB n)) rfl (AeU (.v _) (xR 3 n)) ?_
  refine AG o4 (Fo.Aj _) (Fo.Aj _) fun S5 n5 o5 f5=>?_
  have w5:=w4.st (id:=S1.n) (fun b m e=>by have:=wz.lt e;omega) n5 f5
  exact X9 (kk.st (by omega) n5 f5) ((f5 _ (by omega)).trans p3) o5 w5 hco hc.fair (.mk _ _ _ _ ⟨by decide,by decide⟩ ⟨by decide,by decide⟩ (by decide) (by simp) fun f hf=>by rw[AhT.1 hf];exact okQ) (d:=2) (by decide) ((Dp.q n).one 9) 0 hQ
 rw[AA,Ag]
 refine Al (fun _=>?_) (fun _=>?_)
 ·rw[Ax,sN,AaB (Nat.min_le_left _ _)]
  refine .inl ((sP hm2).mono ?_)
  rintro e S' ⟨tr,rfl,rfl,f2,rfl,hf2⟩
  refine AG o4 (Fo.Aj _) (Fo.Aj _) fun S5 n5 o5 f5=>?_
  have w5:=w4.st (id:=S1.n) (fun b m e=>by have:=wz.lt e;omega) n5 f5
  exact X9 (kk.st (by omega) n5 f5) ((f5 _ (by omega)).trans p3) o5 w5 hco hc.fair (Gg.ok _ _ hf2) (d:=7) (by decide) (Gg.dp _ hf2) 0 hQ
 rw[AA,Ag]
 refine Al (fun _=>?_) (fun _=>?_)
 ·rw[Ac,Ae (u:=zc) p3 rfl rfl]
  refine BM rfl (fun _ h=>by cases h) ?_
  have hll:=hc.cons
  refine w4.app (c:=[aI n]) (by omega) rfl (by rw[AhR];omega) (fun z S5 w5 b5 hz=>?_) rfl
  obtain⟨mz,hmz⟩:=hz
  have p5:=(b5.2 S0.n (by omega) (fun b m e=>by have:=wz.lt e;omega)).trans p3
  have q5:=(b5.2 S1.n (by omega) (fun b m e=>by have:=wz.lt e;omega)).trans o4
  have kk5:Am S S5:=⟨by have:=b5.1;have:=kk.1;omega,fun i hi=>(b5.2 i (by have:=kk.1;omega) (fun b m e=>by
   rcases w4 with⟨h,_⟩|⟨id,h,h2,_⟩
   ·rw[h]at e;cases e
   ·rw[h]at e;injection e with e;omega)).trans (kk.2 i hi)⟩
  rw[Ac]
  refine B4 p5 (by simp[Ci.cells]) (by rw[hmz];rfl) fun S6 n6 o6 f6=>?_
  have w6:=w5.st (id:=S0.n) (fun b m e=>by rw[hmz]at e;injection e with e;omega) n6 f6
  have hcl:(c.cons ++ [n]).length≤9223372036854775807:=by rw[Ai2,AiG];omega
  refine X9 (c:={ c with cons:=c.cons ++ [n] }) (kk5.st (by omega) n6 f6) o6 ((f6 _ (by omega)).trans q5) (by rw[AhU];exact w6) ⟨hco.inp,hco.llen,hco.alen,hco.lats,hco.pairs,hco.outs,hco.bads,⟨fun x hx=>?_,hcl⟩,hco.fair,hco.names,hco.nlen⟩ hc.fair hf.ok (d:=7) (by decide) hdp 0 hQ
  rcases Ai8.1 hx with hx|hx
  ·exact hco.cons.1 x hx
  ·rw[AhT.1 hx];exact hn
 rw[AA,Ag]
 refine Al (fun _=>?_) (fun _=>?_)
 ·obtain⟨fk,fn,fl,fs⟩:=f
  rw[Ac,Ae (u:=Du fs) o4 (by rw[Fo.AD];rfl) rfl,A6 (cs:=(Fo.mk n ⟨#[]⟩ 0 fs).row) (by rw[Fo.AD];rfl)]
  refine AG o4 (Fo.Aj _) (Fo.Aj _) fun S5 n5 o5 f5=>?_
  have w5:=w4.st (id:=S1.n) (fun b m e=>by have:=wz.lt e;omega) n5 f5
  obtain⟨_,_,_,q4,q5⟩:=hf.ok.inv
  have hdp2:Dp 7 (Fo.mk n ⟨#[]⟩ 0 fs):=by
   cases hdp with
   |mk d _ _ _ _ h=>exact .mk _ _ _ _ _ h
  exact X9 (kk.st (by omega) n5 f5) ((f5 _ (by omega)).trans p3) o5 w5 hco hc.fair (.mk _ _ _ _ hn ⟨by decide,by decide⟩ (by decide) q4 q5) (d:=7) (by decide) hdp2 0 hQ
 ·exact X9 kk p3 o4 w4 hco hc.fair hf.ok (d:=7) (by decide) hdp n hQ
end
end Go.Proofs.YteooinddnfbglaaGreatDoor.G
